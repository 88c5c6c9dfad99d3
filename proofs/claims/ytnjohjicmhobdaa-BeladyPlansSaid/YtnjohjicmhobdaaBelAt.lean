/-
  The tree of uses: the key at a place.
  Trees of fewer than 1,000,000,000 keys; no other condition.
-/
import Derived.Test.YtnjohjicmhobdaaTrUs
import Derived.Test.YtnjohjicmhobdaaSegK
import Derived.BigRegion
namespace Go.Proofs.Ytnjohjicmhobdaa.TrUs
open Go.RowKit Go.Seg Go.Open Go.Lib Rk

theorem results_cell_two {fn : Func} {p u u2 : Tmp} {ty : TypeId} (h : fn.results = #[.cell p ty, .tmp u, .tmp u2]) (tmps : Array Value) (P : Program) (w : World) :
    (results fn tmps).run P w =
      ((asAddr (tmps.getD p undef)).run P w).andThen fun a w₁ => ((loadVar ty a).run P w₁).andThen fun v w₂ => .ok (.tuple #[v, tmps.getD u undef, tmps.getD u2 undef]) w₂ := by
  simp only [results, h]
  simp [Sem.run_bind, Result.andThen]
theorem results_struct2 {P : Program} {fn : Func} {p u u2 : Tmp} {ty : TypeId} (h : fn.results = #[.cell p ty, .tmp u, .tmp u2]) {tmps : Array Value} {k : Nat} {c : Array Value} {W : World} {x y : Value}
    (hp : tmps.getD p undef = .pointer (some ⟨k, 0, none⟩)) (hx : tmps.getD u undef = x) (hy : tmps.getD u2 undef = y) (hB : Blk W k c ty)
    (hd : (match P.underlying ty with | some (.struct _) | some (.array _ _) => true | _ => false) = true) (hi : (P.info? ty).map (·.size) = some c.size) :
    (results fn tmps).run P W = .ok (.tuple #[.agg c, x, y]) W := by
  rw [results_cell_two h, hp, hx, hy]
  simp only [asAddr, Sem.run_pure, Result.andThen]
  cases hu : P.underlying ty with
  | none => simp [hu] at hd
  | some d =>
  rw [run_loadVar_row W k ty ty c (0, 0) d hB hu (by rw [hu] at hd; cases d <;> first | rfl | exact hd) hi]

set_option maxRecDepth 100000 in
set_option maxHeartbeats 2000000 in
theorem At_any (t : T (Int × Int) Bool) (i : Int) (k : Int × Int) (v : Bool) (p : Option Addr) (w : World) (h : isTree w p t) (hs : t.sz < 1000000000) (h0 : 0 ≤ i) (hlt : i < t.sz) (hi : T.at i t = some (k, v)) :
    Calls Try.prog 56 #[.pointer p, .int .i64 i] w fun e w' => e = .returned (.tuple #[.agg #[.int .i64 k.1, .int .i64 k.2], .bool v, .bool true]) ∧ Ext w w' := by
  have hA : Ext w (w.alloc (Obj.cells #[.int .i64 0, .int .i64 0] 100)) := (Below.refl _ _).alloc (Nat.le_refl _) _
  have HR := Lib.hid (show Blk (w.alloc (Obj.cells #[.int .i64 0, .int .i64 0] 100)) w.heap.size #[.int .i64 0, .int .i64 0] 100 from Blk.new _ _ _)
  obtain ⟨tb, root, rfl, hT, hRt⟩ := h
  have t1 := (hT.ext hA).c1
  have H0 := Lib.hid (hRt.ext hA)
  have HI := Lib.hid hi
  have d0 : decide (i < 0) = false := decide_eq_false (by omega)
  clear hT hRt hi
  go_enter Try.func56, Try.ntmps56
  go_wp2_with fail
  clear t1
  go_loopg [1, 7] t.sz.toNat (fun g ii x wr => ∃ (s : T (Int × Int) Bool) (q : Option Addr) (i' : Int), x = .pointer q ∧ ii = .int .i64 i' ∧ isT wr q s ∧ Ext (w.alloc (Obj.cells #[.int .i64 0, .int .i64 0] 100)) wr ∧ T.at i' s = some (k, v) ∧ 0 ≤ i' ∧ i' ≤ i ∧ s.sz ≤ t.sz ∧ s.sz.toNat ≤ g)
  case atStart => exact ⟨t, root, i, rfl, rfl, H0.out, Ext.refl _, HI.out, h0, Int.le_refl _, Int.le_refl _, Nat.le_refl _⟩
  case round =>
    obtain ⟨s, q, i', rfl, rfl, hq, hE, hat, hi0, hi1, hsz, hg⟩ := hrel
    have HE := Lib.hid hE
    clear hE d0
    cases s with
    | nil => simp [T.at] at hat
    | node xk xv l r =>
      obtain ⟨b, pl, pr, rfl, hb, hl, hr⟩ := isT_node hq
      simp only [T.sz] at hsz hg
      have g1 := l.sz_nn
      have g2 := r.sz_nn
      have HB := Lib.hid hb
      have H1 := Lib.hid hl
      have H2 := Lib.hid hr
      have HAT := Lib.hid hat
      have c3 := hb.c3
      clear hb hl hr hq hat
      go_wp2_with fail
      refine (size_any _ _ _ H1.out).mono ?_
      rintro e w' ⟨rfl, rfl⟩
      by_cases q1 : i' < l.sz
      · have d1 : decide (i' < l.sz) = true := decide_eq_true q1
        have HA1 := Lib.hid (show T.at i' l = some (k, v) by have := HAT.out; simp only [T.at] at this; rwa [if_pos q1] at this)
        go_wp2_with fail
        go_roundg l.sz.toNat
        case measure => omega
        case rel => exact ⟨l, pl, i', rfl, rfl, H1.out, HE.out, HA1.out, hi0, hi1, by omega, Nat.le_refl _⟩
      · have d1 : decide (i' < l.sz) = false := decide_eq_false q1
        by_cases q2 : l.sz < i'
        · have d2 : decide (l.sz < i') = true := decide_eq_true q2
          have HA1 := Lib.hid (show T.at (i' - l.sz - 1) r = some (k, v) by have := HAT.out; simp only [T.at] at this; rwa [if_neg q1, if_pos q2] at this)
          clear c3
          go_wp2_with fail
          refine wp_region_segsK [([7, 1, 1, 1], 0, 0), ([2], 2, 10)] (by kernel_rfl) (by kernel_rfl) ?_
          apply segsK_pure
          · intro W
            simp only [runsT, runsF, rep, pick]
            go_wp2_with fail
            exact ⟨rfl, rfl⟩
          simp only [runsT, runsF, rep, left]
          apply segsK_look
          · have c0 := (HB.out.ext (Ext.drew _)).c0
            have c1 := (HB.out.ext (Ext.drew _)).c1
            have c2 := (HB.out.ext (Ext.drew _)).c2
            have c3 := (HB.out.ext (Ext.drew _)).c3
            have c4 := (HB.out.ext (Ext.drew _)).c4
            have c5 := (HB.out.ext (Ext.drew _)).c5
            have c6 := (HB.out.ext (Ext.drew _)).c6
            simp only [runsT, runsF, rep, pick]
            go_wp2_with fail
            exact ⟨rfl, rfl⟩
          simp only [runsT, runsF, rep, left]
          apply segsK_nil
          go_wp2_with fail
          go_roundg r.sz.toNat
          case measure => omega
          case rel => exact ⟨r, pr, i' - l.sz - 1, rfl, by go_num, H2.out.ext (Ext.drew _), HE.out.trans (Ext.drew _), HA1.out, by omega, by omega, by omega, Nat.le_refl _⟩
        · have d2 : decide (l.sz < i') = false := decide_eq_false q2
          have hkv : xk = k ∧ xv = v := by have := HAT.out; simp only [T.at] at this; rw [if_neg q1, if_neg q2] at this; simpa using this
          have HKV := Lib.hid hkv
          clear hkv
          clear c3
          go_wp2_with fail
          have HRr := Lib.hid (HR.out.ext HE.out)
          have z0 := HRr.out.cell (i := 0) rfl
          have y0 := HRr.out.frozen 0
          have z1 := HRr.out.cell (i := 1) rfl
          have y1 := HRr.out.frozen 1
          have c0 := HB.out.c0
          have c1 := HB.out.c1
          have c2 := HB.out.c2
          have hbn : b ≠ w.heap.size := fun e => by
            have h1 := HB.out
            have h2 := HRr.out
            unfold NodeAt Blk at h1
            unfold Blk at h2
            rw [e, h2] at h1
            simp at h1
          go_region
          clear z0 y0 z1 y1 c0 c1 c2 hbn
          go_wp2_with fail
          (try simp only [Exit.inBlock, Exit.then])
          have hb2 : Blk ((wr.setCell ⟨w.heap.size, 0, none⟩ (.int .i64 xk.1)).setCell ⟨w.heap.size, 1, none⟩ (.int .i64 xk.2)).drew w.heap.size #[.int .i64 xk.1, .int .i64 xk.2] 100 := Blk.drew ((HRr.out.set 0 _ rfl).set 1 _ rfl)
          refine bodyPost_ret (results_struct2 (ty := 100) rfl rfl rfl rfl hb2 (by kernel_rfl) (by kernel_rfl)) rfl ?_
          refine ⟨by rw [← HKV.out.1, ← HKV.out.2]; rfl, ?_⟩
          have h1 : Below w.heap.size w wr := below_ext hA HE.out
          exact (((h1.setCell (p := ⟨w.heap.size, 0, none⟩) (Nat.le_refl _) _).setCell (p := ⟨w.heap.size, 1, none⟩) (Nat.le_refl _) _)).drew
end Go.Proofs.Ytnjohjicmhobdaa.TrUs
