/-
  The document's answer for layer 22: set.
  Fewer than 1,000,000 of each; no other condition.
-/
import Derived.Test.YtnpfikabcmngpaaShR3
namespace Go.Proofs.Ytnpfikabcmngpaa.ShR
open Go.RowKit Go.Seg Go.Open Go.Lib Rk Go.Row

/-- What is on its way, anew of one hash. -/
def setR (Wy : List (Int × Int × Int)) (x : Int × Int × Int) : List (Int × Int × Int) := restR Wy x.1 ++ (if 0 < x.2.1 then [x] else [])
theorem setR_len (Wy : List (Int × Int × Int)) (x : Int × Int × Int) : (setR Wy x).length ≤ Wy.length + 1 := by
  have := restR_len Wy x.1
  unfold setR
  rw [List.length_append]
  split <;> simp <;> omega

set_option maxRecDepth 100000 in
set_option maxHeartbeats 4000000 in
theorem rset (uL uW : Value) (B : Nat) (L : List (Int × En)) (Wy : List (Int × Int × Int)) (h m t : Int) (w : World) (hL : RowL w B uL L) (hW : RowW w B uW Wy) (hl : Wy.length ≤ 999998) :
    Calls Try.prog 83 #[.agg #[uL, uW], .agg #[.int .u64 h, .int .i64 m, .int .i64 t]] w fun e w' => ∃ uW', e = .returned (.agg #[uL, uW']) ∧ RowW w' w.heap.size uW' (setR Wy (h, m, t)) ∧ Ext w w' := by
  obtain ⟨a, cap, b, F, rfl, _, ha, hF, hc⟩ := hW.openG encW_len
  obtain ⟨a2, cap2, rfl⟩ := hL.val
  have HA := Lib.hid ha
  have HC := Lib.hid hc
  have HF := Lib.hid hF
  clear ha hc hF hL hW
  go_enter Try.func83, Try.ntmps83
  go_wp2_with fail
  obtain ⟨W0, hW0⟩ : ∃ W, (((w.alloc (.cells #[.slice a2 L.length cap2, .slice a Wy.length cap] 30)).alloc (.cells #[.int .u64 h, .int .i64 m, .int .i64 t] 52)).alloc (.cells #[.slice none 0 0, .slice none 0 0] 30)).alloc (.cells #[.slice a2 L.length cap2, .slice none 0 0] 30) = W := ⟨_, rfl⟩
  have hE0 : Ext w W0 := by rw [← hW0]; exact ((((Below.refl _ _).alloc (Nat.le_refl _) _).alloc (by simp) _).alloc (by simp; omega) _).alloc (by simp; omega) _
  have hP : Blk W0 w.heap.size #[.slice a2 L.length cap2, .slice a Wy.length cap] 30 := by rw [← hW0]; exact (((Blk.new _ _ _).ext ((Below.refl _ _).alloc (Nat.le_refl _) _)).ext ((Below.refl _ _).alloc (Nat.le_refl _) _)).ext ((Below.refl _ _).alloc (Nat.le_refl _) _)
  have hX : Blk W0 (w.heap.size + 1) #[.int .u64 h, .int .i64 m, .int .i64 t] 52 := by rw [← hW0]; exact (Blk.ext (blk_at (by simp)) ((Below.refl _ _).alloc (Nat.le_refl _) _)).ext ((Below.refl _ _).alloc (Nat.le_refl _) _)
  have hR : Blk W0 (w.heap.size + 1 + 1) #[.slice none 0 0, .slice none 0 0] 30 := by rw [← hW0]; exact Blk.ext (blk_at (by simp)) ((Below.refl _ _).alloc (Nat.le_refl _) _)
  have hO : Blk W0 (w.heap.size + 1 + 1 + 1) #[.slice a2 L.length cap2, .slice none 0 0] 30 := by rw [← hW0]; exact blk_at (by simp)
  rw [hW0]
  have HS := Lib.hid (And.intro hE0 (And.intro hP (And.intro hX (And.intro hR hO))))
  clear hW0 hE0 hP hR hO hX
  go_loopg [6] Wy.length (fun g i wr => ∃ (n : Nat) (v : Value) (L' : List (Int × Int × Int)), i = .int .i64 n ∧ n ≤ Wy.length ∧ Hid (restR (Wy.take n) h = L') ∧ (RowW wr (w.heap.size + 4) v L' ∧ Ext w wr ∧ Blk wr w.heap.size #[.slice a2 L.length cap2, .slice a Wy.length cap] 30 ∧ Blk wr (w.heap.size + 1) #[.int .u64 h, .int .i64 m, .int .i64 t] 52 ∧ Blk wr (w.heap.size + 1 + 1) #[.slice none 0 0, .slice none 0 0] 30 ∧ Blk wr (w.heap.size + 1 + 1 + 1) #[.slice a2 L.length cap2, v] 30) ∧ Wy.length - n ≤ g)
  case atStart => exact ⟨0, .slice none 0 0, [], rfl, Nat.zero_le _, Lib.hid rfl, ⟨RowG.nil _ _, HS.out.1, HS.out.2.1, HS.out.2.2.1, HS.out.2.2.2.1, HS.out.2.2.2.2⟩, Nat.le_refl _⟩
  case round =>
    obtain ⟨n, v, L', rfl, hn, HL', hS, hg⟩ := hrel
    have hLn : L'.length ≤ n := by
      rw [← HL'.out]
      have := restR_len (Wy.take n) h
      rw [List.length_take] at this
      omega
    obtain ⟨av, cv, rfl⟩ := hS.1.val
    have HRow := Lib.hid hS.1
    have HE := Lib.hid hS.2.1
    have HB0 := Lib.hid hS.2.2.1
    have HB1 := Lib.hid hS.2.2.2.1
    have HB2 := Lib.hid hS.2.2.2.2.1
    have HB3 := Lib.hid hS.2.2.2.2.2
    have p0 := hS.2.2.1.cell (i := 1) rfl
    clear hS
    by_cases hik : n < Wy.length
    · obtain rfl := HA.out (by omega)
      have HRd := Lib.hid ((HRow.out.ext (Ext.drew wr)).ext (Ext.drew wr.drew))
      have HEd := Lib.hid (HE.out.trans (Ext.drew wr))
      have HEdd := Lib.hid (HEd.out.trans (Ext.drew wr.drew))
      have HB3d := Lib.hid ((HB3.out.ext (Ext.drew wr)).ext (Ext.drew wr.drew))
      have HB2d := Lib.hid ((HB2.out.ext (Ext.drew wr)).ext (Ext.drew wr.drew))
      have HB1d := Lib.hid (HB1.out.ext (Ext.drew wr))
      have HB1dd := Lib.hid (HB1d.out.ext (Ext.drew wr.drew))
      have HB0d := Lib.hid (HB0.out.ext (Ext.drew wr))
      have HB0dd := Lib.hid (HB0d.out.ext (Ext.drew wr.drew))
      by_cases hk : (F n).1 = h
      · have d : ((F n).1 != h) = false := by simp [hk]
        have E : Hid (restR (Wy.take (n + 1)) h = L') := Lib.hid (by rw [take_snoc hik, restR_snoc, ← HF.out n hik, if_pos hk]; exact HL'.out)
        clear hk
        go_wp2_with fail
        clear p0
        refine wp_region_segsK [([1, 1, 1, 3, 1, 2], 0, 0), ([6], 2, 9)] (by kernel_rfl) (by kernel_rfl) ?_
        apply segsK_pure
        · intro W
          simp only [runsT, runsF, rep, pick]
          go_wp2_with fail
          exact ⟨rfl, rfl⟩
        simp only [runsT, runsF, rep, left]
        apply segsK_look
        · have q0 := HB0d.out.cell (i := 1) rfl
          have q1 := HB1d.out.cell (i := 0) rfl
          have hcn := HC.out _ (HEd.out) n hik
          have x0 := hcn 0 (by decide)
          have x1 := hcn 1 (by decide)
          have x2 := hcn 2 (by decide)
          simp [encW, RSW] at x0 x1 x2
          clear hcn
          simp only [runsT, runsF, rep, pick]
          go_wp2_with fail
          exact ⟨rfl, rfl⟩
        simp only [runsT, runsF, rep, left]
        apply segsK_nil
        go_wp2_with fail
        go_roundg (Wy.length - (n + 1))
        case measure => omega
        case rel => exact ⟨n + 1, _, L', by go_num, by omega, E, ⟨HRow.out.ext (Ext.drew wr), HEd.out, HB0d.out, HB1d.out, HB2.out.ext (Ext.drew wr), HB3.out.ext (Ext.drew wr)⟩, Nat.le_refl _⟩
      · have d : ((F n).1 != h) = true := by simp [hk]
        have E : Hid (restR (Wy.take (n + 1)) h = L' ++ [F n]) := Lib.hid (by rw [take_snoc hik, restR_snoc, ← HF.out n hik, if_neg hk, HL'.out])
        have hlt3 := HB3d.out.lt
        clear hk
        go_wp2_with fail
        clear p0
        refine wp_region_segsK [([1, 1, 1, 3, 1, 2], 0, 0), ([6], 2, 9)] (by kernel_rfl) (by kernel_rfl) ?_
        apply segsK_pure
        · intro W
          simp only [runsT, runsF, rep, pick]
          go_wp2_with fail
          exact ⟨rfl, rfl⟩
        simp only [runsT, runsF, rep, left]
        apply segsK_look
        · have q0 := HB0d.out.cell (i := 1) rfl
          have q1 := HB1d.out.cell (i := 0) rfl
          have hcn := HC.out _ (HEd.out) n hik
          have x0 := hcn 0 (by decide)
          have x1 := hcn 1 (by decide)
          have x2 := hcn 2 (by decide)
          simp [encW, RSW] at x0 x1 x2
          clear hcn
          simp only [runsT, runsF, rep, pick]
          go_wp2_with fail
          exact ⟨rfl, rfl⟩
        simp only [runsT, runsF, rep, left]
        apply segsK_nil
        go_wp2_with fail
        refine wp_region_segsK [([1, 1, 1, 1, 1, 6], 0, 0), ([4, 4], 3, 8), ([1, 2], 1, 0), ([1, 1], 0, 0), ([1], 1, 0)] (by kernel_rfl) (by kernel_rfl) ?_
        apply segsK_pure
        · intro W
          simp only [runsT, runsF, rep, pick]
          go_wp2_with fail
          exact ⟨rfl, rfl⟩
        simp only [runsT, runsF, rep, left]
        apply segsK_class
        · intro W hW
          have q2 := (HB3d.out.ext hW).cell (i := 1) rfl
          have q0 := (HB0dd.out.ext hW).cell (i := 1) rfl
          have hcn := HC.out _ (HEdd.out.trans hW) n hik
          have x0 := hcn 0 (by decide)
          have x1 := hcn 1 (by decide)
          have x2 := hcn 2 (by decide)
          simp [encW, RSW] at x0 x1 x2
          clear hcn
          simp only [runsT, runsF, rep, pick]
          go_wp2_with fail
          exact ⟨rfl, rfl⟩
        simp only [runsT, runsF, rep, left]
        go_wp2_with fail
        refine ⟨fun _ => (Below.refl _ _).alloc (Nat.le_refl _) _, ?_⟩
        apply segsK_op
        refine appG (R := RSW) (f := encW) (W := wr.drew.drew) rfl _ _ rfl _ L' rfl HRd.out (F n) _ rfl rfl (encW_one _) wr.heap.size rfl rfl (by omega) HEdd.out (Nat.le_add_right _ _) (show w.heap.size + 4 ≤ wr.drew.drew.heap.size by omega) ?_
        intro a1 c1 w2 hO1 hE1 hz1 hb1
        have hB3' : Blk w2 (w.heap.size + 1 + 1 + 1) #[.slice a2 L.length cap2, .slice av L'.length cv] 30 := (hb1 _ (RowG.apart HRd.out (by omega)) (by omega)).trans HB3d.out
        have hB2' : Blk w2 (w.heap.size + 1 + 1) #[.slice none 0 0, .slice none 0 0] 30 := (hb1 _ (RowG.apart HRd.out (by omega)) (by omega)).trans HB2d.out
        have hB1' : Blk w2 (w.heap.size + 1) #[.int .u64 h, .int .i64 m, .int .i64 t] 52 := (hb1 _ (RowG.apart HRd.out (by omega)) (by omega)).trans HB1dd.out
        have hB0' : Blk w2 w.heap.size #[.slice a2 L.length cap2, .slice (some ⟨b, 0, none⟩) Wy.length cap] 30 := (hb1 _ (RowG.apart HRd.out (by omega)) (by omega)).trans HB0dd.out
        have z0 := hB3'.cell (i := 1) rfl
        have z1 := hB3'.frozen 1
        have HF2 := Lib.hid (And.intro hO1 (And.intro hE1 (And.intro hB0' (And.intro hB1' (And.intro hB2' hB3')))))
        clear hO1 hE1 hz1 hb1 hB0' hB1' hB2' hB3'
        go_wp2_with fail
        refine ⟨fun h => (by cases h), ?_⟩
        apply segsK_pure
        · intro W
          simp only [runsT, runsF, rep, pick]
          go_wp2_with fail
          exact ⟨rfl, rfl⟩
        simp only [runsT, runsF, rep, left]
        apply segsK_op
        go_wp2_with fail
        refine ⟨fun h => (by cases h), ?_⟩
        apply segsK_nil
        clear z0 z1
        go_wp2_with fail
        go_roundg (Wy.length - (n + 1))
        case measure => omega
        case rel =>
          obtain ⟨k1, k2, k3, k4, k5, k6⟩ := HF2.out
          have c1' := Chg.set w2 (w.heap.size + 1 + 1 + 1) 1 (.slice a1 (L'.length + 1) c1)
          have hoff : ∀ {E : TypeId}, (30 : TypeId) ≠ E → Off (· = w.heap.size + 1 + 1 + 1) w2 E := fun hE => .one k6 hE
          refine ⟨n + 1, _, L' ++ [F n], by go_num, by omega, E, ⟨RowG.chg k1 c1' (hoff (by decide)), ?_, ?_, ?_, ?_, k6.set 1 _ rfl⟩, Nat.le_refl _⟩
          · exact Below.setCell (p := ⟨w.heap.size + 1 + 1 + 1, 1, none⟩) k2 (show w.heap.size ≤ w.heap.size + 1 + 1 + 1 by omega) _
          · exact (Below.heap_setCell _ _ _ _ (by simp <;> omega)).trans k3
          · exact (Below.heap_setCell _ _ _ _ (by simp <;> omega)).trans k4
          · exact (Below.heap_setCell _ _ _ _ (by simp)).trans k5
    · obtain rfl : n = Wy.length := by omega
      have hdn : decide ((Wy.length : Int) < (Wy.length : Int)) = false := decide_eq_false (by omega)
      have E : Hid (restR Wy h = L') := Lib.hid (by have := HL'.out; rwa [List.take_length] at this)
      have q0 := HB3.out.cell (i := 0) rfl
      have q1 := HB3.out.cell (i := 1) rfl
      have q2 := HB3.out.frozen 1
      have x0 := HB1.out.cell (i := 0) rfl
      have x1 := HB1.out.cell (i := 1) rfl
      have x2 := HB1.out.cell (i := 2) rfl
      have hlt3 := HB3.out.lt
      clear hik
      by_cases hm : m > 0
      · have d : decide (m > 0) = true := decide_eq_true hm
        have E2 : Hid (setR Wy (h, m, t) = L' ++ [(h, m, t)]) := Lib.hid (by unfold setR; rw [E.out, if_pos hm])
        clear hm
        go_wp2_with (at_builtin; refine appG (R := RSW) (f := encW) (W := wr) rfl _ _ rfl _ L' rfl HRow.out (h, m, t) _ rfl rfl (encW_one _) wr.heap.size rfl rfl (by omega) HE.out (Nat.le_add_right _ _) (show w.heap.size + 4 ≤ wr.heap.size by omega) ?_)
        intro a1 c1 w2 hO1 hE1 hz1 hb1
        have hB3' : Blk w2 (w.heap.size + 1 + 1 + 1) #[.slice a2 L.length cap2, .slice av L'.length cv] 30 := (hb1 _ (RowG.apart HRow.out (by omega)) (by omega)).trans HB3.out
        have hB2' : Blk w2 (w.heap.size + 1 + 1) #[.slice none 0 0, .slice none 0 0] 30 := (hb1 _ (RowG.apart HRow.out (by omega)) (by omega)).trans HB2.out
        clear q0 q1 q2 x0 x1 x2 p0
        have q0 := hB3'.cell (i := 0) rfl
        have q1 := hB3'.cell (i := 1) rfl
        have q2 := hB3'.frozen 1
        have z0 := hB2'.cell (i := 0) rfl
        have zf0 := hB2'.frozen 0
        have z1 := hB2'.cell (i := 1) rfl
        have zf1 := hB2'.frozen 1
        have HF2 := Lib.hid (And.intro hO1 (And.intro hE1 (And.intro hB2' hB3')))
        clear hO1 hE1 hz1 hb1 hB2' hB3'
        go_wp2_with fail
        (try simp only [Exit.inBlock, Exit.then])
        obtain ⟨k1, k2, k3, k4⟩ := HF2.out
        have c3 := Chg.set w2 (w.heap.size + 1 + 1 + 1) 1 (.slice a1 (L'.length + 1) c1)
        have k3' : Blk (w2.setCell ⟨w.heap.size + 1 + 1 + 1, 1, none⟩ (.slice a1 (L'.length + 1) c1)) (w.heap.size + 1 + 1) #[.slice none 0 0, .slice none 0 0] 30 := (Below.heap_setCell _ _ _ _ (by simp)).trans k3
        refine bodyPost_ret (results_one (ty := 30) rfl rfl (c := #[.slice a2 L.length cap2, .slice a1 (L'.length + 1) c1]) (Blk.set2 k3' rfl _ _) (by kernel_rfl) (by kernel_rfl)) rfl ?_
        rw [E2.out]
        refine ⟨_, rfl, ?_, Ext.set2 (Below.setCell (p := ⟨w.heap.size + 1 + 1 + 1, 1, none⟩) k2 (show w.heap.size ≤ w.heap.size + 1 + 1 + 1 by omega) _) (by omega) _ _⟩
        exact (((RowG.chg k1 c3 (.one k4 (by decide))).chg (Chg.set _ (w.heap.size + 1 + 1) 0 _) (.one k3' (by decide))).chg (Chg.set _ (w.heap.size + 1 + 1) 1 _) (.one (k3'.set 0 _ rfl) (by decide))).base (by omega)
      · have d : decide (m > 0) = false := decide_eq_false hm
        have E2 : Hid (setR Wy (h, m, t) = L') := Lib.hid (by unfold setR; rw [E.out, if_neg hm, List.append_nil])
        clear hm
        have z0 := HB2.out.cell (i := 0) rfl
        have zf0 := HB2.out.frozen 0
        have z1 := HB2.out.cell (i := 1) rfl
        have zf1 := HB2.out.frozen 1
        go_wp2_with fail
        (try simp only [Exit.inBlock, Exit.then])
        refine bodyPost_ret (results_one (ty := 30) rfl rfl (c := #[.slice a2 L.length cap2, .slice av L'.length cv]) (Blk.set2 HB2.out rfl _ _) (by kernel_rfl) (by kernel_rfl)) rfl ?_
        rw [E2.out]
        refine ⟨_, rfl, ?_, Ext.set2 HE.out (by omega) _ _⟩
        have b1 := HB2.out.set 0 (.slice a2 L.length cap2) rfl
        exact ((HRow.out.chg (Chg.set wr (w.heap.size + 1 + 1) 0 _) (.one HB2.out (by decide))).chg (Chg.set _ (w.heap.size + 1 + 1) 1 _) (.one b1 (by decide))).base (by omega)
end Go.Proofs.Ytnpfikabcmngpaa.ShR
