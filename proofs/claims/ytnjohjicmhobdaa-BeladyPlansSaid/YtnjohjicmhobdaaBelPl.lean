/-
  Belady: the walk of Plan.
  At most 4096 requests (the program's own bound); no other condition.
-/
import Derived.Test.YtnjohjicmhobdaaBelRun
import Derived.Deep.WholeRow
namespace Go.Proofs.Ytnjohjicmhobdaa.Bl
open Go.RowKit Go.Seg Go.Open Go.Lib Bel Rk TrUs

/-- Truths in a row. -/
def bools (o : List Bool) : Array Value := (o.map Value.bool).toArray
theorem bools_get {o : List Bool} {i : Nat} {x : Bool} (h : o[i]? = some x) : (bools o)[i]? = some (.bool x) := by simp [bools, h]
theorem bools_step (o : List Bool) (x : Bool) (n : Nat) : (bools (o ++ List.replicate (n + 1) false)).setIfInBounds o.length (.bool x) = bools ((o ++ [x]) ++ List.replicate n false) := by
  apply Array.ext'
  simp [bools, List.replicate_succ]
theorem infoB : (Try.prog.info? 4).map (fun i => (i.zero, i.size, i.bytes)) = some (some (.bool false), 1, 1) := by kernel_rfl
theorem make_bools (n : Nat) (hn : n ≤ 4096) (w : World) : (Instr.makeSlice 28 (.int .i64 n) (.int .i64 n)).run Try.prog w = .ok (.slice (some ⟨w.heap.size, 0, none⟩) n n) (w.alloc (.cells (bools (List.replicate n false)) 4)) := by
  obtain ⟨i0, hi, hz0, hz1, hz2⟩ := info_parts infoB
  have h := run_makeSlice (w := w) 28 4 i0 (.bool false) Try.underlying28 hi hz0 .i64 .i64 n n (by omega) (by omega) (by rw [hz1]; omega) (by rw [hz2]; omega) (by omega)
  rw [h, hz1]
  have e : madeCells (Value.bool false).cells ((n : Int).toNat * 1) = bools (List.replicate n false) := by
    apply Array.ext_getElem?
    intro j
    by_cases hj : j < n
    · simp [madeCells, Value.cells, hj, Nat.mod_one, bools]
    · simp [madeCells, Value.cells, hj, bools]
  rw [e]
  simp

/-- What lies there in Plan's loop. -/
structure PS (l : List Int) (r : Int) (len : Nat) (N G : Nat) (w wr : World) (k : Nat) (t : T (Int × Int) Bool) (q : Option Addr) (o : List Bool) : Prop where
  out : Blk wr G (bools (o ++ List.replicate (len - k) false)) 4
  tree : isTree wr q t
  us : Us l k t
  pre : Pre l r k (KS t) o
  nx : Blk wr N (OC l 0) 3
  ext : Ext w wr
  sz : t.sz ≤ k
  lo : w.heap.size ≤ G

set_option maxRecDepth 100000 in
set_option maxHeartbeats 2000000 in
theorem Plan_at (a : Option Addr) (len cap b off : Nat) (F : Nat → Int) (room r : Int) (w : World) (ha : 0 < len → a = some ⟨b, off, none⟩) (hl : len ≤ 4096) (hwf : ∀ i, i < len → (Lit.int .i64 (F i)).wf = true)
    (hF : ∀ W, Ext w W → ∀ i, i < len → W.cell? ⟨b, off + i, none⟩ = some (.int .i64 (F i))) (hr : (room < 0 ∧ r = 0) ∨ (0 ≤ room ∧ room = r)) :
    Calls Try.prog 13 #[.slice a len cap, .int .i64 room] w fun e w' => ∃ g keys o, e = .returned (.slice (some ⟨g, 0, none⟩) len len) ∧ w.heap.size ≤ g ∧ Blk w' g (bools o) 4 ∧ Pre (lst F len) r len keys o ∧ Ext w w' := by
  have HA := Lib.hid ha
  have HF := Lib.hid hF
  have HWF := Lib.hid hwf
  have HLL := Lib.hid (lst_len F len)
  have d0 : decide ((4096 : Int) < (len : Int)) = false := decide_eq_false (by omega)
  have hmk := make_bools len hl
  clear ha hF hwf
  go_enter Try.func13, Try.ntmps13
  rcases hr with ⟨hr, rfl⟩ | ⟨hr, rfl⟩
  · go_wp2_with fail
    refine (Next_any a len cap b off F _ HA.out hl HWF.out (fun W hW => HF.out W hW)).mono ?_
    rintro e w1 ⟨N, rfl, hN, hBN, hE⟩
    have HN := Lib.hid hBN
    have HE := Lib.hid hE
    clear hBN hE
    go_wp2_with fail
    refine (New_any _).mono ?_
    rintro e w2 ⟨q0, rfl, hq0, hE2⟩
    have HQ0 := Lib.hid hq0
    have HE2 := Lib.hid (HE.out.trans hE2)
    have HN2 := Lib.hid (HN.out.ext hE2)
    clear hq0 hE2
    go_wp2_with fail
    clear hmk d0
    have hAl : Ext w2 (w2.alloc (Obj.cells (bools (List.replicate len false)) 4)) := (Below.refl _ _).alloc (Nat.le_refl _) _
    have HS0 : PS (lst F len) 0 len N w2.heap.size w (w2.alloc (Obj.cells (bools (List.replicate len false)) 4)) 0 .nil q0 [] := ⟨by simpa using Blk.new w2 (bools (List.replicate len false)) 4, HQ0.out.ext hAl, Us.nil _ _, Pre.nil, HN2.out.ext hAl, HE2.out.trans hAl, by simp [T.sz], HE2.out.size⟩
    have HS0 := Lib.hid HS0
    clear hAl
    obtain ⟨G, hG⟩ : ∃ G, w2.heap.size = G := ⟨_, rfl⟩
    rw [hG] at HS0 ⊢
    clear hG
    go_loopg [6, 27] len (fun g u i wr => ∃ (k : Nat) (t : T (Int × Int) Bool) (q : Option Addr) (o : List Bool), u = .pointer q ∧ i = .int .i64 k ∧ k ≤ len ∧ PS (lst F len) 0 len N G w wr k t q o ∧ len - k ≤ g)
    case atStart => exact ⟨0, .nil, q0, [], rfl, rfl, Nat.zero_le _, HS0.out, Nat.le_refl _⟩
    case round =>
      obtain ⟨k, t, q, o, rfl, rfl, hk, hS, hg⟩ := hrel
      have HS := Lib.hid hS
      clear hS HS0
      by_cases hik : k < len
      · obtain rfl := HA.out (by omega)
        have hkl : k < (lst F len).length := by rw [HLL.out]; exact hik
        have HKL := Lib.hid hkl
        have x0 := HF.out wr HS.out.ext k hik
        have hget : (lst F len).getD k 0 = F k := by rw [getD_eq hkl, lst_get]
        have HG := Lib.hid hget
        have HOC := Lib.hid (show (OC (lst F len) 0)[k]? = some (.int .i64 (nxt (lst F len) (k + 1) (F k))) by rw [OC_get hkl, if_pos (Nat.zero_le _), hget])
        have hst := Go.run_storeCells_new (P := Try.prog) wr 100 #[.int .i64 0, .int .i64 0] #[.int .i64 k, .int .i64 (F k)] (by kernel_rfl) rfl (by simp [Value.oneCell'])
        have hld := Go.run_loadCellsFrom_new (P := Try.prog) wr 100 #[.int .i64 k, .int .i64 (F k)] 2 rfl
        have hE1 : Ext wr (wr.alloc (Obj.cells #[.int .i64 k, .int .i64 (F k)] 100)) := (Below.refl _ _).alloc (Nat.le_refl _) _
        have HE1 := Lib.hid hE1
        clear hkl hget hE1
        go_wp2_with fail
        clear hst hld x0
        refine (Get_any ((k : Int), F k) t q _ (HS.out.tree.ext HE1.out) (by have := HS.out.sz; omega)).mono ?_
        rintro e w3 he
        have hE3 := he.2
        have hgs := HS.out.us.get HKL.out
        rw [HG.out] at hgs
        have HT10 := Lib.hid (show Blk w3 wr.heap.size #[.int .i64 k, .int .i64 (F k)] 100 from (Blk.new _ _ _).ext hE3)
        have HE3 := Lib.hid (HE1.out.trans hE3)
        clear hE3
        have hout : (bools (o ++ List.replicate (len - k) false))[k]? = some (.bool false) := by
          have h1 := HS.out.pre.len
          refine bools_get ?_
          rw [List.getElem?_append_right (by omega), List.getElem?_replicate, if_pos (by omega)]
        have HS3' := Lib.hid (HS.out.tree.ext HE3.out)
        have HGet := Lib.hid (HS.out.out.ext HE3.out)
        have HNx := Lib.hid (HS.out.nx.ext HE3.out)
        have hsome : ∃ v0 bb, e = .returned (.tuple #[.bool v0, .bool bb]) ∧ bb = decide (F k ∈ KS t) := by
          unfold Got at he
          rw [← hgs]
          cases hq : T.get cuse ((k : Int), F k) t with
          | none => rw [hq] at he; exact ⟨_, _, he.1, rfl⟩
          | some v => rw [hq] at he; exact ⟨_, _, he.1, rfl⟩
        clear hgs
        obtain ⟨v0, bb, rfl, hbb⟩ := hsome
        have z0 := HGet.out.cell (i := k) hout
        have y0 := HGet.out.frozen k
        have HBB := Lib.hid hbb
        have hC : Chg (· = G) w3 (w3.setCell ⟨G, k, none⟩ (.bool bb)) := Chg.set _ _ _ _
        have hA1 : isTree (w3.setCell ⟨G, k, none⟩ (.bool bb)) q t := HS3'.out.chg hC (.one HGet.out (by decide)) (.one HGet.out (by decide))
        have hA2 : Blk (w3.setCell ⟨G, k, none⟩ (.bool bb)) N (OC (lst F len) 0) 3 := HNx.out.chg hC (.one HGet.out (by decide))
        have hA3 : Blk (w3.setCell ⟨G, k, none⟩ (.bool bb)) G (bools ((o ++ [bb]) ++ List.replicate (len - (k + 1)) false)) 4 := HGet.out.set k (.bool bb) (by
          have h1 := bools_step o bb (len - (k + 1))
          rw [HS.out.pre.len, show len - (k + 1) + 1 = len - k by omega] at h1
          exact h1)
        have hA4 : Blk (w3.setCell ⟨G, k, none⟩ (.bool bb)) wr.heap.size #[.int .i64 k, .int .i64 (F k)] 100 := HT10.out.chg hC (.one HGet.out (by decide))
        have hA5 : Ext w (w3.setCell ⟨G, k, none⟩ (.bool bb)) := Below.setCell (p := ⟨G, k, none⟩) (HS.out.ext.trans HE3.out) HS.out.lo _
        clear he hbb hout hC
        go_wp2_with fail
        obtain ⟨W3, hW3⟩ : ∃ W, w3.setCell ⟨G, k, none⟩ (.bool bb) = W := ⟨_, rfl⟩
        rw [hW3] at hA1 hA2 hA3 hA4 hA5 ⊢
        have HTr3 := Lib.hid hA1
        have HNx3 := Lib.hid hA2
        have HOut3 := Lib.hid hA3
        have HT3 := Lib.hid hA4
        have HEx3 := Lib.hid hA5
        clear hA1 hA2 hA3 hA4 hA5 hW3 z0 y0
        refine wp_region_segs 11 [([2, 1, 6, 2], false), ([0, 2], false), ([1], false)] (by kernel_rfl) (by kernel_rfl) ?_
        apply segs_cons
        · intro W hW
          have p0 := (HT3.out.ext hW.of_drew).cell (i := 0) rfl
          have p1 := (HT3.out.ext hW.of_drew).cell (i := 1) rfl
          have n0 := (HNx3.out.ext hW.of_drew).cell (i := k) HOC.out
          simp only [runsT, runsF, rep, pick]
          go_wp2_with fail
          exact ⟨rfl, rfl⟩
        simp only [runsT, runsF, rep, left]
        go_wp2_with fail
        refine (Drop_any ((k : Int), F k) t _ _ (HTr3.out.ext (Ext.drew _)) (by have := HS.out.sz; omega)).mono ?_
        rintro e w4 ⟨q4, rfl, hq4, hE4⟩
        have HQ4 := Lib.hid hq4
        have HE4 := Lib.hid hE4
        clear hq4 hE4
        go_wp2_with fail
        refine ⟨fun _ => HE4.out, ?_⟩
        apply segs_cons
        · intro W hW
          exact ⟨rfl, rfl⟩
        simp only [runsT, runsF, rep, left]
        go_wp2_with fail
        refine (Put_any ((nxt (lst F len) (k + 1) (F k) : Int), F k) true _ _ _ HQ4.out (by have := T.sz_drop_le cuse ((k : Int), F k) t; have := HS.out.sz; omega)).mono ?_
        rintro e w5 ⟨q5, rfl, hq5, hE5⟩
        have HQ5 := Lib.hid hq5
        have HE5 := Lib.hid (((Ext.drew _).trans HE4.out).trans hE5)
        clear hq5
        go_wp2_with fail
        refine ⟨fun _ => hE5, ?_⟩
        apply segs_cons
        · intro W hW
          simp only [runsT, runsF, rep, pick]
          go_wp2_with fail
          exact ⟨rfl, rfl⟩
        simp only [runsT, runsF, rep, left]
        go_wp2_with fail
        obtain ⟨t2, ht2⟩ : ∃ t2, t2 = T.put cuse ((nxt (lst F len) (k + 1) (F k) : Int), F k) true (T.drop cuse ((k : Int), F k) t) := ⟨_, rfl⟩
        have hQ5 := HQ5.out
        rw [← ht2] at hQ5
        have hUs := HS.out.us.step HKL.out
        rw [HG.out, ← ht2] at hUs
        have hNx := HS.out.us.next (r := 0) HKL.out t2 (by rw [HG.out]; exact ht2)
        have hsz2 : t2.sz ≤ k + 1 := by have h1 := T.sz_put_le cuse ((nxt (lst F len) (k + 1) (F k) : Int), F k) true (T.drop cuse ((k : Int), F k) t); have h2 := T.sz_drop_le cuse ((k : Int), F k) t; have h3 := HS.out.sz; rw [ht2]; omega
        have HQT := Lib.hid hQ5
        have HUs := Lib.hid hUs.1
        have HNN := Lib.hid hNx
        have HE5' := Lib.hid (HE5.out)
        have HB2 := Lib.hid (show bb = decide ((lst F len).getD k 0 ∈ KS t) by rw [HG.out]; exact HBB.out)
        have hnn := t2.sz_nn
        clear hQ5 hUs hNx ht2 HQ5 hE5
        go_wp2_with fail
        refine (Len_any t2 _ _ HQT.out).mono ?_
        rintro e w' ⟨rfl, rfl⟩
        by_cases q1 : 0 < t2.sz
        · have d1 : decide (0 < t2.sz) = true := decide_eq_true q1
          obtain ⟨y, hat, hUy, hpy, hmx⟩ := HUs.out.last (by omega)
          have HAt := Lib.hid hat
          have HUy := Lib.hid hUy
          have HNy := Lib.hid (HNN.out.2 q1 y hpy hmx)
          clear hat hUy hpy hmx
          go_wp2_with fail
          refine (Len_any t2 _ _ HQT.out).mono ?_
          rintro e w' ⟨rfl, rfl⟩
          go_wp2_with fail
          refine (At_any t2 (t2.sz - 1) ((nxt (lst F len) (k + 1) y : Int), y) true _ _ HQT.out (by omega) (by omega) (by omega) HAt.out).mono ?_
          rintro e w6 ⟨rfl, hE6⟩
          have HE6 := Lib.hid hE6
          have hst := Go.run_storeCells_new (P := Try.prog) w6 100 #[.int .i64 0, .int .i64 0] #[.int .i64 (nxt (lst F len) (k + 1) y : Int), .int .i64 y] (by kernel_rfl) rfl (by simp [Value.oneCell'])
          have hld := Go.run_loadCellsFrom_new (P := Try.prog) w6 100 #[.int .i64 (nxt (lst F len) (k + 1) y : Int), .int .i64 y] 2 rfl
          have hE7 : Ext w6 (w6.alloc (Obj.cells #[.int .i64 (nxt (lst F len) (k + 1) y : Int), .int .i64 y] 100)) := (Below.refl _ _).alloc (Nat.le_refl _) _
          have HE7 := Lib.hid (HE6.out.trans hE7)
          clear hE6 hE7
          go_wp2_with fail
          clear hst hld
          refine (Drop_any ((nxt (lst F len) (k + 1) y : Int), y) t2 _ _ (HQT.out.ext HE7.out) (by omega)).mono ?_
          rintro e w8 ⟨q8, rfl, hq8, hE8⟩
          have HE8 := Lib.hid (HE5'.out.trans (HE7.out.trans hE8))
          have HQ8 := Lib.hid hq8
          clear hE8 hq8
          go_wp2_with fail
          go_roundg (len - (k + 1))
          case measure => omega
          case rel => exact ⟨k + 1, _, q8, o ++ [bb], rfl, by go_num, by omega, ⟨HOut3.out.ext HE8.out, HQ8.out, HUy.out, by rw [HB2.out]; exact Pre.snoc k _ _ o HS.out.pre HKL.out HNy.out, HNx3.out.ext HE8.out, HEx3.out.trans HE8.out, by have := T.sz_drop_le cuse ((nxt (lst F len) (k + 1) y : Int), y) t2; omega, HS.out.lo⟩, Nat.le_refl _⟩
        · have d1 : decide (0 < t2.sz) = false := decide_eq_false q1
          have HNy := Lib.hid (HNN.out.1 (by omega))
          go_wp2_with fail
          go_roundg (len - (k + 1))
          case measure => omega
          case rel => exact ⟨k + 1, t2, _, o ++ [bb], rfl, by go_num, by omega, ⟨HOut3.out.ext HE5'.out, HQT.out, HUs.out, by rw [HB2.out]; exact Pre.snoc k _ _ o HS.out.pre HKL.out HNy.out, HNx3.out.ext HE5'.out, HEx3.out.trans HE5'.out, by omega, HS.out.lo⟩, Nat.le_refl _⟩
      · obtain rfl : k = len := by omega
        have hdk : decide ((k : Int) < (k : Int)) = false := decide_eq_false (by omega)
        clear hik
        go_wp2_with fail
        go_ret
        exact ⟨_, _, _, rfl, HS.out.lo, by have := HS.out.out; simpa using this, HS.out.pre, HS.out.ext⟩
  · go_wp2_with fail
    refine (Next_any a len cap b off F _ HA.out hl HWF.out (fun W hW => HF.out W hW)).mono ?_
    rintro e w1 ⟨N, rfl, hN, hBN, hE⟩
    have HN := Lib.hid hBN
    have HE := Lib.hid hE
    clear hBN hE
    go_wp2_with fail
    refine (New_any _).mono ?_
    rintro e w2 ⟨q0, rfl, hq0, hE2⟩
    have HQ0 := Lib.hid hq0
    have HE2 := Lib.hid (HE.out.trans hE2)
    have HN2 := Lib.hid (HN.out.ext hE2)
    clear hq0 hE2
    go_wp2_with fail
    clear hmk d0
    have hAl : Ext w2 (w2.alloc (Obj.cells (bools (List.replicate len false)) 4)) := (Below.refl _ _).alloc (Nat.le_refl _) _
    have HS0 : PS (lst F len) room len N w2.heap.size w (w2.alloc (Obj.cells (bools (List.replicate len false)) 4)) 0 .nil q0 [] := ⟨by simpa using Blk.new w2 (bools (List.replicate len false)) 4, HQ0.out.ext hAl, Us.nil _ _, Pre.nil, HN2.out.ext hAl, HE2.out.trans hAl, by simp [T.sz], HE2.out.size⟩
    have HS0 := Lib.hid HS0
    clear hAl
    obtain ⟨G, hG⟩ : ∃ G, w2.heap.size = G := ⟨_, rfl⟩
    rw [hG] at HS0 ⊢
    clear hG
    go_loopg [6, 27] len (fun g u i wr => ∃ (k : Nat) (t : T (Int × Int) Bool) (q : Option Addr) (o : List Bool), u = .pointer q ∧ i = .int .i64 k ∧ k ≤ len ∧ PS (lst F len) room len N G w wr k t q o ∧ len - k ≤ g)
    case atStart => exact ⟨0, .nil, q0, [], rfl, rfl, Nat.zero_le _, HS0.out, Nat.le_refl _⟩
    case round =>
      obtain ⟨k, t, q, o, rfl, rfl, hk, hS, hg⟩ := hrel
      have HS := Lib.hid hS
      clear hS HS0
      by_cases hik : k < len
      · obtain rfl := HA.out (by omega)
        have hkl : k < (lst F len).length := by rw [HLL.out]; exact hik
        have HKL := Lib.hid hkl
        have x0 := HF.out wr HS.out.ext k hik
        have hget : (lst F len).getD k 0 = F k := by rw [getD_eq hkl, lst_get]
        have HG := Lib.hid hget
        have HOC := Lib.hid (show (OC (lst F len) 0)[k]? = some (.int .i64 (nxt (lst F len) (k + 1) (F k))) by rw [OC_get hkl, if_pos (Nat.zero_le _), hget])
        have hst := Go.run_storeCells_new (P := Try.prog) wr 100 #[.int .i64 0, .int .i64 0] #[.int .i64 k, .int .i64 (F k)] (by kernel_rfl) rfl (by simp [Value.oneCell'])
        have hld := Go.run_loadCellsFrom_new (P := Try.prog) wr 100 #[.int .i64 k, .int .i64 (F k)] 2 rfl
        have hE1 : Ext wr (wr.alloc (Obj.cells #[.int .i64 k, .int .i64 (F k)] 100)) := (Below.refl _ _).alloc (Nat.le_refl _) _
        have HE1 := Lib.hid hE1
        clear hkl hget hE1
        go_wp2_with fail
        clear hst hld x0
        refine (Get_any ((k : Int), F k) t q _ (HS.out.tree.ext HE1.out) (by have := HS.out.sz; omega)).mono ?_
        rintro e w3 he
        have hE3 := he.2
        have hgs := HS.out.us.get HKL.out
        rw [HG.out] at hgs
        have HT10 := Lib.hid (show Blk w3 wr.heap.size #[.int .i64 k, .int .i64 (F k)] 100 from (Blk.new _ _ _).ext hE3)
        have HE3 := Lib.hid (HE1.out.trans hE3)
        clear hE3
        have hout : (bools (o ++ List.replicate (len - k) false))[k]? = some (.bool false) := by
          have h1 := HS.out.pre.len
          refine bools_get ?_
          rw [List.getElem?_append_right (by omega), List.getElem?_replicate, if_pos (by omega)]
        have HS3' := Lib.hid (HS.out.tree.ext HE3.out)
        have HGet := Lib.hid (HS.out.out.ext HE3.out)
        have HNx := Lib.hid (HS.out.nx.ext HE3.out)
        have hsome : ∃ v0 bb, e = .returned (.tuple #[.bool v0, .bool bb]) ∧ bb = decide (F k ∈ KS t) := by
          unfold Got at he
          rw [← hgs]
          cases hq : T.get cuse ((k : Int), F k) t with
          | none => rw [hq] at he; exact ⟨_, _, he.1, rfl⟩
          | some v => rw [hq] at he; exact ⟨_, _, he.1, rfl⟩
        clear hgs
        obtain ⟨v0, bb, rfl, hbb⟩ := hsome
        have z0 := HGet.out.cell (i := k) hout
        have y0 := HGet.out.frozen k
        have HBB := Lib.hid hbb
        have hC : Chg (· = G) w3 (w3.setCell ⟨G, k, none⟩ (.bool bb)) := Chg.set _ _ _ _
        have hA1 : isTree (w3.setCell ⟨G, k, none⟩ (.bool bb)) q t := HS3'.out.chg hC (.one HGet.out (by decide)) (.one HGet.out (by decide))
        have hA2 : Blk (w3.setCell ⟨G, k, none⟩ (.bool bb)) N (OC (lst F len) 0) 3 := HNx.out.chg hC (.one HGet.out (by decide))
        have hA3 : Blk (w3.setCell ⟨G, k, none⟩ (.bool bb)) G (bools ((o ++ [bb]) ++ List.replicate (len - (k + 1)) false)) 4 := HGet.out.set k (.bool bb) (by
          have h1 := bools_step o bb (len - (k + 1))
          rw [HS.out.pre.len, show len - (k + 1) + 1 = len - k by omega] at h1
          exact h1)
        have hA4 : Blk (w3.setCell ⟨G, k, none⟩ (.bool bb)) wr.heap.size #[.int .i64 k, .int .i64 (F k)] 100 := HT10.out.chg hC (.one HGet.out (by decide))
        have hA5 : Ext w (w3.setCell ⟨G, k, none⟩ (.bool bb)) := Below.setCell (p := ⟨G, k, none⟩) (HS.out.ext.trans HE3.out) HS.out.lo _
        clear he hbb hout hC
        go_wp2_with fail
        obtain ⟨W3, hW3⟩ : ∃ W, w3.setCell ⟨G, k, none⟩ (.bool bb) = W := ⟨_, rfl⟩
        rw [hW3] at hA1 hA2 hA3 hA4 hA5 ⊢
        have HTr3 := Lib.hid hA1
        have HNx3 := Lib.hid hA2
        have HOut3 := Lib.hid hA3
        have HT3 := Lib.hid hA4
        have HEx3 := Lib.hid hA5
        clear hA1 hA2 hA3 hA4 hA5 hW3 z0 y0
        refine wp_region_segs 11 [([2, 1, 6, 2], false), ([0, 2], false), ([1], false)] (by kernel_rfl) (by kernel_rfl) ?_
        apply segs_cons
        · intro W hW
          have p0 := (HT3.out.ext hW.of_drew).cell (i := 0) rfl
          have p1 := (HT3.out.ext hW.of_drew).cell (i := 1) rfl
          have n0 := (HNx3.out.ext hW.of_drew).cell (i := k) HOC.out
          simp only [runsT, runsF, rep, pick]
          go_wp2_with fail
          exact ⟨rfl, rfl⟩
        simp only [runsT, runsF, rep, left]
        go_wp2_with fail
        refine (Drop_any ((k : Int), F k) t _ _ (HTr3.out.ext (Ext.drew _)) (by have := HS.out.sz; omega)).mono ?_
        rintro e w4 ⟨q4, rfl, hq4, hE4⟩
        have HQ4 := Lib.hid hq4
        have HE4 := Lib.hid hE4
        clear hq4 hE4
        go_wp2_with fail
        refine ⟨fun _ => HE4.out, ?_⟩
        apply segs_cons
        · intro W hW
          exact ⟨rfl, rfl⟩
        simp only [runsT, runsF, rep, left]
        go_wp2_with fail
        refine (Put_any ((nxt (lst F len) (k + 1) (F k) : Int), F k) true _ _ _ HQ4.out (by have := T.sz_drop_le cuse ((k : Int), F k) t; have := HS.out.sz; omega)).mono ?_
        rintro e w5 ⟨q5, rfl, hq5, hE5⟩
        have HQ5 := Lib.hid hq5
        have HE5 := Lib.hid (((Ext.drew _).trans HE4.out).trans hE5)
        clear hq5
        go_wp2_with fail
        refine ⟨fun _ => hE5, ?_⟩
        apply segs_cons
        · intro W hW
          simp only [runsT, runsF, rep, pick]
          go_wp2_with fail
          exact ⟨rfl, rfl⟩
        simp only [runsT, runsF, rep, left]
        go_wp2_with fail
        obtain ⟨t2, ht2⟩ : ∃ t2, t2 = T.put cuse ((nxt (lst F len) (k + 1) (F k) : Int), F k) true (T.drop cuse ((k : Int), F k) t) := ⟨_, rfl⟩
        have hQ5 := HQ5.out
        rw [← ht2] at hQ5
        have hUs := HS.out.us.step HKL.out
        rw [HG.out, ← ht2] at hUs
        have hNx := HS.out.us.next (r := room) HKL.out t2 (by rw [HG.out]; exact ht2)
        have hsz2 : t2.sz ≤ k + 1 := by have h1 := T.sz_put_le cuse ((nxt (lst F len) (k + 1) (F k) : Int), F k) true (T.drop cuse ((k : Int), F k) t); have h2 := T.sz_drop_le cuse ((k : Int), F k) t; have h3 := HS.out.sz; rw [ht2]; omega
        have HQT := Lib.hid hQ5
        have HUs := Lib.hid hUs.1
        have HNN := Lib.hid hNx
        have HE5' := Lib.hid (HE5.out)
        have HB2 := Lib.hid (show bb = decide ((lst F len).getD k 0 ∈ KS t) by rw [HG.out]; exact HBB.out)
        have hnn := t2.sz_nn
        clear hQ5 hUs hNx ht2 HQ5 hE5
        go_wp2_with fail
        refine (Len_any t2 _ _ HQT.out).mono ?_
        rintro e w' ⟨rfl, rfl⟩
        by_cases q1 : room < t2.sz
        · have d1 : decide (room < t2.sz) = true := decide_eq_true q1
          obtain ⟨y, hat, hUy, hpy, hmx⟩ := HUs.out.last (by omega)
          have HAt := Lib.hid hat
          have HUy := Lib.hid hUy
          have HNy := Lib.hid (HNN.out.2 q1 y hpy hmx)
          clear hat hUy hpy hmx
          go_wp2_with fail
          refine (Len_any t2 _ _ HQT.out).mono ?_
          rintro e w' ⟨rfl, rfl⟩
          go_wp2_with fail
          refine (At_any t2 (t2.sz - 1) ((nxt (lst F len) (k + 1) y : Int), y) true _ _ HQT.out (by omega) (by omega) (by omega) HAt.out).mono ?_
          rintro e w6 ⟨rfl, hE6⟩
          have HE6 := Lib.hid hE6
          have hst := Go.run_storeCells_new (P := Try.prog) w6 100 #[.int .i64 0, .int .i64 0] #[.int .i64 (nxt (lst F len) (k + 1) y : Int), .int .i64 y] (by kernel_rfl) rfl (by simp [Value.oneCell'])
          have hld := Go.run_loadCellsFrom_new (P := Try.prog) w6 100 #[.int .i64 (nxt (lst F len) (k + 1) y : Int), .int .i64 y] 2 rfl
          have hE7 : Ext w6 (w6.alloc (Obj.cells #[.int .i64 (nxt (lst F len) (k + 1) y : Int), .int .i64 y] 100)) := (Below.refl _ _).alloc (Nat.le_refl _) _
          have HE7 := Lib.hid (HE6.out.trans hE7)
          clear hE6 hE7
          go_wp2_with fail
          clear hst hld
          refine (Drop_any ((nxt (lst F len) (k + 1) y : Int), y) t2 _ _ (HQT.out.ext HE7.out) (by omega)).mono ?_
          rintro e w8 ⟨q8, rfl, hq8, hE8⟩
          have HE8 := Lib.hid (HE5'.out.trans (HE7.out.trans hE8))
          have HQ8 := Lib.hid hq8
          clear hE8 hq8
          go_wp2_with fail
          go_roundg (len - (k + 1))
          case measure => omega
          case rel => exact ⟨k + 1, _, q8, o ++ [bb], rfl, by go_num, by omega, ⟨HOut3.out.ext HE8.out, HQ8.out, HUy.out, by rw [HB2.out]; exact Pre.snoc k _ _ o HS.out.pre HKL.out HNy.out, HNx3.out.ext HE8.out, HEx3.out.trans HE8.out, by have := T.sz_drop_le cuse ((nxt (lst F len) (k + 1) y : Int), y) t2; omega, HS.out.lo⟩, Nat.le_refl _⟩
        · have d1 : decide (room < t2.sz) = false := decide_eq_false q1
          have HNy := Lib.hid (HNN.out.1 (by omega))
          go_wp2_with fail
          go_roundg (len - (k + 1))
          case measure => omega
          case rel => exact ⟨k + 1, t2, _, o ++ [bb], rfl, by go_num, by omega, ⟨HOut3.out.ext HE5'.out, HQT.out, HUs.out, by rw [HB2.out]; exact Pre.snoc k _ _ o HS.out.pre HKL.out HNy.out, HNx3.out.ext HE5'.out, HEx3.out.trans HE5'.out, by omega, HS.out.lo⟩, Nat.le_refl _⟩
      · obtain rfl : k = len := by omega
        have hdk : decide ((k : Int) < (k : Int)) = false := decide_eq_false (by omega)
        clear hik
        go_wp2_with fail
        go_ret
        exact ⟨_, _, _, rfl, HS.out.lo, by have := HS.out.out; simpa using this, HS.out.pre, HS.out.ext⟩
end Go.Proofs.Ytnjohjicmhobdaa.Bl
