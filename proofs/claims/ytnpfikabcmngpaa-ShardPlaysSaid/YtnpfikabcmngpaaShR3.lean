/-
  The document's answer for layer 22: Remove.
  Fewer than 1,000,000 of each; no other condition.
-/
import Derived.Test.YtnpfikabcmngpaaShR2
namespace Go.Proofs.Ytnpfikabcmngpaa.ShR
open Go.RowKit Go.Seg Go.Open Go.Lib Rk Go.Row

/-- All but one hash's. -/
def restR {β : Type} (L : List (Int × β)) (h : Int) : List (Int × β) := L.filter fun x => decide (x.1 ≠ h)
theorem restR_snoc {β : Type} (L : List (Int × β)) (x : Int × β) (h : Int) : restR (L ++ [x]) h = if x.1 = h then restR L h else restR L h ++ [x] := by
  unfold restR
  rw [List.filter_append]
  by_cases e : x.1 = h <;> simp [e]
theorem restR_len {β : Type} (L : List (Int × β)) (h : Int) : (restR L h).length ≤ L.length := List.length_filter_le _ _
theorem take_snoc {β : Type} {l : List β} {n : Nat} (h : n < l.length) : l.take (n + 1) = l.take n ++ [l[n]] := List.take_succ_eq_append_getElem h
/-- A row's block lies behind its base. -/
theorem RowG.apart {P : Program} {α : Type} {R : Row.Ty P} {f : α → List Value} {w : World} {B : Nat} {u : Value} {l : List α} (h : RowG R f w B u l) {k : Nat} (hk : k < B) : u.ownBlock ≠ some k := fun e => by have := (Row.Own.lt h k e).1; omega

set_option maxRecDepth 100000 in
set_option maxHeartbeats 4000000 in
theorem rRemove (uL uW : Value) (B : Nat) (L : List (Int × En)) (Wy : List (Int × Int × Int)) (h : Int) (w : World) (hL : RowL w B uL L) (hW : RowW w B uW Wy) (hl : L.length ≤ 999999) :
    Calls Try.prog 51 #[.agg #[uL, uW], .int .u64 h] w fun e w' => ∃ uL', e = .returned (.agg #[uL', uW]) ∧ RowL w' w.heap.size uL' (restR L h) ∧ Ext w w' := by
  obtain ⟨a, cap, b, F, rfl, _, ha, hF, hc⟩ := hL.openG encS_len
  obtain ⟨a2, cap2, rfl⟩ := hW.val
  have HA := Lib.hid ha
  have HC := Lib.hid hc
  have HF := Lib.hid hF
  clear ha hc hF hL hW
  go_enter Try.func51, Try.ntmps51
  go_wp2_with fail
  obtain ⟨W0, hW0⟩ : ∃ W, ((w.alloc (.cells #[.slice a L.length cap, .slice a2 Wy.length cap2] 30)).alloc (.cells #[.slice none 0 0, .slice none 0 0] 30)).alloc (.cells #[.slice none 0 0, .slice a2 Wy.length cap2] 30) = W := ⟨_, rfl⟩
  have hE0 : Ext w W0 := by rw [← hW0]; exact (((Below.refl _ _).alloc (Nat.le_refl _) _).alloc (by simp) _).alloc (by simp; omega) _
  have hP : Blk W0 w.heap.size #[.slice a L.length cap, .slice a2 Wy.length cap2] 30 := by rw [← hW0]; exact ((Blk.new _ _ _).ext ((Below.refl _ _).alloc (Nat.le_refl _) _)).ext ((Below.refl _ _).alloc (Nat.le_refl _) _)
  have hR : Blk W0 (w.heap.size + 1) #[.slice none 0 0, .slice none 0 0] 30 := by rw [← hW0]; exact Blk.ext (blk_at (by simp)) ((Below.refl _ _).alloc (Nat.le_refl _) _)
  have hO : Blk W0 (w.heap.size + 1 + 1) #[.slice none 0 0, .slice a2 Wy.length cap2] 30 := by rw [← hW0]; exact blk_at (by simp)
  rw [hW0]
  have HS := Lib.hid (And.intro hE0 (And.intro hP (And.intro hR hO)))
  clear hW0 hE0 hP hR hO
  go_loopg [6] L.length (fun g i wr => ∃ (n : Nat) (v : Value) (L' : List (Int × En)), i = .int .i64 n ∧ n ≤ L.length ∧ Hid (restR (L.take n) h = L') ∧ (RowL wr (w.heap.size + 3) v L' ∧ Ext w wr ∧ Blk wr w.heap.size #[.slice a L.length cap, .slice a2 Wy.length cap2] 30 ∧ Blk wr (w.heap.size + 1) #[.slice none 0 0, .slice none 0 0] 30 ∧ Blk wr (w.heap.size + 1 + 1) #[v, .slice a2 Wy.length cap2] 30) ∧ L.length - n ≤ g)
  case atStart => exact ⟨0, .slice none 0 0, [], rfl, Nat.zero_le _, Lib.hid rfl, ⟨RowG.nil _ _, HS.out.1, HS.out.2.1, HS.out.2.2.1, HS.out.2.2.2⟩, Nat.le_refl _⟩
  case round =>
    obtain ⟨n, v, L', rfl, hn, HL', hS, hg⟩ := hrel
    have hLn : L'.length ≤ n := by
      rw [← HL'.out]
      have := restR_len (L.take n) h
      rw [List.length_take] at this
      omega
    obtain ⟨av, cv, rfl⟩ := hS.1.val
    have HRow := Lib.hid hS.1
    have HE := Lib.hid hS.2.1
    have HB0 := Lib.hid hS.2.2.1
    have HB1 := Lib.hid hS.2.2.2.1
    have HB2 := Lib.hid hS.2.2.2.2
    have p0 := hS.2.2.1.cell (i := 0) rfl
    clear hS
    by_cases hik : n < L.length
    · obtain rfl := HA.out (by omega)
      have x0 : wr.cell? ⟨b, n * 7, none⟩ = some (.int .u64 (F n).1) := HC.out _ HE.out n hik 0 (by decide)
      by_cases hk : (F n).1 = h
      · have d : ((F n).1 != h) = false := by simp [hk]
        have E : Hid (restR (L.take (n + 1)) h = L') := Lib.hid (by rw [take_snoc hik, restR_snoc, ← HF.out n hik, if_pos hk]; exact HL'.out)
        clear hk
        go_wp2_with fail
        go_roundg (L.length - (n + 1))
        case measure => omega
        case rel => exact ⟨n + 1, _, L', by go_num, by omega, E, ⟨HRow.out, HE.out, HB0.out, HB1.out, HB2.out⟩, Nat.le_refl _⟩
      · have d : ((F n).1 != h) = true := by simp [hk]
        have E : Hid (restR (L.take (n + 1)) h = L' ++ [F n]) := Lib.hid (by rw [take_snoc hik, restR_snoc, ← HF.out n hik, if_neg hk, HL'.out])
        have HRd := Lib.hid (HRow.out.ext (Ext.drew wr))
        have HEd := Lib.hid (HE.out.trans (Ext.drew wr))
        have hlt2 := HB2.out.lt
        have HB2d := Lib.hid (HB2.out.ext (Ext.drew wr))
        have HB1d := Lib.hid (HB1.out.ext (Ext.drew wr))
        have HB0d := Lib.hid (HB0.out.ext (Ext.drew wr))
        have hlt3 := HB2d.out.lt
        clear hk
        go_wp2_with fail
        clear x0 p0
        refine wp_region_segsK [([1, 1, 1, 1, 1, 6], 0, 0), ([4, 4], 3, 8), ([1, 2], 1, 0), ([1, 1], 0, 0), ([1], 1, 0)] (by kernel_rfl) (by kernel_rfl) ?_
        apply segsK_pure
        · intro W
          simp only [runsT, runsF, rep, pick]
          go_wp2_with fail
          exact ⟨rfl, rfl⟩
        simp only [runsT, runsF, rep, left]
        apply segsK_class
        · intro W hW
          have q2 := (HB2d.out.ext hW).cell (i := 0) rfl
          have q0 := (HB0d.out.ext hW).cell (i := 0) rfl
          have hcn := HC.out _ (HEd.out.trans hW) n hik
          have x0 := hcn 0 (by decide)
          have x1 := hcn 1 (by decide)
          have x2 := hcn 2 (by decide)
          have x3 := hcn 3 (by decide)
          have x4 := hcn 4 (by decide)
          have x5 := hcn 5 (by decide)
          have x6 := hcn 6 (by decide)
          simp [encS, RSE] at x0 x1 x2 x3 x4 x5 x6
          clear hcn
          simp only [runsT, runsF, rep, pick]
          go_wp2_with fail
          exact ⟨rfl, rfl⟩
        simp only [runsT, runsF, rep, left]
        go_wp2_with fail
        refine ⟨fun _ => (Below.refl _ _).alloc (Nat.le_refl _) _, ?_⟩
        apply segsK_op
        refine appG (R := RSE) (f := encS) (W := wr.drew) rfl _ _ rfl _ L' rfl HRd.out (F n) _ rfl rfl (encS_one _) wr.heap.size rfl rfl (by omega) HEd.out (Nat.le_add_right _ _) (show w.heap.size + 3 ≤ wr.drew.heap.size by omega) ?_
        intro a1 c1 w2 hO1 hE1 hz1 hb1
        have hB2' : Blk w2 (w.heap.size + 1 + 1) #[.slice av L'.length cv, .slice a2 Wy.length cap2] 30 := (hb1 _ (RowG.apart HRd.out (by omega)) (by omega)).trans HB2d.out
        have hB1' : Blk w2 (w.heap.size + 1) #[.slice none 0 0, .slice none 0 0] 30 := (hb1 _ (RowG.apart HRd.out (by omega)) (by omega)).trans HB1d.out
        have hB0' : Blk w2 w.heap.size #[.slice (some ⟨b, 0, none⟩) L.length cap, .slice a2 Wy.length cap2] 30 := (hb1 _ (RowG.apart HRd.out (by omega)) (by omega)).trans HB0d.out
        have z0 := hB2'.cell (i := 0) rfl
        have z1 := hB2'.frozen 0
        have HF2 := Lib.hid (And.intro hO1 (And.intro hE1 (And.intro hB0' (And.intro hB1' hB2'))))
        clear hO1 hE1 hz1 hb1 hB0' hB1' hB2'
        go_wp2_with fail
        refine ⟨fun h => (by cases h), ?_⟩
        apply segsK_pure
        · intro W
          simp only [runsT, runsF, rep, pick]
          go_wp2_with fail
          exact ⟨rfl, rfl⟩
        simp only [runsT, runsF, rep, left]
        apply segsK_op
        go_wp2_with fail
        refine ⟨fun h => (by cases h), ?_⟩
        apply segsK_nil
        clear z0 z1
        go_wp2_with fail
        go_roundg (L.length - (n + 1))
        case measure => omega
        case rel =>
          obtain ⟨k1, k2, k3, k4, k5⟩ := HF2.out
          have c1' := Chg.set w2 (w.heap.size + 1 + 1) 0 (.slice a1 (L'.length + 1) c1)
          have hoff : ∀ {E : TypeId}, (30 : TypeId) ≠ E → Off (· = w.heap.size + 1 + 1) w2 E := fun hE => .one k5 hE
          refine ⟨n + 1, _, L' ++ [F n], by go_num, by omega, E, ⟨RowG.chg k1 c1' (hoff (by decide)), ?_, ?_, ?_, k5.set 0 _ rfl⟩, Nat.le_refl _⟩
          · exact Below.setCell (p := ⟨w.heap.size + 1 + 1, 0, none⟩) k2 (show w.heap.size ≤ w.heap.size + 1 + 1 by omega) _
          · exact (Below.heap_setCell _ _ _ _ (by simp; omega)).trans k3
          · exact (Below.heap_setCell _ _ _ _ (by simp)).trans k4
    · obtain rfl : n = L.length := by omega
      have hdn : decide ((L.length : Int) < (L.length : Int)) = false := decide_eq_false (by omega)
      have E : Hid (restR L h = L') := Lib.hid (by have := HL'.out; rwa [List.take_length] at this)
      have q0 := HB2.out.cell (i := 0) rfl
      have q1 := HB2.out.cell (i := 1) rfl
      have z0 := HB1.out.cell (i := 0) rfl
      have zf0 := HB1.out.frozen 0
      have z1 := HB1.out.cell (i := 1) rfl
      have zf1 := HB1.out.frozen 1
      clear hik
      go_wp2_with fail
      (try simp only [Exit.inBlock, Exit.then])
      refine bodyPost_ret (results_one (ty := 30) rfl rfl (c := #[.slice av L'.length cv, .slice a2 Wy.length cap2]) (Blk.set2 HB1.out rfl _ _) (by kernel_rfl) (by kernel_rfl)) rfl ?_
      rw [E.out]
      refine ⟨_, rfl, ?_, Ext.set2 HE.out (by simp) _ _⟩
      have c1 := Chg.set wr (w.heap.size + 1) 0 (.slice av L'.length cv)
      have b1 := HB1.out.set 0 (.slice av L'.length cv) rfl
      exact ((HRow.out.chg c1 (.one HB1.out (by decide))).chg (Chg.set _ (w.heap.size + 1) 1 _) (.one b1 (by decide))).base (by omega)
end Go.Proofs.Ytnpfikabcmngpaa.ShR
