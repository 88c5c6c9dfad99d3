/-
  Belady: whether a key is among some; and the little run.
  No condition beyond the rows' own lengths.
-/
import Derived.Test.YtnjohjicmhobdaaBelHits
namespace Go.Proofs.Ytnjohjicmhobdaa.Bl
open Go.RowKit Go.Seg Go.Open Go.Lib Bel Rk TrUs

set_option maxRecDepth 100000 in
theorem Among_any (a : Option Addr) (len cap b off : Nat) (F : Nat → Int) (x : Int) (w : World) (ha : 0 < len → a = some ⟨b, off, none⟩) (hl : len ≤ maxLen)
    (hF : ∀ i, i < len → w.cell? ⟨b, off + i, none⟩ = some (.int .i64 (F i))) :
    Calls Try.prog 18 #[.slice a len cap, .int .i64 x] w fun e w' => e = .returned (.bool (decide (x ∈ lst F len))) ∧ w = w' := by
  have HA := Lib.hid ha
  have HF := Lib.hid hF
  have hm : ∀ k, k < len → F k = x → x ∈ lst F len := fun k hk e => by unfold lst; exact List.mem_map.2 ⟨k, List.mem_range.2 hk, e⟩
  have hn : (∀ k, k < len → F k ≠ x) → x ∉ lst F len := fun h hx => by
    unfold lst at hx
    obtain ⟨k, hk, e⟩ := List.mem_map.1 hx
    exact h k (List.mem_range.1 hk) e
  have HM := Lib.hid hm
  have HN := Lib.hid hn
  clear ha hF hm hn
  unfold maxLen at hl
  go_enter Try.func18, Try.ntmps18
  go_wp2_with fail
  go_loopg [5] len (fun g i wr => ∃ k : Nat, i = .int .i64 k ∧ k ≤ len ∧ wr = w ∧ (∀ j, j < k → F j ≠ x) ∧ len - k ≤ g)
  case atStart => exact ⟨0, rfl, Nat.zero_le _, rfl, fun j h => absurd h (by omega), Nat.le_refl _⟩
  case round =>
    obtain ⟨k, rfl, hk, rfl, hno, hgk⟩ := hrel
    have HNo := Lib.hid hno
    clear hno
    by_cases hik : k < len
    · obtain rfl := HA.out (by omega)
      have x0 := HF.out k hik
      by_cases hx : F k = x
      · have d : (F k == x) = true := by simp [hx]
        have HX := Lib.hid hx
        clear hx
        go_wp2_with fail
        go_ret
        exact ⟨by rw [decide_eq_true (HM.out k hik HX.out)]; rfl, rfl⟩
      · have d : (F k == x) = false := by simp [hx]
        have HX := Lib.hid hx
        clear hx
        go_wp2_with fail
        go_roundg (len - (k + 1))
        case measure => omega
        case rel => exact ⟨k + 1, by go_num, by omega, rfl, fun j hj e => by
          by_cases h : j < k
          · exact HNo.out j h e
          · have : j = k := by omega
            subst this
            exact HX.out e, Nat.le_refl _⟩
    · obtain rfl : k = len := by omega
      have hdk : decide ((k : Int) < (k : Int)) = false := decide_eq_false (by omega)
      clear hik
      go_wp2_with fail
      go_ret
      exact ⟨by rw [decide_eq_false (HN.out HNo.out)]; rfl, rfl⟩

theorem B1 : B (lst (fun i => [1, 2, 3, 1, 2].getD i 0) 5) 2 5 0 (fun _ => 0) = 2 := by decide +kernel
theorem B2 : B (lst (fun i => [1, 1].getD i 0) 2) 1 2 0 (fun _ => 0) = 1 := by decide +kernel

set_option maxRecDepth 100000 in
set_option maxHeartbeats 1000000 in
theorem awake_any (w : World) : Calls Try.prog 9 #[] w fun e w' => e = .returned (.bool true) ∧ Ext w w' := by
  have row : ∀ (W : World) (b : Nat) (L : List Int), Blk W b (L.map (Value.int .i64)).toArray 3 → ∀ W', Ext W W' → ∀ i, i < L.length → W'.cell? ⟨b, 0 + i, none⟩ = some (.int .i64 (L.getD i 0)) := fun W b L hB W' hE i hi => by
    rw [Nat.zero_add]
    exact (hB.ext hE).cell (by simp [hi])
  have R := Lib.hid row
  clear row
  go_enter Try.func9, Try.ntmps9
  go_wp2_with fail
  refine (Hits_any _ 5 5 w.heap.size 0 (fun i => [1, 2, 3, 1, 2].getD i 0) 2 2 _ (fun _ => rfl) (by decide) (by decide) (R.out _ _ [1, 2, 3, 1, 2] (Blk.new _ _ _)) (by omega)).mono ?_
  rw [B1]
  rintro e w1 ⟨rfl, hE1⟩
  have HE1 := Lib.hid hE1
  clear hE1
  go_wp2_with fail
  refine (Hits_any _ 2 2 w1.heap.size 0 (fun i => [1, 1].getD i 0) 1 1 _ (fun _ => rfl) (by decide) (by decide) (R.out _ _ [1, 1] (Blk.new _ _ _)) (by omega)).mono ?_
  rw [B2]
  rintro e w2 ⟨rfl, hE2⟩
  go_wp2_with fail
  go_ret
  exact ⟨rfl, below_ext (below_ext (below_ext ((Below.refl _ _).alloc (Nat.le_refl _) _) HE1.out) ((Below.refl _ _).alloc (Nat.le_refl _) _)) hE2⟩
end Go.Proofs.Ytnjohjicmhobdaa.Bl
