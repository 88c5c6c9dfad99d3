/-
  Belady: the choice, as it counts.
  No condition beyond an int's bounds.
-/
import Derived.Test.YtnjohjicmhobdaaBelHits
import Derived.Test.YtnjohjicmhobdaaBelSrv
namespace Go.Proofs.Ytnjohjicmhobdaa.Bl
open Go.RowKit Go.Seg Go.Open Go.Lib Bel

/-- The i-th choice. -/
def chc (C : Nat → Int) (n : Nat) (r : Int) (i : Nat) : Int := if i < n ∧ 0 ≤ C i then C i % (r + 1) else 0
theorem chc_ok (C : Nat → Int) (n : Nat) {r : Int} (hr : 0 ≤ r) (i : Nat) : 0 ≤ chc C n r i ∧ chc C n r i ≤ r := by
  unfold chc
  split
  · have h1 := Int.emod_nonneg (C i) (show r + 1 ≠ 0 by omega)
    have h2 := Int.emod_lt_of_pos (C i) (show 0 < r + 1 by omega)
    omega
  · omega

set_option maxRecDepth 100000 in
theorem choice_any (a : Option Addr) (n cap b off : Nat) (C : Nat → Int) (i : Nat) (r c : Int) (w : World) (ha : 0 < n → a = some ⟨b, off, none⟩) (hl : n ≤ maxLen) (hi : i ≤ 4096) (hr : 0 ≤ r) (hr1 : r ≤ 9223372036854775807)
    (hwf : ∀ j, j < n → -9223372036854775808 ≤ C j ∧ C j ≤ 9223372036854775807) (hC : ∀ j, j < n → w.cell? ⟨b, off + j, none⟩ = some (.int .i64 (C j))) (hc : chc C n r i = c) :
    Calls Try.prog 59 #[.slice a n cap, .int .i64 i, .int .i64 r] w fun e w' => e = .returned (.int .i64 c) ∧ w = w' := by
  unfold maxLen at hl
  unfold chc at hc
  by_cases h1 : i < n
  · obtain rfl := ha (by omega)
    have x0 := hC i h1
    obtain ⟨w0, w1⟩ := hwf i h1
    have d1 : decide ((n : Int) ≤ (i : Int)) = false := decide_eq_false (by omega)
    clear ha hC hwf
    by_cases h2 : 0 ≤ C i
    · rw [if_pos ⟨h1, h2⟩] at hc
      have d2 : decide (C i < 0) = false := decide_eq_false (by omega)
      have m0 := Int.emod_nonneg (C i) (show r + 1 ≠ 0 by omega)
      have m1 := Int.emod_lt_of_pos (C i) (show 0 < r + 1 by omega)
      have HC := Lib.hid hc
      clear hc
      go_enter Try.func59, Try.ntmps59
      go_wp2_with fail
      go_ret
      exact ⟨by rw [← HC.out]; rfl, rfl⟩
    · rw [if_neg (fun h => h2 h.2)] at hc
      subst hc
      have d2 : decide (C i < 0) = true := decide_eq_true (by omega)
      go_enter Try.func59, Try.ntmps59
      go_wp2_with fail
      go_ret
      exact ⟨rfl, rfl⟩
  · rw [if_neg (fun h => h1 h.1)] at hc
    subst hc
    have d1 : decide ((n : Int) ≤ (i : Int)) = true := decide_eq_true (by omega)
    clear ha hC hwf
    go_enter Try.func59, Try.ntmps59
    go_wp2_with fail
    go_ret
    exact ⟨rfl, rfl⟩
end Go.Proofs.Ytnjohjicmhobdaa.Bl
