/-
  A slice of whole numbers that comes in. No program in sight; no condition.
-/
import Derived.Test.YtdfbfcglacalmaaM1
import Derived.WalkArith
section
namespace Go.Open
open Go.RowKit Go.ChangeShapes Go.WideShapes Go.Deep Go.Seg

variable {H : Type} {enc : TypeId × Value → H} {P : Program} {w : World} {base : Nat} {spare : Nat → Bool} {held : Bool}
/-- Its capacity. -/
theorem sl_cap {t e : TypeId} (ht : P.underlying t = some (.slice e)) {a : Option Addr} {len cap : Nat} {x : DataW H × List MemPlace} {fuel : Nat}
    (h : DataW.trod enc P w base spare held fuel t [.slice a len cap] = some x) : len ≤ cap ∧ cap ≤ maxLen := by
  rcases open_slice ht h with ⟨hv, _⟩ | ⟨a', len', cap', m, n, D, Pl, hv, hb, hle, hm, hmm, _, hx⟩
  · simp at hv
    obtain ⟨_, rfl, rfl⟩ := hv
    exact ⟨Nat.le_refl _, Nat.zero_le _⟩
  · simp at hv
    obtain ⟨_, rfl, rfl⟩ := hv
    exact ⟨hle, hm⟩
/-- A slice of whole numbers. -/
theorem IsSl.ints {v : Value} {a : Option Addr} {len cap : Nat} (h : IsSl w v [.i .i64] a len cap) : ∃ (b off : Nat) (F : Nat → Int), (0 < len → a = some ⟨b, off, none⟩) ∧ (∀ i, i < len → (Lit.int .i64 (F i)).wf = true) ∧ ∀ W, Ext w W → ∀ i, i < len → W.cell? ⟨b, off + i, none⟩ = some (.int .i64 (F i)) := by
  by_cases h0 : 0 < len
  · obtain ⟨b, off, ha, hc⟩ := h.cells h0
    have key : ∀ i, i < len → ∃ f : Int, w.cell? ⟨b, off + i, none⟩ = some (.int .i64 f) ∧ (Lit.int .i64 f).wf = true := fun i hi => by
      obtain ⟨cs, hf, hcell⟩ := hc i hi
      obtain ⟨v, r, rfl, ⟨x, rfl, hx⟩, hr⟩ := fitsAll_cons hf
      have h1 := hcell 0 (by simp)
      simp at h1
      exact ⟨x, h1, hx⟩
    obtain ⟨F, hF⟩ := choose_lt key
    have hlt : b < w.heap.size := World.block_lt_of_cell? w _ (hF 0 h0).1
    exact ⟨b, off, F, fun _ => ha, fun i hi => (hF i hi).2, fun W hW i hi => (hW.cell (p := ⟨b, off + i, none⟩) hlt).trans (hF i hi).1⟩
  · exact ⟨0, 0, fun _ => 0, fun h => absurd h h0, fun i hi => absurd hi (by omega), fun W hW i hi => absurd hi (by omega)⟩
theorem wf_bounds {n : Int} (h : (Lit.int .i64 n).wf = true) : -9223372036854775808 ≤ n ∧ n ≤ 9223372036854775807 := by
  simp [Lit.wf, IntKind.min, IntKind.max, IntKind.signed, IntKind.bits] at h
  omega
end Go.Open
end
