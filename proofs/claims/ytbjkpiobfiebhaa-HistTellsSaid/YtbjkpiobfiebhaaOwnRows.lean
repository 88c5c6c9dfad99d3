/-
  Slices of the call's own (Laws/AppendOwn's ownsRow), carried over what other calls do.
  No program in sight; no condition.
-/
import Derived.Test.YtbjkpiobfiebhaaSeg
import Derived.Test.YtbjkpiobfiebhaaOpen
import Derived.Laws.AppendOwn
namespace Go.Open
open Go.RowKit Go.Seg

variable {w w' : World} {B E s n : Nat} {v : Value} {xs : List Value}

theorem own_base {B' : Nat} (h : w.ownsRow B E s v n xs) (hB : B' ≤ B) : w.ownsRow B' E s v n xs := by
  obtain ⟨h1, h2⟩ := h
  refine ⟨h1, ?_⟩
  rcases h2 with h2 | ⟨g, cap, cur, hv, hg, r⟩
  · exact .inl h2
  · exact .inr ⟨g, cap, cur, hv, by omega, r⟩
theorem own_ext (h : w.ownsRow B E s v n xs) (e : Ext w w') : w'.ownsRow B E s v n xs := by
  obtain ⟨h1, h2⟩ := h
  refine ⟨h1, ?_⟩
  rcases h2 with h2 | ⟨g, cap, cur, hv, hg, hh, r⟩
  · exact .inl h2
  · exact .inr ⟨g, cap, cur, hv, hg, by rw [e.block g (Array.getElem?_eq_some_iff.1 hh).1]; exact hh, r⟩
theorem own_chg {S : Nat → Prop} (h : w.ownsRow B E s v n xs) (hc : Chg S w w') (hn : Off S w E) : w'.ownsRow B E s v n xs := by
  obtain ⟨h1, h2⟩ := h
  refine ⟨h1, ?_⟩
  rcases h2 with h2 | ⟨g, cap, cur, hv, hg, hh, r⟩
  · exact .inl h2
  · exact .inr ⟨g, cap, cur, hv, hg, Blk.chg (b := g) (cs := cur) (E := E) hh hc hn, r⟩
theorem own_below {B' : Nat} (h : w.ownsRow B E s v n xs) (hb : Below B' w w') (hv : ∀ k, v.ownBlock = some k → k < B') : w'.ownsRow B E s v n xs := by
  obtain ⟨h1, h2⟩ := h
  refine ⟨h1, ?_⟩
  rcases h2 with h2 | ⟨g, cap, cur, rfl, hg, hh, r⟩
  · exact .inl h2
  · exact .inr ⟨g, cap, cur, rfl, hg, by rw [hb.block g (hv g rfl)]; exact hh, r⟩

/-- A row's value, and what its cells hold. -/
theorem own_open (h : w.ownsRow B E s v n xs) : ∃ (a : Option Addr) (cap b : Nat), v = .slice a n cap ∧ n ≤ cap ∧ cap ≤ maxLen ∧ (0 < n → a = some ⟨b, 0, none⟩) ∧ (0 < n → B ≤ b ∧ b < w.heap.size) ∧
    (∀ W, Ext w W → ∀ j, j < n * s → W.cell? ⟨b, j, none⟩ = xs[j]?) := by
  obtain ⟨h1, h2⟩ := h
  rcases h2 with ⟨rfl, rfl⟩ | ⟨g, cap, cur, rfl, hg, hh, hn, hm, hs, ht⟩
  · exact ⟨none, 0, 0, rfl, Nat.le_refl _, Nat.zero_le _, fun h => absurd h (by omega), fun h => absurd h (by omega), fun W _ j hj => absurd hj (by simp)⟩
  · have hlt : g < w.heap.size := (Array.getElem?_eq_some_iff.1 hh).1
    refine ⟨some ⟨g, 0, none⟩, cap, g, rfl, hn, hm, fun _ => rfl, fun _ => ⟨hg, hlt⟩, fun W e j hj => ?_⟩
    have hW : W.heap[g]? = some (.cells cur E (0, 0)) := by rw [e.block g hlt]; exact hh
    rw [cell_of_row W g j cur E (0, 0) hW, ← ht, List.getElem?_take, if_pos hj]
    simp

theorem own_len (h : w.ownsRow B E s v n xs) : n ≤ maxLen := by
  obtain ⟨a, cap, b, _, h1, h2, _⟩ := own_open h
  omega

/-- Rows of two cells. -/
def cells2 {α : Type} (f g : α → Value) (l : List α) : List Value := l.flatMap fun x => [f x, g x]
theorem cells2_length {α : Type} (f g : α → Value) : ∀ l : List α, (cells2 f g l).length = l.length * 2
  | [] => rfl
  | x :: l => by
    have := cells2_length f g l
    unfold cells2 at *
    simp only [List.flatMap_cons, List.length_append, List.length_cons, List.length_nil, this]
    omega
theorem cells2_get {α : Type} (f g : α → Value) : ∀ (l : List α) (i : Nat) (h : i < l.length), (cells2 f g l)[i * 2]? = some (f l[i]) ∧ (cells2 f g l)[i * 2 + 1]? = some (g l[i])
  | [], i, h => absurd h (by simp)
  | x :: l, 0, _ => by simp [cells2]
  | x :: l, i + 1, h => by
    have := cells2_get f g l i (by simpa using h)
    have e : cells2 f g (x :: l) = f x :: g x :: cells2 f g l := by simp [cells2]
    rw [e, show (i + 1) * 2 = i * 2 + 1 + 1 from by omega]
    simpa using this
theorem cells2_app {α : Type} (f g : α → Value) (a b : List α) : cells2 f g (a ++ b) = cells2 f g a ++ cells2 f g b := by simp [cells2]
end Go.Open
