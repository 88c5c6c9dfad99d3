/-
  A slice of one's own, written cell by cell.
  No program in sight; no condition.
-/
import Derived.Test.YtbjkpiobfiebhaaOwnRows
import Derived.Laws.IdiomCopy
import Derived.Laws.Rows
import Derived.Deep.Draws
namespace Go.Open
open Go.RowKit Go.Seg

/-- A row of cells with some of them written over. -/
def over (l : List Value) (o : Nat) (vs : List Value) : List Value := l.take o ++ vs ++ l.drop (o + vs.length)
theorem over_length {l : List Value} {o : Nat} {vs : List Value} (h : o + vs.length ≤ l.length) : (over l o vs).length = l.length := by
  unfold over
  simp
  omega

theorem heap_setCells (g : Nat) (E : TypeId) : ∀ (vs : List Value) (o : Nat) (w : World) (cur : Array Value), w.heap[g]? = some (.cells cur E (0, 0)) → o + vs.length ≤ cur.size →
    ∃ cur', (w.setCells g o vs).heap[g]? = some (.cells cur' E (0, 0)) ∧ cur'.toList = over cur.toList o vs
  | [], o, w, cur, h, _ => ⟨cur, h, by simp [over]⟩
  | v :: vs, o, w, cur, h, hl => by
    simp only [List.length_cons] at hl
    have h1 := heap_setCell_same w g o cur E v h
    obtain ⟨cur', h2, h3⟩ := heap_setCells g E vs (o + 1) _ _ h1 (by simp; omega)
    refine ⟨cur', h2, ?_⟩
    rw [h3]
    have hlt : o < cur.toList.length := by simp; omega
    unfold over
    rw [Array.toList_setIfInBounds, List.length_cons]
    have e1 : (cur.toList.set o v).take (o + 1) = cur.toList.take o ++ [v] := by
      rw [List.take_succ_eq_append_getElem (by simpa using hlt), List.take_set_of_le (Nat.le_refl _)]
      simp
    have e2 : (cur.toList.set o v).drop (o + 1 + vs.length) = cur.toList.drop (o + (vs.length + 1)) := by
      rw [List.drop_set_of_lt (by omega), show o + 1 + vs.length = o + (vs.length + 1) from by omega]
    rw [e1, e2]
    simp

theorem chg_setCells (g : Nat) : ∀ (vs : List Value) (o : Nat) (w : World), Chg (· = g) w (w.setCells g o vs)
  | [], _, w => Chg.refl w
  | v :: vs, o, w => (Chg.set w g o v).trans (chg_setCells g vs (o + 1) _)

theorem ext_drewN (w : World) (q : Nat) : Ext w (w.drewN q) := ⟨rfl, rfl, rfl, Nat.le_refl _, fun _ _ => rfl⟩
theorem chg_ext {S : Nat → Prop} {a b c : World} (h : Ext a b) (k : Chg S b c) : Chg S a c := (Chg.of_below h).trans k
theorem ext_chg {S : Nat → Prop} {a b c : World} (h : Chg S a b) (k : Ext b c) : Chg S a c := h.trans (Chg.of_below k)
/-- Only new blocks are written: nothing of the old has turned. -/
theorem Chg.ext {S : Nat → Prop} {w w' : World} (h : Chg S w w') (hs : ∀ k, S k → w.heap.size ≤ k) : Ext w w' := h.below (Nat.le_refl _) hs
end Go.Open
