/-
  Slices of one's own of any element, as lists: opened, read element by element, grown by one.
  No program in sight; fewer than 1,000,000 elements; no other condition.
-/
import Derived.Test.YtbjkpiobfiebhaaRowK
import Derived.Test.YtbjkpiobfiebhaaStruct
namespace Go.Row
open Go.RowKit Go.Seg Go.Open Go.Lib

theorem flat_length {α : Type} (f : α → List Value) (n : Nat) (hf : ∀ x, (f x).length = n) : ∀ l : List α, (l.flatMap f).length = l.length * n
  | [] => by simp
  | x :: l => by
    rw [List.flatMap_cons, List.length_append, hf, flat_length f n hf l, List.length_cons, Nat.add_mul, Nat.one_mul, Nat.add_comm]
theorem flat_get {α : Type} (f : α → List Value) (n : Nat) (hf : ∀ x, (f x).length = n) : ∀ (l : List α) (i : Nat) (h : i < l.length) (j : Nat), j < n → (l.flatMap f)[i * n + j]? = (f l[i])[j]?
  | [], i, h, j, _ => by simp at h
  | x :: l, 0, _, j, hj => by
    rw [List.flatMap_cons, Nat.zero_mul, Nat.zero_add, List.getElem?_append_left (by rw [hf]; exact hj)]
    rfl
  | x :: l, i + 1, h, j, hj => by
    have h' : i < l.length := by simpa using h
    rw [List.flatMap_cons, List.getElem?_append_right (by rw [hf, Nat.add_mul]; omega), hf]
    have e : (i + 1) * n + j - n = i * n + j := by rw [Nat.add_mul]; omega
    rw [e, flat_get f n hf l i h' j hj]
    rfl

variable {P : Program} {α : Type} (R : Ty P) (f : α → List Value)
/-- A slice of one's own of what f lays down. -/
def RowG (w : World) (B : Nat) (u : Value) (l : List α) : Prop := Own R w B u l.length (l.flatMap f)
variable {R f} {w w' : World} {B B' : Nat} {u : Value} {l : List α}
theorem RowG.ext (h : RowG R f w B u l) (e : Ext w w') : RowG R f w' B u l := Own.ext h e
theorem RowG.base (h : RowG R f w B u l) (e : B' ≤ B) : RowG R f w B' u l := Own.base h e
theorem RowG.nil (w : World) (B : Nat) : RowG R f w B (.slice none 0 0) ([] : List α) := Own.nil w B
theorem RowG.chg {S : Nat → Prop} (h : RowG R f w B u l) (hc : Chg S w w') (hn : Off S w R.e) : RowG R f w' B u l := own_chg h hc hn
theorem RowG.openG [Inhabited α] (hf : ∀ x, (f x).length = R.size) (h : RowG R f w B u l) : ∃ (a : Option Addr) (cap b : Nat) (F : Nat → α), u = .slice a l.length cap ∧ l.length ≤ cap ∧ (0 < l.length → a = some ⟨b, 0, none⟩) ∧ (∀ (i : Nat) (h : i < l.length), F i = l[i]) ∧
    (∀ W, Ext w W → ∀ i, i < l.length → ∀ j, j < R.size → W.cell? ⟨b, i * R.size + j, none⟩ = (f (F i))[j]?) := by
  obtain ⟨a, cap, b, hu, hle, _, ha, _, hc⟩ := Own.open' h
  refine ⟨a, cap, b, fun i => l.getD i default, hu, hle, ha, fun i h => by simp [List.getD_eq_getElem?_getD, h], fun W hW i hi j hj => ?_⟩
  have e : l.getD i default = l[i] := by simp [List.getD_eq_getElem?_getD, hi]
  have hlt : i * R.size + j < l.length * R.size := by
    have : (i + 1) * R.size ≤ l.length * R.size := Nat.mul_le_mul_right _ hi
    rw [Nat.add_mul] at this
    omega
  dsimp only
  rw [hc W hW _ hlt, flat_get f R.size hf l i hi j hj, e]
theorem RowG.val (h : RowG R f w B u l) : ∃ a cap, u = .slice a l.length cap := by
  obtain ⟨a, cap, hv, _⟩ := Own.val h
  exact ⟨a, cap, hv⟩
/-- An element, loaded whole. -/
theorem loadE {W : World} {b n i : Nat} {x : List Value} (hx : x.length = n) (hc : ∀ j, j < n → W.cell? ⟨b, i * n + j, none⟩ = x[j]?) : (loadCellsFrom ⟨b, i * n, none⟩ 0 n #[]).run P W = .ok x.toArray W := by
  subst hx
  have := run_loadCells_list (P := P) W ⟨b, i * x.length, none⟩ x (fun j v hv => by
    have hadd : (⟨b, i * x.length, none⟩ : Addr).add j = ⟨b, i * x.length + j, none⟩ := by unfold Addr.add; split <;> simp_all
    have hj : j < x.length := (List.getElem?_eq_some_iff.1 hv).1
    rw [hadd, hc j hj]
    exact hv)
  simpa [loadCells] using this
/-- Grown by one that was laid in a block of its own. -/
theorem appG {W W0 : World} {ops : Array Oper} {r : List Oper} {o : Oper} {a : Act} {Q : Exit → Act → World → Prop} (hgd : o.guard = none) (s x : Operand)
    (ho : o.op = .call { callee := .builtin .append, args := #[s, x], argTypes := #[R.t, R.t] }) (v : Value) (l : List α) (hs : a.eval s = v) (hown : RowG R f W B v l) (y : α) (cs : Array Value) (hcs : cs.toList = f y) (hf : (f y).length = R.size) (h1 : ∀ u ∈ f y, u.oneCell' = true)
    (g : Nat) (hx : a.eval x = .slice (some ⟨g, 0, none⟩) 1 1) (hg : g = W.heap.size) (h63 : l.length + 1 ≤ 1000000) (hE : Ext W0 W) (hB : W0.heap.size ≤ B) (hB' : B ≤ W.heap.size)
    (h : ∀ a' cap w', RowG R f w' B (.slice a' (l.length + 1) cap) (l ++ [y]) → Ext W0 w' → w'.heap.size ≥ W.heap.size → (∀ k, v.ownBlock ≠ some k → k < W.heap.size → w'.heap[k]? = W.heap[k]?) → wpList P ops Q r (a.put o.dst (.slice a' (l.length + 1) cap)) w') :
    wpList P ops Q (o :: r) a (W.alloc (.cells cs R.e)) := by
  subst hg
  have hA : Ext W (W.alloc (.cells cs R.e)) := (Below.refl _ _).alloc (Nat.le_refl _) _
  have hsz : cs.size = R.size := by rw [← hf, ← hcs, Array.length_toList]
  have hlit := own_lit R W cs hsz
  rw [hcs] at hlit
  refine wpList_app2 R _ hgd s x ho B v l.length (l.flatMap f) hs (hown.ext hA) W.heap.size _ 1 (f y) hx hlit h1 h63 (by simp; omega) (fun a' cap w' hr hg => ?_)
  refine h a' cap w' ?_ (ext_grown (hE.trans hA) (hown.ext hA) hB hg) ?_ ?_
  · unfold RowG
    rw [List.length_append, List.flatMap_append, List.length_singleton]
    simpa using hr
  · have := hg.size; simp at this; omega
  · intro k hk hlt
    rw [hg.block k (by simp; omega) (fun e => hk e.symm), hA.block k hlt]
end Go.Row
