/-
  Slices of one's own of any element, as lists: opened, read element by element, grown by one. No program in sight; fewer than 1,000,000 elements; no other condition.
  Rows of calls in a block: read and written one by one; rows put in order, the alike ones as they stand: what swaps, rotations, insertions and merges do to rows. No program in sight; no condition.
  Rows put in order, the alike ones as they stand. Each thing bears its place (tag). No program in sight; no condition.
  A region that draws its order, by segments that begin anew. A pure segment: operations that look at no memory are taken whenever they come up. Another segment: its looks are waited for by all that has not come up yet: so they look at the world as it is, and of the call or store behind it nothing is asked. No program in sight; no condition.
  A region that draws its order, by a tree: operations that look are taken whenever they come up, in all worlds of a class; where several calls, stores or allocations are ready, each may come first. No program in sight; no condition.
  Histories: a call as a thing; swapped rows of calls. No condition but lengths.
  Histories: rows of calls turned and sorted: rotate, and the insertion sort of a part. No condition but lengths.
  Histories: a part of a row of calls put in order by insertion. No condition but lengths.
  Histories: the merge of rows of calls: one call ahead of a row in order. No condition but lengths.
  Histories: the merge of rows of calls: one call behind a row in order. No condition but lengths.
  Histories: the merge of rows of calls: what follows the search for the cut. No condition but lengths.
  Histories: the merge of rows of calls: two rows of two or more. No condition but lengths.
  Histories: the merge of rows of calls, whole; a row of calls sorted, the alike ones as they stood. No condition but lengths.
  A range over a function in a caller, where the frame behind the assignment is found by the walk. No program in sight; no condition.
  Iterators that range over others themselves: what they owe is asked of invariants on cells alone; a caller's range over such a one. No program in sight; no condition.
-/
import Derived.Test.YtdfbfcglacalmaaM1
import Derived.Laws.CopyRow
import Derived.Test.YtdfbfcglacalmaaProg
import Derived.WalkKit
import Derived.KernelRfl
import Derived.Deep.LoopGhost
import Derived.Lib.Hide
import Derived.Deep.DeepCutAuto
import Derived.RangeFuncFrom
import Derived.RangeFuncNested
section
namespace Go.Row
open Go.RowKit Go.Seg Go.Open Go.Lib

theorem flat_length {α : Type} (f : α → List Value) (n : Nat) (hf : ∀ x, (f x).length = n) : ∀ l : List α, (l.flatMap f).length = l.length * n
  | [] => by simp
  | x :: l => by
    rw [List.flatMap_cons, List.length_append, hf, flat_length f n hf l, List.length_cons, Nat.add_mul, Nat.one_mul, Nat.add_comm]
theorem flat_get {α : Type} (f : α → List Value) (n : Nat) (hf : ∀ x, (f x).length = n) : ∀ (l : List α) (i : Nat) (h : i < l.length) (j : Nat), j < n → (l.flatMap f)[i * n + j]? = (f l[i])[j]?
  | [], i, h, j, _ => by simp at h
  | x :: l, 0, _, j, hj => by
    rw [List.flatMap_cons, Nat.zero_mul, Nat.zero_add, List.getElem?_append_left (by rw [hf]; exact hj)]
    rfl
  | x :: l, i + 1, h, j, hj => by
    have h' : i < l.length := by simpa using h
    rw [List.flatMap_cons, List.getElem?_append_right (by rw [hf, Nat.add_mul]; omega), hf]
    have e : (i + 1) * n + j - n = i * n + j := by rw [Nat.add_mul]; omega
    rw [e, flat_get f n hf l i h' j hj]
    rfl

variable {P : Program} {α : Type} (R : Ty P) (f : α → List Value)
/-- A slice of one's own of what f lays down. -/
def RowG (w : World) (B : Nat) (u : Value) (l : List α) : Prop := Own R w B u l.length (l.flatMap f)
variable {R f} {w w' : World} {B B' : Nat} {u : Value} {l : List α}
theorem RowG.ext (h : RowG R f w B u l) (e : Ext w w') : RowG R f w' B u l := Own.ext h e
theorem RowG.base (h : RowG R f w B u l) (e : B' ≤ B) : RowG R f w B' u l := Own.base h e
theorem RowG.nil (w : World) (B : Nat) : RowG R f w B (.slice none 0 0) ([] : List α) := Own.nil w B
theorem RowG.chg {S : Nat → Prop} (h : RowG R f w B u l) (hc : Chg S w w') (hn : Off S w R.e) : RowG R f w' B u l := own_chg h hc hn
theorem RowG.openG [Inhabited α] (hf : ∀ x, (f x).length = R.size) (h : RowG R f w B u l) : ∃ (a : Option Addr) (cap b : Nat) (F : Nat → α), u = .slice a l.length cap ∧ l.length ≤ cap ∧ (0 < l.length → a = some ⟨b, 0, none⟩) ∧ (∀ (i : Nat) (h : i < l.length), F i = l[i]) ∧
    (∀ W, Ext w W → ∀ i, i < l.length → ∀ j, j < R.size → W.cell? ⟨b, i * R.size + j, none⟩ = (f (F i))[j]?) := by
  obtain ⟨a, cap, b, hu, hle, _, ha, _, hc⟩ := Own.open' h
  refine ⟨a, cap, b, fun i => l.getD i default, hu, hle, ha, fun i h => by simp [List.getD_eq_getElem?_getD, h], fun W hW i hi j hj => ?_⟩
  have e : l.getD i default = l[i] := by simp [List.getD_eq_getElem?_getD, hi]
  have hlt : i * R.size + j < l.length * R.size := by
    have : (i + 1) * R.size ≤ l.length * R.size := Nat.mul_le_mul_right _ hi
    rw [Nat.add_mul] at this
    omega
  dsimp only
  rw [hc W hW _ hlt, flat_get f R.size hf l i hi j hj, e]
theorem RowG.val (h : RowG R f w B u l) : ∃ a cap, u = .slice a l.length cap := by
  obtain ⟨a, cap, hv, _⟩ := Own.val h
  exact ⟨a, cap, hv⟩
/-- An element, loaded whole. -/
theorem loadE {W : World} {b n i : Nat} {x : List Value} (hx : x.length = n) (hc : ∀ j, j < n → W.cell? ⟨b, i * n + j, none⟩ = x[j]?) : (loadCellsFrom ⟨b, i * n, none⟩ 0 n #[]).run P W = .ok x.toArray W := by
  subst hx
  have := run_loadCells_list (P := P) W ⟨b, i * x.length, none⟩ x (fun j v hv => by
    have hadd : (⟨b, i * x.length, none⟩ : Addr).add j = ⟨b, i * x.length + j, none⟩ := by unfold Addr.add; split <;> simp_all
    have hj : j < x.length := (List.getElem?_eq_some_iff.1 hv).1
    rw [hadd, hc j hj]
    exact hv)
  simpa [loadCells] using this
/-- Grown by one that was laid in a block of its own. -/
theorem appG {W W0 : World} {ops : Array Oper} {r : List Oper} {o : Oper} {a : Act} {Q : Exit → Act → World → Prop} (hgd : o.guard = none) (s x : Operand)
    (ho : o.op = .call { callee := .builtin .append, args := #[s, x], argTypes := #[R.t, R.t] }) (v : Value) (l : List α) (hs : a.eval s = v) (hown : RowG R f W B v l) (y : α) (cs : Array Value) (hcs : cs.toList = f y) (hf : (f y).length = R.size) (h1 : ∀ u ∈ f y, u.oneCell' = true)
    (g : Nat) (hx : a.eval x = .slice (some ⟨g, 0, none⟩) 1 1) (hg : g = W.heap.size) (h63 : l.length + 1 ≤ 1000000) (hE : Ext W0 W) (hB : W0.heap.size ≤ B) (hB' : B ≤ W.heap.size)
    (h : ∀ a' cap w', RowG R f w' B (.slice a' (l.length + 1) cap) (l ++ [y]) → Ext W0 w' → w'.heap.size ≥ W.heap.size → (∀ k, v.ownBlock ≠ some k → k < W.heap.size → w'.heap[k]? = W.heap[k]?) → wpList P ops Q r (a.put o.dst (.slice a' (l.length + 1) cap)) w') :
    wpList P ops Q (o :: r) a (W.alloc (.cells cs R.e)) := by
  subst hg
  have hA : Ext W (W.alloc (.cells cs R.e)) := (Below.refl _ _).alloc (Nat.le_refl _) _
  have hsz : cs.size = R.size := by rw [← hf, ← hcs, Array.length_toList]
  have hlit := own_lit R W cs hsz
  rw [hcs] at hlit
  refine wpList_app2 R _ hgd s x ho B v l.length (l.flatMap f) hs (hown.ext hA) W.heap.size _ 1 (f y) hx hlit h1 h63 (by simp; omega) (fun a' cap w' hr hg => ?_)
  refine h a' cap w' ?_ (ext_grown (hE.trans hA) (hown.ext hA) hB hg) ?_ ?_
  · unfold RowG
    rw [List.length_append, List.flatMap_append, List.length_singleton]
    simpa using hr
  · have := hg.size; simp at this; omega
  · intro k hk hlt
    rw [hg.block k (by simp; omega) (fun e => hk e.symm), hA.block k hlt]
end Go.Row
end

section
namespace Go.Arr
open Go.RowKit Go.Seg Go.Open Go.Lib
variable {α : Type}

/-- A block holds these things, from its start on (f lays n cells for each). -/
def At (f : α → List Value) (n : Nat) (E : TypeId) (w : World) (b : Nat) (T : List α) : Prop :=
  ∃ cur, w.heap[b]? = some (.cells cur E (0, 0)) ∧ T.length * n ≤ cur.size ∧ cur.toList.take (T.length * n) = T.flatMap f
variable {f : α → List Value} {n : Nat} {E : TypeId} {w w' : World} {b : Nat} {T : List α} {P : Program}
theorem At.lt (h : At f n E w b T) : b < w.heap.size := by
  obtain ⟨cur, h1, _⟩ := h
  exact (Array.getElem?_eq_some_iff.1 h1).1
theorem At.ext (h : At f n E w b T) (e : Ext w w') : At f n E w' b T := by
  have hl := h.lt
  obtain ⟨cur, h1, h2⟩ := h
  exact ⟨cur, (e.block b hl).trans h1, h2⟩
theorem At.cell (hf : ∀ x, (f x).length = n) (h : At f n E w b T) (i : Nat) (hi : i < T.length) (j : Nat) (hj : j < n) : w.cell? ⟨b, i * n + j, none⟩ = (f T[i])[j]? := by
  obtain ⟨cur, h1, h2, h3⟩ := h
  have hlt : i * n + j < T.length * n := by
    have : (i + 1) * n ≤ T.length * n := Nat.mul_le_mul_right _ hi
    rw [Nat.add_mul] at this
    omega
  rw [cell_of_row w b (i * n + j) cur E (0, 0) h1, ← Row.flat_get f n hf T i hi j hj, ← h3, List.getElem?_take, if_pos hlt]
  simp
theorem At.load (hf : ∀ x, (f x).length = n) (h : At f n E w b T) (i : Nat) (hi : i < T.length) : (loadCellsFrom ⟨b, i * n, none⟩ 0 n #[]).run P w = .ok (f T[i]).toArray w :=
  Row.loadE (hf _) (fun j hj => h.cell hf i hi j hj)
theorem flat_set (hf : ∀ x, (f x).length = n) : ∀ (T : List α) (i : Nat) (x : α), i < T.length → (T.set i x).flatMap f = (T.flatMap f).take (i * n) ++ f x ++ (T.flatMap f).drop (i * n + n)
  | [], i, x, h => by simp at h
  | y :: T, 0, x, _ => by
    simp only [List.set_cons_zero, List.flatMap_cons, Nat.zero_mul, List.take_zero, List.nil_append, Nat.zero_add]
    rw [List.drop_append_of_le_length (by rw [hf]; exact Nat.le_refl _), show List.drop n (f y) = [] from List.drop_of_length_le (by rw [hf]; exact Nat.le_refl _), List.nil_append]
  | y :: T, i + 1, x, h => by
    have h' : i < T.length := by simpa using h
    simp only [List.set_cons_succ, List.flatMap_cons]
    rw [flat_set hf T i x h', show (i + 1) * n = n + i * n by rw [Nat.add_mul]; omega]
    have e1 : (f y ++ T.flatMap f).take (n + i * n) = f y ++ (T.flatMap f).take (i * n) := by
      rw [show n + i * n = (f y).length + i * n by rw [hf], List.take_length_add_append]
    have e2 : (f y ++ T.flatMap f).drop (n + i * n + n) = (T.flatMap f).drop (i * n + n) := by
      rw [show n + i * n + n = (f y).length + (i * n + n) by rw [hf]; omega, List.drop_length_add_append]
    rw [e1, e2]
    simp
theorem At.store (hf : ∀ x, (f x).length = n) (h1' : ∀ x, ∀ v ∈ f x, v.oneCell' = true) (h : At f n E w b T) (i : Nat) (hi : i < T.length) (x : α) :
    ∃ W, (storeCells ⟨b, i * n, none⟩ (f x).toArray.toList 0).run P w = .ok () W ∧ At f n E W b (T.set i x) ∧ Chg (· = b) w W := by
  obtain ⟨cur, h1, h2, h3⟩ := h
  have hin : i * n + n ≤ T.length * n := by
    have : (i + 1) * n ≤ T.length * n := Nat.mul_le_mul_right _ hi
    rw [Nat.add_mul] at this
    omega
  have hs := run_storeCells_at (P := P) b (i * n) E (f x) 0 cur w h1 (by rw [hf]; omega) (h1' x)
  rw [hf, Nat.add_zero] at hs
  refine ⟨_, by simpa using hs, ⟨_, setRow_heap w b cur _ E (0, 0) h1, ?_, ?_⟩, ?_⟩
  · rw [List.length_set]
    simp only [List.size_toArray, List.length_append, List.length_take, List.length_drop, Array.length_toList, hf]
    omega
  · rw [List.length_set, flat_set hf T i x hi, ← h3]
    have hc : cur.toList.length = cur.size := Array.length_toList
    have hl2 : T.length * n = i * n + (n + (T.length * n - (i * n + n))) := by omega
    simp only []
    rw [List.take_take, Nat.min_eq_left (show i * n ≤ T.length * n by omega), List.drop_take, List.append_assoc]
    try rw [List.append_assoc]
    have e0 : (List.take (i * n) cur.toList).length = i * n := by rw [List.length_take]; omega
    rw [show T.length * n = (List.take (i * n) cur.toList).length + (n + (T.length * n - (i * n + n))) by rw [e0]; exact hl2, List.take_length_add_append]
    rw [e0]
    congr 1
    rw [show n + (T.length * n - (i * n + n)) = (f x).length + (T.length * n - (i * n + n)) by rw [hf], List.take_length_add_append]
    congr 2
    have hfx := hf x
    omega
  · refine ⟨rfl, rfl, rfl, by simp [World.setRow], fun k hk hne => ?_⟩
    simp only [World.setRow, Array.getElem?_modify]
    rw [if_neg (fun e => hne e.symm)]

/-- Two things change their places. -/
theorem set2 (X Y Z : List α) (a c : α) : ((X ++ a :: (Y ++ c :: Z)).set X.length c).set (X.length + 1 + Y.length) a = X ++ c :: (Y ++ a :: Z) := by
  rw [List.set_append_right _ _ (Nat.le_refl _), Nat.sub_self, List.set_cons_zero, List.set_append_right _ _ (by omega), show X.length + 1 + Y.length - X.length = Y.length + 1 by omega, List.set_cons_succ, List.set_append_right _ _ (Nat.le_refl _), Nat.sub_self, List.set_cons_zero]
theorem set2r (X Y Z : List α) (a c : α) : ((X ++ a :: (Y ++ c :: Z)).set (X.length + 1 + Y.length) a).set X.length c = X ++ c :: (Y ++ a :: Z) := by
  rw [List.set_append_right _ _ (by omega), show X.length + 1 + Y.length - X.length = Y.length + 1 by omega, List.set_cons_succ, List.set_append_right _ _ (Nat.le_refl _), Nat.sub_self, List.set_cons_zero, List.set_append_right _ _ (Nat.le_refl _), Nat.sub_self, List.set_cons_zero]
theorem at1 (X Y Z : List α) (a c : α) (h : X.length < (X ++ a :: (Y ++ c :: Z)).length) : (X ++ a :: (Y ++ c :: Z))[X.length] = a := by simp
theorem at2 (X Y Z : List α) (a c : α) (h : X.length + 1 + Y.length < (X ++ a :: (Y ++ c :: Z)).length) : (X ++ a :: (Y ++ c :: Z))[X.length + 1 + Y.length] = c := by
  rw [List.getElem_append_right (by omega)]
  simp only [show X.length + 1 + Y.length - X.length = Y.length + 1 by omega, List.getElem_cons_succ]
  simp

/-- A load carried out as one. -/
theorem wpList_ldA {w : World} {ops : Array Oper} {rest : List Oper} {o : Oper} {a : Act} {Q : Exit → Act → World → Prop} (hw : Region.wanted o (yielded ops a.tmps) = true) (t : TypeId) (x : Operand) (ho : o.op = .load t x) (v : Value)
    (hl : (Instr.loadAt t (a.eval x)).run P w = .ok v w) (h : wpList P ops Q rest (a.put o.dst v) w) : wpList P ops Q (o :: rest) a w := by
  refine wpList_step fun K hK => ?_
  rw [if_pos hw]
  unfold Oper.wp
  simp [execOp, ho, hl, Result.andThen]
  exact hK _ _ h
/-- A store carried out as one. -/
theorem wpList_stA {w w' : World} {ops : Array Oper} {rest : List Oper} {o : Oper} {a : Act} {Q : Exit → Act → World → Prop} (hw : Region.wanted o (yielded ops a.tmps) = true) (t : TypeId) (x y : Operand) (ho : o.op = .store t x y) (hd : o.dst = none)
    (hl : (Instr.storeAt t (a.eval x) (a.eval y)).run P w = .ok () w') (h : wpList P ops Q rest a w') : wpList P ops Q (o :: rest) a w := by
  refine wpList_step fun K hK => ?_
  rw [if_pos hw]
  unfold Oper.wp
  simp [execOp, ho, hl, Result.andThen]
  exact hK _ _ (by rw [hd]; exact h)
theorem run_loadA {w : World} {t : TypeId} {ad : Addr} {cs : Array Value} (ha : (isAgg t).run P w = .ok true w) (hs : (sizeOf t).run P w = .ok n w) (hl : (loadCellsFrom ad 0 n #[]).run P w = .ok cs w) : (Instr.loadAt t (.pointer (some ad))).run P w = .ok (.agg cs) w := by
  simp [Instr.loadAt, Instr.sureAddr, loadVar, ha, hs, loadCells, hl]
theorem run_storeA {w w' : World} {t : TypeId} {ad : Addr} {cs : Array Value} (hs : (sizeOf t).run P w = .ok n w) (hn : cs.size = n) (hl : (storeCells ad cs.toList 0).run P w = .ok () w') : (Instr.storeAt t (.pointer (some ad)) (.agg cs)).run P w = .ok () w' := by
  simp [Instr.storeAt, Instr.sureAddr, storeVar, hs, Value.cells, hn, hl]
end Go.Arr
end

section
namespace Go.Stab
variable {α : Type} (key : α → Int)

/-- One thing stands ahead of another. -/
def Lt (x y : α × Nat) : Prop := key x.1 < key y.1 ∨ (key x.1 = key y.1 ∧ x.2 < y.2)
variable {key}
theorem Lt.trans {x y z : α × Nat} (h : Lt key x y) (k : Lt key y z) : Lt key x z := by unfold Lt at *; omega
theorem Lt.irr (x : α × Nat) : ¬ Lt key x x := by unfold Lt; omega
variable (key)
def Srt (l : List (α × Nat)) : Prop := l.Pairwise (Lt key)
/-- These, put in order. -/
def Done (M M' : List (α × Nat)) : Prop := M'.Perm M ∧ Srt key M'
def Tags (A B : List (α × Nat)) : Prop := ∀ x ∈ A, ∀ y ∈ B, x.2 < y.2
variable {key}
theorem srt_app {A B : List (α × Nat)} : Srt key (A ++ B) ↔ Srt key A ∧ Srt key B ∧ ∀ x ∈ A, ∀ y ∈ B, Lt key x y := List.pairwise_append
theorem uniq {l l' : List (α × Nat)} (hp : l.Perm l') (h : Srt key l) (h' : Srt key l') : l = l' :=
  hp.eq_of_pairwise (le := Lt key) (fun a b _ _ h k => absurd (Lt.trans h k) (Lt.irr a)) h h'
/-- What insertion's inner loop keeps: all in order, but for x, which stands between S1 and S2. -/
structure Ins (key : α → Int) (M S1 : List (α × Nat)) (x : α × Nat) (S2 : List (α × Nat)) : Prop where
  perm : (S1 ++ x :: S2).Perm M
  srt : Srt key (S1 ++ S2)
  gt : ∀ y ∈ S2, key x.1 < key y.1
  tag : ∀ y ∈ S1, y.2 < x.2
theorem Ins.start {S M : List (α × Nat)} {x : α × Nat} (h : Done key M S) (ht : ∀ y ∈ M, y.2 < x.2) : Ins key (M ++ [x]) S x [] :=
  ⟨h.1.append_right [x], by rw [List.append_nil]; exact h.2, fun _ h => by simp at h, fun y hy => ht y (h.1.mem_iff.1 hy)⟩
theorem Ins.step {M S1 S2 : List (α × Nat)} {x z : α × Nat} (h : Ins key M (S1 ++ [z]) x S2) (hlt : key x.1 < key z.1) : Ins key M S1 x (z :: S2) := by
  refine ⟨?_, ?_, ?_, fun y hy => h.tag y (by simp [hy])⟩
  · refine List.Perm.trans ?_ h.perm
    rw [List.append_assoc]
    exact List.Perm.append_left _ (List.Perm.swap _ _ _)
  · have := h.srt
    rw [List.append_assoc] at this
    exact this
  · intro y hy
    rcases List.mem_cons.1 hy with rfl | hy
    · exact hlt
    · exact h.gt y hy
theorem Ins.stop {M S1 S2 : List (α × Nat)} {x : α × Nat} (h : Ins key M S1 x S2) (hle : ∀ S z, S1 = S ++ [z] → key z.1 ≤ key x.1) : Done key M (S1 ++ x :: S2) := by
  refine ⟨h.perm, ?_⟩
  obtain ⟨h1, h2, h3⟩ := srt_app.1 h.srt
  refine srt_app.2 ⟨h1, List.pairwise_cons.2 ⟨fun y hy => .inl (h.gt y hy), h2⟩, fun y hy z hz => ?_⟩
  rcases List.mem_cons.1 hz with rfl | hz
  · have hne : S1 ≠ [] := fun e => by rw [e] at hy; simp at hy
    obtain ⟨S, l, rfl⟩ : ∃ S l, S1 = S ++ [l] := ⟨S1.dropLast, S1.getLast hne, (List.dropLast_concat_getLast hne).symm⟩
    have hl : Lt key l z := by
      have := hle S l rfl
      have := h.tag l (by simp)
      unfold Lt
      omega
    rcases List.mem_append.1 hy with hy | hy
    · exact Lt.trans ((srt_app.1 h1).2.2 y hy l (by simp)) hl
    · simp at hy; subst hy; exact hl
  · exact h3 y hy z hz
/-- One thing put into a row in order: where it belongs. -/
theorem merge_left {x : α × Nat} {A B : List (α × Nat)} (hs : Srt key (A ++ B)) (hA : ∀ S z, A = S ++ [z] → key z.1 < key x.1) (hB : ∀ z S, B = z :: S → key x.1 ≤ key z.1) (ht : ∀ y ∈ B, x.2 < y.2) : Done key (x :: (A ++ B)) (A ++ x :: B) := by
  obtain ⟨h1, h2, h3⟩ := srt_app.1 hs
  refine ⟨List.perm_middle, srt_app.2 ⟨h1, List.pairwise_cons.2 ⟨fun y hy => ?_, h2⟩, fun y hy z hz => ?_⟩⟩
  · obtain ⟨b, S, rfl⟩ : ∃ b S, B = b :: S := by cases B with
      | nil => simp at hy
      | cons b S => exact ⟨b, S, rfl⟩
    have hb := hB b S rfl
    have htb := ht b (by simp)
    have hl : Lt key x b := by unfold Lt; omega
    rcases List.mem_cons.1 hy with rfl | hy
    · exact hl
    · exact Lt.trans hl ((List.pairwise_cons.1 h2).1 y hy)
  · rcases List.mem_cons.1 hz with rfl | hz
    · have hne : A ≠ [] := fun e => by rw [e] at hy; simp at hy
      obtain ⟨S, l, rfl⟩ : ∃ S l, A = S ++ [l] := ⟨A.dropLast, A.getLast hne, (List.dropLast_concat_getLast hne).symm⟩
      have hl : Lt key l z := .inl (hA S l rfl)
      rcases List.mem_append.1 hy with hy | hy
      · exact Lt.trans ((srt_app.1 h1).2.2 y hy l (by simp)) hl
      · simp at hy; subst hy; exact hl
    · exact h3 y hy z hz
theorem merge_right {x : α × Nat} {A B : List (α × Nat)} (hs : Srt key (A ++ B)) (hA : ∀ S z, A = S ++ [z] → key z.1 ≤ key x.1) (hB : ∀ z S, B = z :: S → key x.1 < key z.1) (ht : ∀ y ∈ A, y.2 < x.2) : Done key (A ++ B ++ [x]) (A ++ x :: B) := by
  obtain ⟨h1, h2, h3⟩ := srt_app.1 hs
  refine ⟨?_, srt_app.2 ⟨h1, List.pairwise_cons.2 ⟨fun y hy => ?_, h2⟩, fun y hy z hz => ?_⟩⟩
  · rw [List.append_assoc]
    exact List.Perm.append_left _ (List.perm_append_comm (l₁ := [x]))
  · obtain ⟨b, S, rfl⟩ : ∃ b S, B = b :: S := by cases B with
      | nil => simp at hy
      | cons b S => exact ⟨b, S, rfl⟩
    have hl : Lt key x b := .inl (hB b S rfl)
    rcases List.mem_cons.1 hy with rfl | hy
    · exact hl
    · exact Lt.trans hl ((List.pairwise_cons.1 h2).1 y hy)
  · rcases List.mem_cons.1 hz with rfl | hz
    · have hne : A ≠ [] := fun e => by rw [e] at hy; simp at hy
      obtain ⟨S, l, rfl⟩ : ∃ S l, A = S ++ [l] := ⟨A.dropLast, A.getLast hne, (List.dropLast_concat_getLast hne).symm⟩
      have hl : Lt key l z := by
        have := hA S l rfl
        have := ht l (by simp)
        unfold Lt
        omega
      rcases List.mem_append.1 hy with hy | hy
      · exact Lt.trans ((srt_app.1 h1).2.2 y hy l (by simp)) hl
      · simp at hy; subst hy; exact hl
    · exact h3 y hy z hz
/-- The last of a row in order is behind all, the first ahead of all. -/
theorem all_last {S : List (α × Nat)} {l y : α × Nat} (h : Srt key (S ++ [l])) (hy : y ∈ S ++ [l]) : y = l ∨ Lt key y l := by
  rcases List.mem_append.1 hy with hy | hy
  · exact .inr ((srt_app.1 h).2.2 y hy l (by simp))
  · simp at hy; exact .inl hy
theorem all_first {S : List (α × Nat)} {l y : α × Nat} (h : Srt key (l :: S)) (hy : y ∈ l :: S) : y = l ∨ Lt key l y := by
  rcases List.mem_cons.1 hy with hy | hy
  · exact .inl hy
  · exact .inr ((List.pairwise_cons.1 h).1 y hy)
/-- All of one row stand ahead of all of another one, if the last does of the first. -/
theorem cross {A B : List (α × Nat)} (hA : Srt key A) (hB : Srt key B) (h : ∀ S x y R, A = S ++ [x] → B = y :: R → Lt key x y) : ∀ x ∈ A, ∀ y ∈ B, Lt key x y := by
  intro x hx y hy
  have hne : A ≠ [] := fun e => by rw [e] at hx; simp at hx
  obtain ⟨S, l, rfl⟩ : ∃ S l, A = S ++ [l] := ⟨A.dropLast, A.getLast hne, (List.dropLast_concat_getLast hne).symm⟩
  obtain ⟨b, R, rfl⟩ : ∃ b R, B = b :: R := by cases B with
    | nil => simp at hy
    | cons b R => exact ⟨b, R, rfl⟩
  have h0 := h S l b R rfl rfl
  rcases all_last hA hx with rfl | h1
  · rcases all_first hB hy with rfl | h2
    · exact h0
    · exact Lt.trans h0 h2
  · rcases all_first hB hy with rfl | h2
    · exact Lt.trans h1 h0
    · exact Lt.trans (Lt.trans h1 h0) h2
/-- Two rows in order, cut in two each: what is merged on either side makes the whole. -/
theorem merge_cut {U1 U2 V1 V2 L1 L2 : List (α × Nat)} (hU : Srt key (U1 ++ U2)) (hV : Srt key (V1 ++ V2)) (ht : Tags (U1 ++ U2) (V1 ++ V2))
    (hA : ∀ S x y R, U1 = S ++ [x] → V2 = y :: R → ¬ key y.1 < key x.1) (hB : ∀ S y x R, V1 = S ++ [y] → U2 = x :: R → key y.1 < key x.1)
    (h1 : Done key (U1 ++ V1) L1) (h2 : Done key (U2 ++ V2) L2) : Done key (U1 ++ U2 ++ (V1 ++ V2)) (L1 ++ L2) := by
  obtain ⟨u1, u2, u3⟩ := srt_app.1 hU
  obtain ⟨v1, v2, v3⟩ := srt_app.1 hV
  have c1 := cross u1 v2 (fun S x y R e1 e2 => by
    have a := hA S x y R e1 e2
    have b := ht x (by simp [e1]) y (by simp [e2])
    unfold Lt
    omega)
  have c2 := cross v1 u2 (fun S y x R e1 e2 => .inl (hB S y x R e1 e2))
  refine ⟨?_, srt_app.2 ⟨h1.2, h2.2, fun x hx y hy => ?_⟩⟩
  · refine (h1.1.append h2.1).trans ?_
    rw [List.append_assoc, List.append_assoc]
    refine List.Perm.append_left _ ?_
    rw [← List.append_assoc, ← List.append_assoc]
    exact List.perm_append_comm.append_right _
  · rcases List.mem_append.1 (h1.1.mem_iff.1 hx) with hx | hx <;> rcases List.mem_append.1 (h2.1.mem_iff.1 hy) with hy | hy
    · exact u3 x hx y hy
    · exact c1 x hx y hy
    · exact c2 x hx y hy
    · exact v3 x hx y hy
theorem Done.refl {M : List (α × Nat)} (h : Srt key M) : Done key M M := ⟨List.Perm.refl _, h⟩
theorem Done.nil_left {V : List (α × Nat)} (h : Srt key V) : Done key ([] ++ V) V := ⟨List.Perm.refl _, h⟩
end Go.Stab
end

section
namespace Go.Seg
open Go.RowKit
section
variable {P : Program} {ops : Array Oper} {Q : Exit → Act → World → Prop} {md : Region.Mode} {n : Nat} {kind : Program → Oper → Bool}

theorem wpAnyT_of_late {C : World → Prop} : ∀ (fuel : Nat) (listed : Array Bool) (a : Act) (w : World), (∀ j, j < n → listed.getD j true = true) → wpAny P md ops Q fuel listed a w → wpAnyT P md ops Q n C fuel listed a w
  | 0, _, _, _, _, h => h
  | fuel + 1, listed, _, _, hl, h => by
    refine ⟨h.1, fun i hi => wpOp_mono (fun a' w' h' => ⟨fun hn => ?_, wpAnyT_of_late fuel _ a' w' (fun j hj => ?_) h'⟩) (h.2 i hi)⟩
    · have h1 := (mem_ready.1 hi).1
      rw [hl i hn] at h1
      cases h1
    · by_cases hij : i = j
      · subst hij
        rcases Nat.lt_or_ge i listed.size with h2 | h2 <;> simp [h2]
      · rw [getD_set_ne true hij]; exact hl j hj
/-- Of a class of all worlds nothing is to be shown. -/
theorem wpAnyT_of_all : ∀ (fuel : Nat) (listed : Array Bool) (a : Act) (w : World), wpAny P md ops Q fuel listed a w → wpAnyT P md ops Q n (fun _ => True) fuel listed a w
  | 0, _, _, _, h => h
  | fuel + 1, _, _, _, h => ⟨h.1, fun i hi => wpOp_mono (fun a' w' h' => ⟨fun _ => trivial, wpAnyT_of_all fuel _ a' w' h'⟩) (h.2 i hi)⟩

def SegsK (P : Program) (ops : Array Oper) (Q : Exit → Act → World → Prop) : List (List Bool × Nat × Nat) → List Oper → Act → World → Prop
  | [], _, a, w => Q .normal a w
  | (m, 0, _) :: ms, l, a, w => ∃ aE, (∀ W, wpList P ops (QEnd aE W) (pick m l) a W) ∧ SegsK P ops Q ms (left m l) aE w
  | (_, 1, _) :: ms, l, a, w =>
      match l with
      | [] => False
      | o :: l' => wpList P ops (FEnd true w (SegsK P ops Q ms l')) [o] a w
  | (m, 2, _) :: ms, l, a, w => ∃ aE, wpList P ops (QEnd aE w) (pick m l) a w ∧ SegsK P ops Q ms (left m l) aE w
  | (m, _ + 3, _) :: ms, l, a, w => ∃ aE, (∀ W, Ext w W → wpList P ops (QEnd aE W) (pick m l) a W) ∧
      match left m l with
      | [] => False
      | o :: l' => wpList P ops (FEnd false w (SegsK P ops Q ms l')) [o] aE w

theorem getD_grow {listed : Array Bool} {i k : Nat} (h : listed.getD k true = true) : (listed.setIfInBounds i true).getD k true = true := by
  by_cases hik : i = k
  · subst hik
    rcases Nat.lt_or_ge i listed.size with h2 | h2 <;> simp [h2]
  · rw [getD_set_ne true hik]; exact h

/-- A looking operation of the first n that may come up now may be taken first. -/
theorem wpAnyTK_first {C : World → Prop} {i : Nat} {oi : Oper} {v : Value} (hi : ops[i]? = some oi) (hsel : ∀ (j : Nat) (o : Oper) cs b, ops[j]? = some o → o.op ≠ .select cs b)
    (hQ : ∀ c a w, Q (.panic c) (a.put oi.dst v) w → Q (.panic c) a w)
    {L0 : Nat → Prop} (htail : ∀ (j : Nat) (o : Oper), ops[j]? = some o → n ≤ j → L0 j ∨ anc md ops 12 j i = true) :
    ∀ (fuel : Nat) (listed : Array Bool) (a : Act) (w : World), (∀ j, L0 j → listed.getD j true = true) → Closed md ops listed →
      (∀ j oj, ops[j]? = some oj → j ≠ i → listed.getD j true = false → (∀ e ∈ oj.after, Region.binds md e = true → e.on ≠ i) → oi.apart ops oj = true) →
      i ∈ Region.ready md ops listed → YieldsIf P ops C oi v a → C w →
      wpAnyT P md ops Q n C fuel (listed.setIfInBounds i true) (a.put oi.dst v) w → wpAnyT P md ops Q n C (fuel + 1) listed a w := by
  intro fuel
  induction fuel with
  | zero =>
    intro listed a w _ _ _ hr hy hC H
    refine ⟨fun h => (by rw [h] at hr; cases hr), fun j hj => ?_⟩
    by_cases hji : j = i
    · subst hji; exact hy.wpOp hi hC ⟨fun _ => hC, H⟩
    · have := ready_mono hj hji
      rw [H.1] at this
      cases this
  | succ fuel ih =>
    intro listed a w hL0 hcl hfree hr hy hC H
    refine ⟨fun h => (by rw [h] at hr; cases hr), fun j hj => ?_⟩
    by_cases hji : j = i
    · subst hji; exact hy.wpOp hi hC ⟨fun _ => hC, H⟩
    · have h1 := H.2 j (ready_mono hj hji)
      obtain ⟨hjun, oj, hoj, hall⟩ := mem_ready.1 hj
      have hun : listed.getD i false ≠ true := fun h1 => by
        have h0 := (mem_ready.1 hr).1
        rcases Nat.lt_or_ge i listed.size with h' | h'
        · simp [h'] at h0 h1; rw [h0] at h1; cases h1
        · simp [Array.getElem?_eq_none h'] at h1
      have hjn : j < n := by
        rcases Nat.lt_or_ge j n with h | h
        · exact h
        · exact (htail j oj hoj h).elim (fun hl => by have := hL0 j hl; rw [hjun] at this; cases this) (fun ha => absurd (anc_listed hcl 12 j i oj hoj hall ha) hun)
      have hnot : ∀ e ∈ oj.after, Region.binds md e = true → e.on ≠ i := fun e he hb heq => hun (heq ▸ hall e he hb)
      have h2 := wpOp_putIf hoj (hfree j oj hoj hji hjun hnot) (fun cs b => hsel i oi cs b hi) (fun cs b => hsel j oj cs b hoj) hQ hy h1
      have hfree' : ∀ k ok, ops[k]? = some ok → k ≠ i → (listed.setIfInBounds j true).getD k true = false →
          (∀ e ∈ ok.after, Region.binds md e = true → e.on ≠ i) → oi.apart ops ok = true := fun k ok hk hki hun hno => by
        refine hfree k ok hk hki ?_ hno
        by_cases hjk : j = k
        · subst hjk; exact hjun
        · rw [getD_set_ne true hjk] at hun; exact hun
      refine wpOp_mono (fun a' w' h3 => ⟨h3.2.1, ih (listed.setIfInBounds j true) a' w' (fun k hk => getD_grow (hL0 k hk)) (hcl.set hj) hfree' (ready_mono hr (Ne.symm hji)) h3.1 (h3.2.1 hjn) ?_⟩) h2
      rw [Array.setIfInBounds_comm _ _ hji]
      exact h3.2.2

theorem wpAnyTK_quiets (hkind : ∀ o, kind P o = true → Quiet P o) (hs : Region.noSelect ops = true) (hQ : ∀ c a a' w, Q (.panic c) a w → Q (.panic c) a' w) {C : World → Prop} {aE : Act} {w : World} (hC : C w) {L0 : Nat → Prop} (get : Nat → Oper) :
    ∀ (q : List Nat) (listed : Array Bool) (a : Act) (fuel : Nat), (∀ j, L0 j → listed.getD j true = true) → Closed md ops listed → (∀ i ∈ q, ops[i]? = some (get i)) → (∀ i ∈ q, ∀ (j : Nat) (o : Oper), ops[j]? = some o → n ≤ j → L0 j ∨ anc md ops 12 j i = true) → okQuiet P kind md ops n q listed = true → dstsOk ops a.tmps.size = true →
      (∀ W, C W → wpList P ops (QEnd aE W) (q.map get) a W) → (aE.tmps.size = a.tmps.size → Closed md ops (mark listed q) → wpAnyT P md ops Q n C fuel (mark listed q) aE w) → wpAnyT P md ops Q n C (fuel + q.length) listed a w
  | [], listed, a, fuel, _, hcl, _, _, _, _, hw, hk => by
    obtain ⟨h1, _⟩ := hw w hC
    subst h1
    exact hk rfl hcl
  | i :: q, listed, a, fuel, hL0, hcl, hget, htail, hok, hd, hw, hk => by
    have hi := hget i (by simp)
    simp only [okQuiet, hi, Bool.and_eq_true, decide_eq_true_eq] at hok
    obtain ⟨⟨⟨⟨h1, h2⟩, h3⟩, h4, h5⟩, h6⟩ := hok
    cases hdst : (get i).dst with
    | none => rw [hdst] at h5; cases h5
    | some d =>
      rw [hdst] at h5
      have h5' : q.all (fun j => match ops[j]? with | some x => x.dst != some d | none => false) = true := h5
      rw [List.all_eq_true] at h5'
      have hquiet : ∀ (q : List Nat) (listed : Array Bool), (∀ i ∈ q, ops[i]? = some (get i)) → okQuiet P kind md ops n q listed = true → ∀ x ∈ q.map get, Quiet P x := by
        intro q
        induction q with
        | nil => intro _ _ _ x hx; cases hx
        | cons j q ih =>
          intro listed hg hok x hx
          simp only [okQuiet, hg j (by simp), Bool.and_eq_true] at hok
          rcases List.mem_cons.1 hx with rfl | hx
          · exact hkind _ hok.1.2.1
          · exact ih _ (fun k hk => hg k (by simp [hk])) hok.2 x hx
      have hgq : ∀ j ∈ q, ops[j]? = some (get j) := fun j hj => hget j (by simp [hj])
      obtain ⟨v, hy, hrest⟩ := quiet_head (C := C) (aE := aE) (l := q.map get) (a := a) (fun x hx => by
        rcases List.mem_cons.1 hx with rfl | hx
        · exact hkind _ h4
        · exact hquiet q _ hgq h6 x hx) hdst (dstsOk_spec hd hi hdst) (fun x hx => by
        obtain ⟨j, hj, rfl⟩ := List.mem_map.1 hx
        have := h5' j hj
        rw [hgq j hj] at this
        simpa using this) hw
      rw [List.length_cons, ← Nat.add_assoc]
      refine wpAnyTK_first hi (Region.noSelect_spec hs) (fun c a w h => hQ _ _ _ _ h) (fun j o ho hj => htail i (by simp) j o ho hj) _ listed a w hL0 hcl (Region.free_spec hi h2) (by simpa using h1) hy hC ?_
      exact wpAnyTK_quiets hkind hs hQ hC get q _ _ fuel (fun k hk => getD_grow (hL0 k hk)) (hcl.set (by simpa using h1)) hgq (fun k hk => htail k (by simp [hk])) h6 (by rw [Act.put_size]; exact hd) hrest (fun he => hk (by rw [he, Act.put_size]))


def okPlanK (P : Program) (kind : Program → Oper → Bool) (md : Region.Mode) (ops : Array Oper) : List (List Bool × Nat × Nat) → List Nat → Array Bool → Bool
  | [], l, listed => l.isEmpty && (Region.ready md ops listed).isEmpty
  | (m, 0, _) :: ms, l, listed => okQuiet P kind md ops ops.size (pick m l) listed && okPlanK P kind md ops ms (left m l) (mark listed (pick m l))
  | (_, 1, _) :: ms, l, listed =>
    match l with
    | [] => false
    | f :: l' => Region.ready md ops listed == [f] && okPlanK P kind md ops ms l' (listed.setIfInBounds f true)
  | (m, 2, n) :: ms, l, listed =>
    okQuiet P kind md ops n (pick m l) listed && (pick m l).all (fun i => (List.range ops.size).all (fun j => decide (j < n) || listed.getD j true || anc md ops 12 j i)) &&
    (List.range n).all (fun j => (mark listed (pick m l)).getD j true) && okPlanK P kind md ops ms (left m l) (mark listed (pick m l))
  | (m, _ + 3, n) :: ms, l, listed =>
    okQuiet P kind md ops n (pick m l) listed && (pick m l).all (fun i => (List.range ops.size).all (fun j => decide (j < n) || listed.getD j true || anc md ops 12 j i)) &&
    match left m l with
    | [] => false
    | f :: l' => Region.ready md ops (mark listed (pick m l)) == [f] && (List.range n).all (fun j => ((mark listed (pick m l)).setIfInBounds f true).getD j true) && okPlanK P kind md ops ms l' ((mark listed (pick m l)).setIfInBounds f true)

theorem wpAny_of_segsK (hkind : ∀ o, kind P o = true → Quiet P o) (hs : Region.noSelect ops = true) (hQ : ∀ e a a' w, e ≠ .normal → Q e a w → Q e a' w) (get : Nat → Oper) :
    ∀ (plan : List (List Bool × Nat × Nat)) (l : List Nat) (listed : Array Bool) (a : Act) (w : World), Closed md ops listed → (∀ i ∈ l, ops[i]? = some (get i)) → okPlanK P kind md ops plan l listed = true → dstsOk ops a.tmps.size = true →
      SegsK P ops Q plan (l.map get) a w → wpAny P md ops Q l.length listed a w
  | [], l, listed, a, w, _, _, hok, _, h => by
    simp only [okPlanK, Bool.and_eq_true, List.isEmpty_iff] at hok
    obtain ⟨rfl, hr⟩ := hok
    exact ⟨hr, h⟩
  | (m, 0, _) :: ms, l, listed, a, w, hcl, hget, hok, hd, h => by
    simp only [okPlanK, Bool.and_eq_true] at hok
    obtain ⟨hq, hrest⟩ := hok
    obtain ⟨aE, hw, hk⟩ := h
    rw [pick_map] at hw
    rw [left_map] at hk
    rw [← pick_left_length m l, Nat.add_comm]
    refine wpAny_of_T (n := ops.size) (C := fun _ => True) _ _ _ _ ?_
    refine wpAnyTK_quiets hkind hs (fun c a a' w h => hQ _ _ _ _ (by simp) h) (C := fun _ => True) (aE := aE) trivial (L0 := fun _ => False) get _ _ _ _ (fun _ h => h.elim) hcl (fun i hi => hget i (pick_mem _ _ _ hi))
      (fun i hi j o ho hj => absurd (Array.getElem?_eq_some_iff.1 ho).1 (by omega)) hq hd (fun W _ => hw W) fun hsz hcl2 => ?_
    exact wpAnyT_of_all _ _ _ _ (wpAny_of_segsK hkind hs hQ get ms (left m l) _ _ _ hcl2 (fun i hi => hget i (left_mem _ _ _ hi)) hrest (by rw [hsz]; exact hd) hk)
  | (m, 1, _) :: ms, l, listed, a, w, hcl, hget, hok, hd, h => by
    cases l with
    | nil => cases hok
    | cons f l' =>
      simp only [okPlanK, Bool.and_eq_true, beq_iff_eq] at hok
      obtain ⟨hr, hok'⟩ := hok
      have hk : wpList P ops (FEnd true w (SegsK P ops Q ms (l'.map get))) [get f] a w := h
      have hf := hget f (by simp)
      refine ⟨fun h0 => (by rw [hr] at h0; cases h0), fun i hi => ?_⟩
      rw [hr] at hi
      obtain rfl : i = f := by simpa using hi
      refine wpOp_of_one (K := SegsK P ops Q ms (l'.map get)) hf (fun a' w' hs' _ hk' => ?_) hk
      exact wpAny_of_segsK hkind hs hQ get ms l' _ a' w' (hcl.set (by rw [hr]; simp)) (fun j hj => hget j (by simp [hj])) hok' (by rw [hs']; exact hd) hk'
  | (m, 2, n) :: ms, l, listed, a, w, hcl, hget, hok, hd, h => by
    simp only [okPlanK, Bool.and_eq_true] at hok
    obtain ⟨⟨⟨hq, ht⟩, hb⟩, hrest⟩ := hok
    simp only [List.all_eq_true, List.mem_range, Bool.or_eq_true, decide_eq_true_eq] at ht
    obtain ⟨aE, hw, hk⟩ := h
    rw [pick_map] at hw
    rw [left_map] at hk
    rw [← pick_left_length m l, Nat.add_comm]
    refine wpAny_of_T (n := n) (C := (· = w)) _ _ _ _ ?_
    refine wpAnyTK_quiets hkind hs (fun c a a' w h => hQ _ _ _ _ (by simp) h) (C := (· = w)) (aE := aE) rfl (L0 := fun j => listed.getD j true = true) get _ _ _ _ (fun _ h => h) hcl (fun i hi => hget i (pick_mem _ _ _ hi))
      (fun i hi j o ho hj => (ht i hi j (Array.getElem?_eq_some_iff.1 ho).1).elim (fun h => h.elim (fun h => absurd h (by omega)) .inl) .inr) hq hd (fun W hW => by subst hW; exact hw) fun hsz hcl2 => ?_
    refine wpAnyT_of_late _ _ _ _ (fun j hj => ?_) ?_
    · rw [List.all_eq_true] at hb; exact hb j (List.mem_range.2 hj)
    exact wpAny_of_segsK hkind hs hQ get ms (left m l) _ _ _ hcl2 (fun i hi => hget i (left_mem _ _ _ hi)) hrest (by rw [hsz]; exact hd) hk
  | (m, _ + 3, n) :: ms, l, listed, a, w, hcl, hget, hok, hd, h => by
    simp only [okPlanK, Bool.and_eq_true] at hok
    obtain ⟨⟨hq, ht⟩, hrest⟩ := hok
    simp only [List.all_eq_true, List.mem_range, Bool.or_eq_true, decide_eq_true_eq] at ht
    obtain ⟨aE, hw, hk⟩ := h
    rw [← pick_left_length m l, Nat.add_comm]
    refine wpAny_of_T (n := n) (C := Ext w) _ _ _ _ ?_
    refine wpAnyTK_quiets hkind hs (fun c a a' w h => hQ _ _ _ _ (by simp) h) (C := Ext w) (aE := aE) (Ext.refl w) (L0 := fun j => listed.getD j true = true) get _ _ _ _ (fun _ h => h) hcl (fun i hi => hget i (pick_mem _ _ _ hi))
      (fun i hi j o ho hj => (ht i hi j (Array.getElem?_eq_some_iff.1 ho).1).elim (fun h => h.elim (fun h => absurd h (by omega)) .inl) .inr) hq hd (fun W hW => by rw [← pick_map]; exact hw W hW) fun hsz hcl2 => ?_
    rw [left_map] at hk
    cases hl : left m l with
    | nil => rw [hl] at hrest; cases hrest
    | cons f l' =>
      rw [hl] at hk hrest
      simp only [Bool.and_eq_true, beq_iff_eq] at hrest
      obtain ⟨⟨hr, hb⟩, hok'⟩ := hrest
      have hgl : ∀ i ∈ left m l, ops[i]? = some (get i) := fun i hi => hget i (left_mem _ _ _ hi)
      rw [hl] at hgl
      have hf := hgl f (by simp)
      refine ⟨fun h0 => (by rw [hr] at h0; cases h0), fun i hi => ?_⟩
      rw [hr] at hi
      obtain rfl : i = f := by simpa using hi
      refine wpOp_of_one (K := SegsK P ops Q ms (l'.map get)) hf (fun a' w' hs' he' hk' => ⟨fun _ => he' rfl, ?_⟩) hk
      refine wpAnyT_of_late _ _ _ _ (fun j hj => ?_) ?_
      · rw [List.all_eq_true] at hb; exact hb j (List.mem_range.2 hj)
      exact wpAny_of_segsK hkind hs hQ get ms l' _ a' w' (hcl2.set (by rw [hr]; simp)) (fun j hj => hgl j (by simp [hj])) hok' (by rw [hs', hsz]; exact hd) hk'
end

def planK : List (List Nat × Nat × Nat) → List (List Bool × Nat × Nat)
  | [] => []
  | (r, n) :: l => (runsT r, n) :: planK l
theorem segsK_pure {n : Nat} {P : Program} {ops : Array Oper} {Q : Exit → Act → World → Prop} {r : List Nat} {ms : List (List Nat × Nat × Nat)} {l : List Oper} {a aE : Act} {w : World} (h1 : ∀ W, wpList P ops (QEnd aE W) (pick (runsT r) l) a W)
    (h2 : SegsK P ops Q (planK ms) (left (runsT r) l) aE w) : SegsK P ops Q (planK ((r, 0, n) :: ms)) l a w := ⟨aE, h1, h2⟩
theorem segsK_look {n : Nat} {P : Program} {ops : Array Oper} {Q : Exit → Act → World → Prop} {r : List Nat} {ms : List (List Nat × Nat × Nat)} {l : List Oper} {a aE : Act} {w : World} (h1 : wpList P ops (QEnd aE w) (pick (runsT r) l) a w)
    (h2 : SegsK P ops Q (planK ms) (left (runsT r) l) aE w) : SegsK P ops Q (planK ((r, 2, n) :: ms)) l a w := ⟨aE, h1, h2⟩
theorem segsK_class {n : Nat} {P : Program} {ops : Array Oper} {Q : Exit → Act → World → Prop} {r : List Nat} {ms : List (List Nat × Nat × Nat)} {l : List Oper} {a aE : Act} {w : World} (h1 : ∀ W, Ext w W → wpList P ops (QEnd aE W) (pick (runsT r) l) a W)
    (h2 : match left (runsT r) l with | [] => False | o :: l' => wpList P ops (FEnd false w (SegsK P ops Q (planK ms) l')) [o] aE w) : SegsK P ops Q (planK ((r, 3, n) :: ms)) l a w := ⟨aE, h1, h2⟩
theorem segsK_op {n : Nat} {P : Program} {ops : Array Oper} {Q : Exit → Act → World → Prop} {r : List Nat} {ms : List (List Nat × Nat × Nat)} {o : Oper} {l : List Oper} {a : Act} {w : World}
    (h : wpList P ops (FEnd true w (SegsK P ops Q (planK ms) l)) [o] a w) : SegsK P ops Q (planK ((r, 1, n) :: ms)) (o :: l) a w := h
theorem segsK_nil {P : Program} {ops : Array Oper} {Q : Exit → Act → World → Prop} {l : List Oper} {a : Act} {w : World} (h : Q .normal a w) : SegsK P ops Q (planK []) l a w := h
def okRegionK (P : Program) (ops : Array Oper) (plan : List (List Bool × Nat × Nat)) (size : Nat) : Bool :=
  Region.noSelect ops && dstsOk ops size && okPlanK P kind .any ops plan (List.range ops.size) (Array.replicate ops.size false)

theorem segsK_np {P : Program} {ops : Array Oper} {Q : Exit → Act → World → Prop} : ∀ (plan : List (List Bool × Nat × Nat)) (l' : List Oper) (a : Act) (w : World), SegsK P ops Q plan l' a w → SegsK P ops (NP Q) plan l' a w
  | [], _, _, _, h => h
  | (m, 0, _) :: plan, l', a, w, h => by
    obtain ⟨aE, h1, h2⟩ := h
    exact ⟨aE, h1, segsK_np plan _ _ _ h2⟩
  | (m, 2, _) :: plan, l', a, w, h => by
    obtain ⟨aE, h1, h2⟩ := h
    exact ⟨aE, h1, segsK_np plan _ _ _ h2⟩
  | (m, _ + 3, _) :: plan, l', a, w, h => by
    obtain ⟨aE, h1, h2⟩ := h
    refine ⟨aE, h1, ?_⟩
    cases hl : left m l' with
    | nil => rw [hl] at h2; exact h2
    | cons o l'' =>
      rw [hl] at h2
      dsimp only at h2 ⊢
      unfold wpList at h2 ⊢
      split
      · rename_i hw
        simp only [hw, if_true] at h2
        rcases h2 with h2 | ⟨_, h2⟩
        · exact .inl (upon_mono2 (fun a' w' _ hk => ⟨hk.1, segsK_np plan _ _ _ hk.2⟩) (fun e a w he hq => by cases e <;> first | exact absurd rfl he | exact hq.elim) h2)
        · exact (letsOut_FEnd h2).elim
      · rename_i hw
        simp only [hw] at h2
        exact ⟨h2.1, segsK_np plan _ _ _ h2.2⟩
  | (m, 1, _) :: plan, l', a, w, h => by
    cases l' with
    | nil => exact h
    | cons o l'' =>
      have h2 : wpList P ops (FEnd true w (SegsK P ops Q plan l'')) [o] a w := h
      show wpList P ops (FEnd true w (SegsK P ops (NP Q) plan l'')) [o] a w
      unfold wpList at h2 ⊢
      split
      · rename_i hw
        simp only [hw, if_true] at h2
        rcases h2 with h2 | ⟨_, h2⟩
        · exact .inl (upon_mono2 (fun a' w' _ hk => ⟨hk.1, segsK_np plan _ _ _ hk.2⟩) (fun e a w he hq => by cases e <;> first | exact absurd rfl he | exact hq.elim) h2)
        · exact (letsOut_FEnd h2).elim
      · rename_i hw
        simp only [hw] at h2
        exact ⟨h2.1, segsK_np plan _ _ _ h2.2⟩

theorem wp_region_segsK {P : Program} {id : Nat} {l : List Oper} {Q : Exit → Act → World → Prop} {a : Act} {w : World} (plan : List (List Nat × Nat × Nat)) (hm : P.follows .mixedOrders = true)
    (hB : okRegionK P l.toArray (planK plan) a.tmps.size = true) (h : SegsK P l.toArray Q (planK plan) l a w.drew) : (Code.region id l.toArray true).wp P Q a w := by
  simp only [okRegionK, Bool.and_eq_true] at hB
  obtain ⟨⟨h1, h3⟩, h4⟩ := hB
  refine Code.wp_mono (Q := NP Q) (fun e a w h => by cases e <;> first | exact h | exact h.elim) ?_
  refine wp_region_any hm ?_
  have hl : (List.range l.toArray.size).map (fun i => l.toArray.getD i default) = l := by
    apply List.ext_getElem
    · simp
    · intro i h1 h2
      simp at h1
      simp [h1]
  have := wpAny_of_segsK (P := P) (ops := l.toArray) (md := .any) (Q := NP Q) (kind := kind) kind_quiet h1 (fun e a a' w he hq => by cases e <;> first | exact absurd rfl he | exact hq.elim) (fun i => l.toArray.getD i default) (planK plan) (List.range l.toArray.size) _ a w.drew
    (fun j o ho hl => by
      have h' : (Array.replicate l.toArray.size false).getD j false = false := by simp [Array.getD]
      rw [h'] at hl
      cases hl) (fun i hi => by
      have hi' : i < l.length := by simpa using hi
      simp [hi']) h4 h3 (by rw [hl]; exact segsK_np (planK plan) l a _ h)
  simpa using this
end Go.Seg
end

section
namespace Go.Seg
open Go.RowKit

/-- How a region is walked: quiet ones by runs; the one at a place of what is left, or another; no other. -/
inductive Tree where
  | done
  | quiet (m : List Nat) (t : Tree)
  | alt (p : Nat) (t u : Tree)
  | stop

def CEnd (C : World → Prop) (K : Act → World → Prop) : Exit → Act → World → Prop
  | .normal, a', w' => C w' ∧ K a' w'
  | _, _, _ => False

def SegsE (P : Program) (ops : Array Oper) (Q : Exit → Act → World → Prop) (C : World → Prop) : Tree → List Oper → Act → World → Prop
  | .done, _, a, w => Q .normal a w
  | .quiet m t, l, a, w => ∃ aE, (∀ W, C W → wpList P ops (QEnd aE W) (pick (runsT m) l) a W) ∧ SegsE P ops Q C t (left (runsT m) l) aE w
  | .alt p t u, l, a, w => (match l[p]? with | none => False | some o => wpList P ops (CEnd C (SegsE P ops Q C t (l.eraseIdx p))) [o] a w) ∧ SegsE P ops Q C u l a w
  | .stop, _, _, _ => True

def okE (P : Program) (kind : Program → Oper → Bool) (md : Region.Mode) (ops : Array Oper) : Tree → List Nat → Array Bool → Option (List Nat) → Bool
  | .done, l, listed, rs => rs.isNone && l.isEmpty && (Region.ready md ops listed).isEmpty
  | .quiet m t, l, listed, rs => rs.isNone && okQuiet P kind md ops ops.size (pick (runsT m) l) listed && okE P kind md ops t (left (runsT m) l) (mark listed (pick (runsT m) l)) none
  | .alt p t u, l, listed, rs =>
    match rs.getD (Region.ready md ops listed) with
    | [] => false
    | r :: rs' => l[p]? == some r && okE P kind md ops t (l.eraseIdx p) (listed.setIfInBounds r true) none && okE P kind md ops u l listed (some rs')
  | .stop, _, _, rs => rs == some []

section
variable {P : Program} {ops : Array Oper} {Q : Exit → Act → World → Prop} {md : Region.Mode} {kind : Program → Oper → Bool} {C : World → Prop}

theorem letsOut_CEnd {K : Act → World → Prop} : ¬ LetsOut (CEnd C K) := fun ⟨_, _, h⟩ => h
theorem wpOp_of_oneC {i : Nat} {o : Oper} (hi : ops[i]? = some o) {K K' : Act → World → Prop} {a : Act} {w : World} (hK : ∀ a' w', a'.tmps.size = a.tmps.size → C w' → K a' w' → K' a' w')
    (h : wpList P ops (CEnd C K) [o] a w) : wpOp P ops Q i K' a w := by
  unfold wpOp
  simp only [hi]
  unfold wpList at h
  split
  · rename_i hw
    simp only [hw, if_true] at h
    rcases h with h | ⟨_, h⟩
    · exact .inl (upon_mono2 (fun a' w' hs hk => hK a' w' hs hk.1 hk.2) (fun e a w he hq => by cases e <;> first | exact absurd rfl he | exact hq.elim) h)
    · exact (letsOut_CEnd h).elim
  · rename_i hw
    simp only [hw] at h
    exact hK _ _ Act.put_size h.1 h.2

theorem wpAnyT_of_E (hkind : ∀ o, kind P o = true → Quiet P o) (hs : Region.noSelect ops = true) (hQ : ∀ c a a' w, Q (.panic c) a w → Q (.panic c) a' w) (get : Nat → Oper) :
    ∀ (t : Tree) (l : List Nat) (listed : Array Bool) (a : Act) (w : World), C w → Closed md ops listed → (∀ i ∈ l, ops[i]? = some (get i)) → dstsOk ops a.tmps.size = true → SegsE P ops Q C t (l.map get) a w →
      (okE P kind md ops t l listed none = true → wpAnyT P md ops Q ops.size C l.length listed a w) ∧
      (∀ rs, okE P kind md ops t l listed (some rs) = true → (∀ i ∈ rs, i ∈ Region.ready md ops listed) → ∀ i ∈ rs, wpOp P ops Q i (fun a' w' => (i < ops.size → C w') ∧ wpAnyT P md ops Q ops.size C (l.length - 1) (listed.setIfInBounds i true) a' w') a w ∧ 0 < l.length)
  | .done, l, listed, a, w, _, _, _, _, h => by
    refine ⟨fun hok => ?_, fun rs hok => ?_⟩
    · simp only [okE, Bool.and_eq_true, List.isEmpty_iff] at hok
      obtain ⟨⟨_, rfl⟩, hr⟩ := hok
      exact ⟨hr, h⟩
    · simp [okE] at hok
  | .quiet m t, l, listed, a, w, hC, hcl, hget, hd, h => by
    refine ⟨fun hok => ?_, fun rs hok => ?_⟩
    · simp only [okE, Bool.and_eq_true] at hok
      obtain ⟨⟨_, hq⟩, hrest⟩ := hok
      obtain ⟨aE, hw, hk⟩ := h
      rw [left_map] at hk
      rw [← pick_left_length (runsT m) l, Nat.add_comm]
      refine wpAnyTK_quiets hkind hs hQ hC (aE := aE) (L0 := fun _ => False) get _ _ _ _ (fun _ h => h.elim) hcl (fun i hi => hget i (pick_mem _ _ _ hi))
        (fun i hi j o ho hj => absurd (Array.getElem?_eq_some_iff.1 ho).1 (by omega)) hq hd (fun W hW => by rw [← pick_map]; exact hw W hW) fun hsz hcl2 => ?_
      exact (wpAnyT_of_E hkind hs hQ get t (left (runsT m) l) _ _ _ hC hcl2 (fun i hi => hget i (left_mem _ _ _ hi)) (by rw [hsz]; exact hd) hk).1 hrest
    · simp [okE] at hok
  | .alt p t u, l, listed, a, w, hC, hcl, hget, hd, h => by
    have key : ∀ (r : Nat) (rs' : List Nat), l[p]? = some r → okE P kind md ops t (l.eraseIdx p) (listed.setIfInBounds r true) none = true → okE P kind md ops u l listed (some rs') = true → (∀ i ∈ r :: rs', i ∈ Region.ready md ops listed) →
        ∀ i ∈ r :: rs', wpOp P ops Q i (fun a' w' => (i < ops.size → C w') ∧ wpAnyT P md ops Q ops.size C (l.length - 1) (listed.setIfInBounds i true) a' w') a w ∧ 0 < l.length := by
      intro r rs' hp h1 h2 hrs i hi
      obtain ⟨h3, h4⟩ := h
      have hpl : p < l.length := (List.getElem?_eq_some_iff.1 hp).1
      rcases List.mem_cons.1 hi with rfl | hi
      · have hm : (l.map get)[p]? = some (get i) := by rw [List.getElem?_map, hp]; rfl
        rw [hm] at h3
        have hil : i ∈ l := List.mem_of_getElem? hp
        refine ⟨wpOp_of_oneC (hget i hil) (fun a' w' hs' hc hk' => ⟨fun _ => hc, ?_⟩) h3, by omega⟩
        have e1 : l.length - 1 = (l.eraseIdx p).length := by rw [List.length_eraseIdx, if_pos hpl]
        rw [e1]
        have e2 : (l.map get).eraseIdx p = (l.eraseIdx p).map get := by simp [List.eraseIdx_eq_take_drop_succ, List.map_take, List.map_drop]
        rw [e2] at hk'
        exact (wpAnyT_of_E hkind hs hQ get t (l.eraseIdx p) _ a' w' hc (hcl.set (hrs i (by simp))) (fun j hj => hget j ((List.eraseIdx_sublist _ _).subset hj)) (by rw [hs']; exact hd) hk').1 h1
      · exact (wpAnyT_of_E hkind hs hQ get u l listed a w hC hcl hget hd h4).2 rs' h2 (fun j hj => hrs j (List.mem_cons_of_mem _ hj)) i hi
    refine ⟨fun hok => ?_, fun rs hok hrs i hi => ?_⟩
    · simp only [okE, Option.getD_none] at hok
      cases hr : Region.ready md ops listed with
      | nil => rw [hr] at hok; cases hok
      | cons r rs' =>
        rw [hr] at hok
        simp only [Bool.and_eq_true, beq_iff_eq] at hok
        have hk := key r rs' hok.1.1 hok.1.2 hok.2 (fun i hi => by rw [hr]; exact hi)
        have hl := (hk r (by simp)).2
        obtain ⟨n, hn⟩ : ∃ n, l.length = n + 1 := ⟨l.length - 1, by omega⟩
        rw [hn] at hk ⊢
        exact ⟨fun h0 => (by rw [hr] at h0; cases h0), fun i hi => (hk i (by rw [hr] at hi; exact hi)).1⟩
    · simp only [okE, Option.getD_some] at hok
      cases rs with
      | nil => cases hi
      | cons r rs' =>
        simp only [Bool.and_eq_true, beq_iff_eq] at hok
        exact key r rs' hok.1.1 hok.1.2 hok.2 hrs i hi
  | .stop, l, listed, a, w, _, _, _, _, _ => by
    refine ⟨fun hok => (by simp [okE] at hok), fun rs hok hrs i hi => ?_⟩
    simp [okE] at hok
    subst hok
    cases hi
end

theorem segsE_np {P : Program} {ops : Array Oper} {Q : Exit → Act → World → Prop} {C : World → Prop} : ∀ (t : Tree) (l' : List Oper) (a : Act) (w : World), SegsE P ops Q C t l' a w → SegsE P ops (NP Q) C t l' a w
  | .done, _, _, _, h => h
  | .quiet m t, l', a, w, h => by
    obtain ⟨aE, h1, h2⟩ := h
    exact ⟨aE, h1, segsE_np t _ _ _ h2⟩
  | .stop, _, _, _, _ => trivial
  | .alt p t u, l', a, w, h => by
    obtain ⟨h1, h3⟩ := h
    refine ⟨?_, segsE_np u _ _ _ h3⟩
    cases hp : l'[p]? with
    | none => rw [hp] at h1; exact h1
    | some o =>
      rw [hp] at h1
      dsimp only at h1 ⊢
      unfold wpList at h1 ⊢
      split
      · rename_i hw
        simp only [hw, if_true] at h1
        rcases h1 with h2 | ⟨_, h2⟩
        · exact .inl (upon_mono2 (fun a' w' _ hk => ⟨hk.1, segsE_np t _ _ _ hk.2⟩) (fun e a w he hq => by cases e <;> first | exact absurd rfl he | exact hq.elim) h2)
        · exact (letsOut_CEnd h2).elim
      · rename_i hw
        simp only [hw] at h1
        exact ⟨h1.1, segsE_np t _ _ _ h1.2⟩

def okRegionE (P : Program) (ops : Array Oper) (t : Tree) (size : Nat) : Bool :=
  Region.noSelect ops && dstsOk ops size && okE P kind .any ops t (List.range ops.size) (Array.replicate ops.size false) none

theorem wp_region_segsE {P : Program} {id : Nat} {l : List Oper} {Q : Exit → Act → World → Prop} {a : Act} {w : World} (C : World → Prop) (t : Tree) (hm : P.follows .mixedOrders = true)
    (hB : okRegionE P l.toArray t a.tmps.size = true) (hC : C w.drew) (h : SegsE P l.toArray Q C t l a w.drew) : (Code.region id l.toArray true).wp P Q a w := by
  simp only [okRegionE, Bool.and_eq_true] at hB
  obtain ⟨⟨h1, h3⟩, h4⟩ := hB
  refine Code.wp_mono (Q := NP Q) (fun e a w h => by cases e <;> first | exact h | exact h.elim) ?_
  refine wp_region_any hm ?_
  have hl : (List.range l.toArray.size).map (fun i => l.toArray.getD i default) = l := by
    apply List.ext_getElem
    · simp
    · intro i h1 h2
      simp at h1
      simp [h1]
  refine wpAny_of_T (n := l.toArray.size) (C := C) _ _ _ _ ?_
  have := (wpAnyT_of_E (P := P) (ops := l.toArray) (md := .any) (Q := NP Q) (C := C) (kind := kind) kind_quiet h1 (fun c a a' w hq => hq.elim) (fun i => l.toArray.getD i default) t (List.range l.toArray.size) (Array.replicate l.toArray.size false) a w.drew hC
    (fun j o ho hl => by
      have h' : (Array.replicate l.toArray.size false).getD j false = false := by simp [Array.getD]
      rw [h'] at hl
      cases hl) (fun i hi => by
      have hi' : i < l.length := by simpa using hi
      simp [hi']) h3 (by rw [hl]; exact segsE_np t l a _ h)).1 h4
  simpa using this

theorem segE_quiet {P : Program} {ops : Array Oper} {Q : Exit → Act → World → Prop} {C : World → Prop} {m : List Nat} {t : Tree} {l : List Oper} {a aE : Act} {w : World} (h1 : ∀ W, C W → wpList P ops (QEnd aE W) (pick (runsT m) l) a W)
    (h2 : SegsE P ops Q C t (left (runsT m) l) aE w) : SegsE P ops Q C (.quiet m t) l a w := ⟨aE, h1, h2⟩
theorem segE_alt {P : Program} {ops : Array Oper} {Q : Exit → Act → World → Prop} {C : World → Prop} {p : Nat} {t u : Tree} {l : List Oper} {a : Act} {w : World} (o : Oper) (hp : l[p]? = some o)
    (h1 : wpList P ops (CEnd C (SegsE P ops Q C t (l.eraseIdx p))) [o] a w) (h2 : SegsE P ops Q C u l a w) : SegsE P ops Q C (.alt p t u) l a w := by
  refine ⟨?_, h2⟩
  rw [hp]
  exact h1
theorem segE_stop {P : Program} {ops : Array Oper} {Q : Exit → Act → World → Prop} {C : World → Prop} {l : List Oper} {a : Act} {w : World} : SegsE P ops Q C .stop l a w := trivial
theorem segE_done {P : Program} {ops : Array Oper} {Q : Exit → Act → World → Prop} {C : World → Prop} {l : List Oper} {a : Act} {w : World} (h : Q .normal a w) : SegsE P ops Q C .done l a w := h
end Go.Seg
end

section
namespace Go.Proofs.Ytdfbfcglacalmaa.Hs
open Go.RowKit Go.Seg Go.Open Go.Lib Go.Arr Go.Stab

/-- What one client asked for, and what it was told. -/
structure C where
  cl : Int
  id : Int
  k : Int
  a : Int
  b : Int
  c : Int
  d : Int
  bgn : Int
  at_ : Int
  en : Int
  tick : Int
  ok : Bool
  val : Int
  deriving DecidableEq
instance : Inhabited C := ⟨⟨0, 0, 0, 0, 0, 0, 0, 0, 0, 0, 0, false, 0⟩⟩
def enc (x : C) : List Value := [.int .i64 x.cl, .int .i64 x.id, .int .i64 x.k, .int .i64 x.a, .int .i64 x.b, .int .i64 x.c, .int .i64 x.d, .int .i64 x.bgn, .int .i64 x.at_, .int .i64 x.en, .int .i64 x.tick, .bool x.ok, .int .i64 x.val]
theorem enc_len (x : C) : (enc x).length = 13 := rfl
theorem enc_one (x : C) : ∀ v ∈ enc x, v.oneCell' = true := by
  intro v hv
  simp only [enc, List.mem_cons, List.not_mem_nil, or_false] at hv
  rcases hv with rfl | rfl | rfl | rfl | rfl | rfl | rfl | rfl | rfl | rfl | rfl | rfl | rfl <;> rfl
/-- With its place (which no cell holds). -/
def encT (x : C × Nat) : List Value := enc x.1
theorem encT_len (x : C × Nat) : (encT x).length = 13 := rfl
theorem encT_one (x : C × Nat) : ∀ v ∈ encT x, v.oneCell' = true := enc_one x.1
abbrev AtC (w : World) (b : Nat) (T : List (C × Nat)) : Prop := At encT 13 41 w b T
/-- What a call is as a value. -/
def CV (x : C) : Value := .agg (enc x).toArray
theorem agg_ct (w : World) : (isAgg 41).run Try.prog w = .ok true w := by kernel_rfl
theorem size_ct (w : World) : (sizeOf 41).run Try.prog w = .ok 13 w := by kernel_rfl
theorem ld {w : World} {b : Nat} {T : List (C × Nat)} (h : AtC w b T) (X Z : List (C × Nat)) (x : C × Nat) (e : T = X ++ x :: Z) (i : Nat) (hi : i = X.length) : (Instr.loadAt 41 (.pointer (some ⟨b, i * 13, none⟩))).run Try.prog w = .ok (CV x.1) w := by
  subst hi
  have hl : X.length < T.length := by rw [e]; simp
  have h1 := At.load (P := Try.prog) encT_len h X.length hl
  have h2 : T[X.length] = x := by subst e; simp
  rw [h2] at h1
  exact run_loadA (agg_ct w) (size_ct w) h1
theorem st {w : World} {b : Nat} {T : List (C × Nat)} (h : AtC w b T) (i : Nat) (hi : i < T.length) (x : C × Nat) :
    ∃ W, (Instr.storeAt 41 (.pointer (some ⟨b, i * 13, none⟩)) (CV x.1)).run Try.prog w = .ok () W ∧ AtC W b (T.set i x) ∧ Chg (· = b) w W := by
  obtain ⟨W, h1, h2, h3⟩ := At.store (P := Try.prog) encT_len encT_one h i hi x
  exact ⟨W, run_storeA (size_ct w) rfl h1, h2, h3⟩
theorem w64_in {n : Int} (h : -9223372036854775808 ≤ n ∧ n ≤ 9223372036854775807) : wrap64 n = n := by unfold wrap64; omega
theorem w64_add (i k N : Nat) (h : i + k ≤ N) (hN : N ≤ 1000000) : wrap64 ((i : Int) + (k : Int)) = ((i + k : Nat) : Int) := by unfold wrap64; omega
theorem w64_sub (i k N : Nat) (h : k ≤ i) (h2 : i ≤ N) (hN : N ≤ 1000000) : wrap64 ((i : Int) - (k : Int)) = ((i - k : Nat) : Int) := by unfold wrap64; omega
theorem chg_trans {b : Nat} {w W w' : World} (h : Chg (· = b) w W) (k : Chg (· = b) W w') : Chg (· = b) w w' := h.trans k
theorem drew_chg {b : Nat} (w : World) : Chg (· = b) w w.drew := (Chg.refl w).drew
end Go.Proofs.Ytdfbfcglacalmaa.Hs
end

section
namespace Go.Proofs.Ytdfbfcglacalmaa.Hs
end Go.Proofs.Ytdfbfcglacalmaa.Hs
end

section
namespace Go.Proofs.Ytdfbfcglacalmaa.Hs
open Go.RowKit Go.Seg Go.Open Go.Lib Go.Arr Go.Stab

theorem chg_ext {b : Nat} {w W w' : World} (h : Chg (· = b) w W) (e : Ext W w') : Chg (· = b) w w' := h.trans (Chg.of_below e)
def TagsUp (M : List (C × Nat)) : Prop := M.Pairwise (fun x y => x.2 < y.2)
theorem ld_ext {W : World} {b : Nat} {T : List (C × Nat)} (h : AtC W b T) (X Z : List (C × Nat)) (x : C × Nat) (e : T = X ++ x :: Z) (i : Nat) (hi : i = X.length) {W' : World} (hE : Ext W W') : (Instr.loadAt 41 (.pointer (some ⟨b, i * 13, none⟩))).run Try.prog W' = .ok (CV x.1) W' := ld (h.ext hE) X Z x e i hi

end Go.Proofs.Ytdfbfcglacalmaa.Hs
end

section
namespace Go.Proofs.Ytdfbfcglacalmaa.Hs
open Go.RowKit Go.Seg Go.Open Go.Lib Go.Arr Go.Stab

theorem split_at {α : Type} (V : List α) (k : Nat) (h : k < V.length) : ∃ S y R, V = S ++ y :: R ∧ S.length = k :=
  ⟨V.take k, V[k], V.drop (k + 1), by rw [← List.drop_eq_getElem_cons h, List.take_append_drop], by rw [List.length_take]; omega⟩
theorem uniq_at {α : Type} {S S' R R' : List α} {y z : α} (h : S ++ y :: R = S' ++ z :: R') (hl : S.length = S'.length) : y = z := by
  obtain ⟨_, h2⟩ := List.append_inj h hl
  injection h2
end Go.Proofs.Ytdfbfcglacalmaa.Hs
end

section
namespace Go.Proofs.Ytdfbfcglacalmaa.Hs
end Go.Proofs.Ytdfbfcglacalmaa.Hs
end

section
namespace Go.Proofs.Ytdfbfcglacalmaa.Hs
end Go.Proofs.Ytdfbfcglacalmaa.Hs
end

section
namespace Go.Proofs.Ytdfbfcglacalmaa.Hs
end Go.Proofs.Ytdfbfcglacalmaa.Hs
end

section
namespace Go.Proofs.Ytdfbfcglacalmaa.Hs
end Go.Proofs.Ytdfbfcglacalmaa.Hs
end

section
namespace Go
open Go.RowKit
variable {P : Program} {F : Fence} {n : Nat}
theorem wpIn_rangeFunc_ownX {α : Type} {g : Operand} {ps : Array Tmp} {assign body : Code} {Q : Exit → Act → World → Prop} {a : Act} {w : World}
    (hro : F.round = none) (h1 : 1 ≤ n) {gf : Nat} {lb : Array Value} (hg : a.eval g = .func (.func gf) #[] lb) (hFg : F.fn gf) (eg : ∀ args w, (callFunc gf args).run P w = .ok (.enter gf args) w)
    {encs : α → Array Value} {Kp : World → World → Prop} {S Sp : List α → Prop} {N : Nat} {w0 : World} (hseq : SeqStopsK F (n - 1) P gf lb encs Kp S Sp N w0)
    (hKt : ∀ {A B C : World}, Kp A B → Kp B C → Kp A C) (hKb : ∀ (W : World) (l : Nat) (o o' : Obj), w.heap.size ≤ l → W.heap[l]? = some o → o.isCells = false → o.isWalk = false → Kp W (W.putObj l o')) (hb0 : Below w0.heap.size w0 w) (hps : ∀ x, (encs x).size = ps.size)
    (I : List α → World → Prop) (Ix : Code → List α → World → Prop) (hI : OwnFrom w.heap.size I) (hIx : ∀ c, OwnFrom w.heap.size (Ix c)) (h0 : I [] w)
    (hab : ∃ a₁ : α → Act, (∀ (l : Nat) (x : α) (W : World) (K : Act → World → Prop), K (a₁ x) W →
      assign.wpIn (F.inRound l) (n - 1 - 1) P (Exit.then K (fun _ _ _ => False)) { tmps := (ps.zip (encs x)).foldl (fun t (p, v) => t.setIfInBounds p v) a.tmps, defers := [] } W) ∧
      (∀ (l : Nat) (pre : List α) (x : α) (W : World), I pre W → pre.length < N → body.wpIn (F.inRound l) (n - 1 - 1) P (ownPostK Kp I Ix (pre ++ [x]) W) (a₁ x) W))
    (hdone : ∀ (D : Nat) (xs : List α) (W : World), w.heap.size ≤ D → S xs → I xs W → W.heap[D]? = some (.deferred (some [])) → Q .normal { a with defers := { target := .collected D, args := #[] } :: a.defers } W)
    (hstop : ∀ (D : Nat) (c : Code) (pre : List α) (W : World), w.heap.size ≤ D → Sp pre → Ix c pre W → W.heap[D]? = some (.deferred (some [])) → c.wpIn F n P Q { a with defers := { target := .collected D, args := #[] } :: a.defers } W) :
    (Code.rangeFunc g ps assign body).wpIn F n P Q a w := by
  obtain ⟨a₁, h2, h3⟩ := hab
  exact wpIn_rangeFunc_ownF hro h1 hg hFg eg hseq hKt hKb hb0 hps I Ix hI hIx h0 a₁ h2 h3 hdone hstop
end Go
end

section
namespace Go
open Go.RowKit
variable {P : Program} {n : Nat}

/-- An iterator goes through rows (S) or is stopped in their midst (Sp); beside what it hands on it may lay blocks of its own, and turn those of them that are no cells. -/
def SeqN {α : Type} (F : Fence) (n : Nat) (P : Program) (g : Nat) (lb : Array Value) (encs : α → Array Value) (Kp : World → World → Prop) (S Sp : List α → Prop) (w : World) : Prop :=
  ∀ (l : Nat) (J Jx : List α → World → Prop) (W : World), Below w.heap.size w W → OwnFrom W.heap.size J → OwnFrom W.heap.size Jx →
    (∀ pre x W1, J pre W1 → Sp (pre ++ [x]) → YieldAt F (n - 1) P l (encs x) W1 fun e W' => KeepsFrom W.heap.size W1 W' ∧
      ((e = .returned (.bool true) ∧ J (pre ++ [x]) W' ∧ Kp W1 W') ∨ (e = .returned (.bool false) ∧ Jx (pre ++ [x]) W'))) →
    J [] W →
    CallsIn F n P g (#[.func (.yield l) #[] #[]] ++ lb) W fun e W' => (∃ v, e = .returned v) ∧ ((∃ xs, S xs ∧ J xs W') ∨ (∃ pre, Sp pre ∧ Jx pre W'))

theorem OwnFrom.later {β : Type} {B B' : Nat} {I : β → World → Prop} (h : OwnFrom B I) (hB : B ≤ B') : OwnFrom B' I :=
  fun s W W' row hs hg hr => h s W W' row hs hg (fun r e => ⟨Nat.le_trans hB (hr r e).1, (hr r e).2⟩)
/-- What lies below a place abides whatever is done at or behind it. -/
theorem ownFrom_block {β : Type} {B k : Nat} (hk : k < B) (o : Obj) : OwnFrom B (fun (_ : β) W => W.heap[k]? = some o) := fun _ W W' row hs hg hr => by
  dsimp only at hs ⊢
  rw [hg.block k (Array.getElem?_eq_some_iff.1 hs).1 (fun e => by have := (hr k e.symm).1; omega)]
  exact hs

theorem wpIn_range_N {α : Type} {g : Operand} {ps : Array Tmp} {assign body : Code} {Q : Exit → Act → World → Prop} {a : Act} {w : World} {gf : Nat} {lb : Array Value}
    (hg : a.eval g = .func (.func gf) #[] lb) (eg : ∀ args w, (callFunc gf args).run P w = .ok (.enter gf args) w)
    {encs : α → Array Value} {Kp : World → World → Prop} {S Sp : List α → Prop} {w0 : World} (hseq : SeqN Fence.wide (n - 1) P gf lb encs Kp S Sp w0)
    (hKt : ∀ {A B C : World}, Kp A B → Kp B C → Kp A C) (hKb : ∀ (W : World) (l : Nat) (o o' : Obj), w.heap.size ≤ l → W.heap[l]? = some o → o.isCells = false → o.isWalk = false → Kp W (W.putObj l o')) (hb0 : Below w0.heap.size w0 w) (hps : ∀ x, (encs x).size = ps.size)
    (I : List α → World → Prop) (Ix : Code → List α → World → Prop) (hI : OwnFrom w.heap.size I) (hIx : ∀ c, OwnFrom w.heap.size (Ix c)) (h0 : I [] w)
    (hab : ∃ a₁ : α → Act, (∀ (l : Nat) (x : α) (W : World) (K : Act → World → Prop), K (a₁ x) W →
      assign.wpIn (Fence.wide.inRound l) (n - 1 - 1) P (Exit.then K (fun _ _ _ => False)) { tmps := (ps.zip (encs x)).foldl (fun t (p, v) => t.setIfInBounds p v) a.tmps, defers := [] } W) ∧
      (∀ (l : Nat) (pre : List α) (x : α) (W : World), w.heap.size ≤ l → (∃ r, W.heap[l]? = some (.loop r)) → I pre W → Sp (pre ++ [x]) → body.wpIn (Fence.wide.inRound l) (n - 1 - 1) P (ownPostG w.heap.size Kp I Ix (pre ++ [x]) W) (a₁ x) W))
    (hdone : ∀ (D : Nat) (xs : List α) (W : World), w.heap.size ≤ D → S xs → I xs W → W.heap[D]? = some (.deferred (some [])) → Q .normal { a with defers := { target := .collected D, args := #[] } :: a.defers } W)
    (hstop : ∀ (D : Nat) (c : Code) (pre : List α) (W : World), w.heap.size ≤ D → Sp pre → Ix c pre W → W.heap[D]? = some (.deferred (some [])) → c.wpIn Fence.wide n P Q { a with defers := { target := .collected D, args := #[] } :: a.defers } W) :
    (Code.rangeFunc g ps assign body).wpIn Fence.wide n P Q a w := by
  obtain ⟨a₁, hassign, hbody⟩ := hab
  refine wpIn_rangeFunc (fun fn hfn => ?_)
  -- the loop's record, by its state and what is pending
  let R : LoopState → Option Code → Obj := fun st pe => .loop { state := st, pending := pe, fn := fn, tmps := a.tmps, params := ps, assign := assign, body := body, defers := w.heap.size }
  have hRc : ∀ st pe, (R st pe).isCells = false := fun _ _ => rfl
  obtain ⟨W1, hW1⟩ : ∃ W1, (w.alloc (.deferred (some []))).alloc (R .ready none) = W1 := ⟨_, rfl⟩
  have hz : W1.heap.size = w.heap.size + 2 := by rw [← hW1]; simp
  have hL1 : W1.heap[w.heap.size + 1]? = some (R .ready none) := by
    rw [← hW1]
    have := World.alloc_heap_new (w.alloc (.deferred (some []))) (R .ready none)
    rwa [World.size_alloc] at this
  have hD1 : W1.heap[w.heap.size]? = some (.deferred (some [])) := by
    rw [← hW1]
    exact (Below.heap_alloc _ _ _ (by simp)).trans (World.alloc_heap_new w _)
  have hw1 : Below w.heap.size w W1 := by rw [← hW1]; exact ((Below.refl _ w).alloc (Nat.le_refl _) _).alloc (by simp) _
  have hI1 : I [] W1 := by rw [← hW1]; exact hI.alloc _ (hI.alloc _ h0)
  refine ⟨w.heap.size + 1, [{ target := .collected w.heap.size, args := #[] }], W1, { target := .fn (.func gf) lb, args := #[.func (.yield (w.heap.size + 1)) #[] #[]] }, W1, gf,
    #[.func (.yield (w.heap.size + 1)) #[] #[]] ++ lb, W1, ?_, ?_, fun _ _ => trivial, ?_, fun h => (by simp [Fence.wide] at h), ?_⟩
  · rw [← hW1]; exact run_enterLoop_outer _ _ _ _ _
  · simp only [resolve, hg]
    simp [go_sem]
  · simp [invoke, go_sem, eg]
  · have hlD : w.heap.size < W1.heap.size := by omega
    have hlL : w.heap.size + 1 < W1.heap.size := by omega
    have call := hseq (w.heap.size + 1) (fun pre W => I pre W ∧ W.heap[w.heap.size + 1]? = some (R .ready none) ∧ W.heap[w.heap.size]? = some (.deferred (some [])))
      (fun pre W => ∃ c, Ix c pre W ∧ W.heap[w.heap.size + 1]? = some (R .done (some c)) ∧ W.heap[w.heap.size]? = some (.deferred (some []))) W1 (hb0.trans (hw1.mono hb0.size))
      ((hI.later (by omega)).and ((ownFrom_block hlL _).and (ownFrom_block hlD _)))
      (fun s A B row hs hg' hr => by
        obtain ⟨c, hc, h1, h2⟩ := hs
        exact ⟨c, (hIx c).later (by omega) s A B row hc hg' hr, ownFrom_block (β := List α) hlL _ s A B row h1 hg' hr, ownFrom_block (β := List α) hlD _ s A B row h2 hg' hr⟩)
      ?_ ⟨hI1, hL1, hD1⟩
    · refine call.mono ?_
      rintro e W2 ⟨⟨v, rfl⟩, hend⟩
      rcases hend with ⟨xs, hS, hi, hl, hk⟩ | ⟨pre, hSp, c, hi, hl, hk⟩
      · refine ⟨none, _, run_endLoop (P := P) hl (by simp), hdone _ xs _ (Nat.le_refl _) hS (hI.putObj _ hi (by omega) hl (hRc _ _)) ?_⟩
        rw [World.putObj_heap_other (by omega)]
        exact hk
      · refine ⟨some c, _, run_endLoop (P := P) hl (by simp), hstop _ c pre _ (Nat.le_refl _) hSp ((hIx c).putObj _ hi (by omega) hl (hRc _ _)) ?_⟩
        rw [World.putObj_heap_other (by omega)]
        exact hk
    · rintro pre x W ⟨hi, hl, hk⟩ hlen
      have hlt : w.heap.size + 1 < W.heap.size := (Array.getElem?_eq_some_iff.1 hl).1
      refine ⟨fn, _, assign, body, run_yield hl (hps x), roundIn_of_wpIn hfn (hassign _ x W _ ?_)⟩
      refine ⟨_, run_beginRound hl rfl, ?_⟩
      obtain ⟨Wb, hWb⟩ : ∃ Wb, W.putObj (w.heap.size + 1) (R .busy none) = Wb := ⟨_, rfl⟩
      have hlb : Wb.heap[w.heap.size + 1]? = some (R .busy none) := by rw [← hWb]; exact World.putObj_heap_same hlt
      have hkb : Wb.heap[w.heap.size]? = some (.deferred (some [])) := by rw [← hWb, World.putObj_heap_other (by omega)]; exact hk
      have hib : I pre Wb := by rw [← hWb]; exact hI.putObj _ hi (by omega) hl (hRc _ _)
      have hKW : Kp W Wb := by rw [← hWb]; exact hKb _ _ _ _ (by omega) hl rfl rfl
      have keep : ∀ (W3 : World) (o : Obj), KeepsFrom w.heap.size Wb W3 → KeepsFrom W1.heap.size W (W3.putObj (w.heap.size + 1) o) := fun W3 o h3 => by
        have hs : W.heap.size = Wb.heap.size := by rw [← hWb]; simp
        refine ⟨by have := h3.size; simp; omega, fun k o' hk1 hko ho => ?_⟩
        rw [World.putObj_heap_other (by omega)]
        refine h3.same k o' (by omega) ?_ ho
        rw [← hWb, World.putObj_heap_other (by omega)]
        exact hko
      have stop : ∀ (c : Code) (a3 : Act) (W3 : World), KeepsFrom w.heap.size Wb W3 → Ix c (pre ++ [x]) W3 → ∃ u W4, (Instr.endRound (w.heap.size + 1) (some c)).run P W3 = .ok u W4 ∧ u = .bool false ∧ KeepsFrom W1.heap.size W W4 ∧ (∃ c, Ix c (pre ++ [x]) W4 ∧ W4.heap[w.heap.size + 1]? = some (R .done (some c)) ∧ W4.heap[w.heap.size]? = some (.deferred (some []))) := fun c _ W3 h3 hx => by
        have hl3 := h3.same _ _ (by omega) hlb (hRc _ _)
        refine ⟨_, _, run_endRound (P := P) (some c) hl3, rfl, keep W3 _ h3, c, (hIx c).putObj _ hx (by omega) hl3 (hRc _ _), World.putObj_heap_same (Array.getElem?_eq_some_iff.1 hl3).1, ?_⟩
        rw [World.putObj_heap_other (by omega)]
        exact h3.same _ _ (Nat.le_refl _) hkb rfl
      show body.wpIn _ _ P _ _ (W.putObj (w.heap.size + 1) (R .busy none))
      rw [hWb]
      refine wpIn_mono (hbody _ pre x Wb (by omega) ⟨_, hlb⟩ hib hlen) ?_
      rintro e a3 W3 hp
      cases e with
      | normal =>
        obtain ⟨h3, hk3, hi3⟩ := hp
        have hl3 := h3.same _ _ (by omega) hlb (hRc _ _)
        refine ⟨_, _, run_endRound (P := P) none hl3, keep W3 _ h3, .inl ⟨rfl, ⟨hI.putObj _ hi3 (by omega) hl3 (hRc _ _), World.putObj_heap_same (Array.getElem?_eq_some_iff.1 hl3).1, ?_⟩, hKt hKW (hKt hk3 (hKb _ _ _ _ (by omega) hl3 rfl rfl))⟩⟩
        rw [World.putObj_heap_other (by omega)]
        exact h3.same _ _ (Nat.le_refl _) hkb rfl
      | ret =>
        obtain ⟨u, W4, h4, rfl, hkf, hx⟩ := stop _ a3 W3 hp.1 hp.2
        exact ⟨_, _, h4, hkf, .inr ⟨rfl, hx⟩⟩
      | exit id =>
        obtain ⟨u, W4, h4, rfl, hkf, hx⟩ := stop _ a3 W3 hp.1 hp.2
        exact ⟨_, _, h4, hkf, .inr ⟨rfl, hx⟩⟩
      | goto t =>
        obtain ⟨u, W4, h4, rfl, hkf, hx⟩ := stop _ a3 W3 hp.1 hp.2
        exact ⟨_, _, h4, hkf, .inr ⟨rfl, hx⟩⟩
      | panic ch => exact hp.elim
      | outgrown => exact hp.elim

/-- A loop whose variable is a struct: it is laid in a block of its own ahead of each round. -/
theorem wpIn_range_NB {α : Type} {g : Operand} {ps : Array Tmp} {assign body : Code} {Q : Exit → Act → World → Prop} {a : Act} {w : World} {gf : Nat} {lb : Array Value}
    (hg : a.eval g = .func (.func gf) #[] lb) (eg : ∀ args w, (callFunc gf args).run P w = .ok (.enter gf args) w)
    {encs : α → Array Value} {Kp : World → World → Prop} {S Sp : List α → Prop} {w0 : World} (hseq : SeqN Fence.wide (n - 1) P gf lb encs Kp S Sp w0)
    (hKt : ∀ {A B C : World}, Kp A B → Kp B C → Kp A C) (hKa : ∀ (W : World) (o : Obj), w.heap.size ≤ W.heap.size → Kp W (W.alloc o)) (hKb : ∀ (W : World) (l : Nat) (o o' : Obj), w.heap.size ≤ l → W.heap[l]? = some o → o.isCells = false → o.isWalk = false → Kp W (W.putObj l o')) (hb0 : Below w0.heap.size w0 w) (hps : ∀ x, (encs x).size = ps.size) (ob : α → Obj)
    (I : List α → World → Prop) (Ix : Code → List α → World → Prop) (hI : OwnFrom w.heap.size I) (hIx : ∀ c, OwnFrom w.heap.size (Ix c)) (h0 : I [] w)
    (hab : ∃ a₁ : α → Nat → Act, (∀ (l : Nat) (x : α) (W : World) (K : Act → World → Prop), (∀ k, W.heap.size = k → K (a₁ x k) (W.alloc (ob x))) →
      assign.wpIn (Fence.wide.inRound l) (n - 1 - 1) P (Exit.then K (fun _ _ _ => False)) { tmps := (ps.zip (encs x)).foldl (fun t (p, v) => t.setIfInBounds p v) a.tmps, defers := [] } W) ∧
      (∀ (l k : Nat) (pre : List α) (x : α) (W : World), w.heap.size ≤ l → (∃ r, W.heap[l]? = some (.loop r)) → w.heap.size ≤ k → W.heap[k]? = some (ob x) → I pre W → Sp (pre ++ [x]) → body.wpIn (Fence.wide.inRound l) (n - 1 - 1) P (ownPostG w.heap.size Kp I Ix (pre ++ [x]) W) (a₁ x k) W))
    (hdone : ∀ (D : Nat) (xs : List α) (W : World), w.heap.size ≤ D → S xs → I xs W → W.heap[D]? = some (.deferred (some [])) → Q .normal { a with defers := { target := .collected D, args := #[] } :: a.defers } W)
    (hstop : ∀ (D : Nat) (c : Code) (pre : List α) (W : World), w.heap.size ≤ D → Sp pre → Ix c pre W → W.heap[D]? = some (.deferred (some [])) → c.wpIn Fence.wide n P Q { a with defers := { target := .collected D, args := #[] } :: a.defers } W) :
    (Code.rangeFunc g ps assign body).wpIn Fence.wide n P Q a w := by
  obtain ⟨a₁, hassign, hbody⟩ := hab
  refine wpIn_rangeFunc (fun fn hfn => ?_)
  -- the loop's record, by its state and what is pending
  let R : LoopState → Option Code → Obj := fun st pe => .loop { state := st, pending := pe, fn := fn, tmps := a.tmps, params := ps, assign := assign, body := body, defers := w.heap.size }
  have hRc : ∀ st pe, (R st pe).isCells = false := fun _ _ => rfl
  obtain ⟨W1, hW1⟩ : ∃ W1, (w.alloc (.deferred (some []))).alloc (R .ready none) = W1 := ⟨_, rfl⟩
  have hz : W1.heap.size = w.heap.size + 2 := by rw [← hW1]; simp
  have hL1 : W1.heap[w.heap.size + 1]? = some (R .ready none) := by
    rw [← hW1]
    have := World.alloc_heap_new (w.alloc (.deferred (some []))) (R .ready none)
    rwa [World.size_alloc] at this
  have hD1 : W1.heap[w.heap.size]? = some (.deferred (some [])) := by
    rw [← hW1]
    exact (Below.heap_alloc _ _ _ (by simp)).trans (World.alloc_heap_new w _)
  have hw1 : Below w.heap.size w W1 := by rw [← hW1]; exact ((Below.refl _ w).alloc (Nat.le_refl _) _).alloc (by simp) _
  have hI1 : I [] W1 := by rw [← hW1]; exact hI.alloc _ (hI.alloc _ h0)
  refine ⟨w.heap.size + 1, [{ target := .collected w.heap.size, args := #[] }], W1, { target := .fn (.func gf) lb, args := #[.func (.yield (w.heap.size + 1)) #[] #[]] }, W1, gf,
    #[.func (.yield (w.heap.size + 1)) #[] #[]] ++ lb, W1, ?_, ?_, fun _ _ => trivial, ?_, fun h => (by simp [Fence.wide] at h), ?_⟩
  · rw [← hW1]; exact run_enterLoop_outer _ _ _ _ _
  · simp only [resolve, hg]
    simp [go_sem]
  · simp [invoke, go_sem, eg]
  · have hlD : w.heap.size < W1.heap.size := by omega
    have hlL : w.heap.size + 1 < W1.heap.size := by omega
    have call := hseq (w.heap.size + 1) (fun pre W => I pre W ∧ W.heap[w.heap.size + 1]? = some (R .ready none) ∧ W.heap[w.heap.size]? = some (.deferred (some [])))
      (fun pre W => ∃ c, Ix c pre W ∧ W.heap[w.heap.size + 1]? = some (R .done (some c)) ∧ W.heap[w.heap.size]? = some (.deferred (some []))) W1 (hb0.trans (hw1.mono hb0.size))
      ((hI.later (by omega)).and ((ownFrom_block hlL _).and (ownFrom_block hlD _)))
      (fun s A B row hs hg' hr => by
        obtain ⟨c, hc, h1, h2⟩ := hs
        exact ⟨c, (hIx c).later (by omega) s A B row hc hg' hr, ownFrom_block (β := List α) hlL _ s A B row h1 hg' hr, ownFrom_block (β := List α) hlD _ s A B row h2 hg' hr⟩)
      ?_ ⟨hI1, hL1, hD1⟩
    · refine call.mono ?_
      rintro e W2 ⟨⟨v, rfl⟩, hend⟩
      rcases hend with ⟨xs, hS, hi, hl, hk⟩ | ⟨pre, hSp, c, hi, hl, hk⟩
      · refine ⟨none, _, run_endLoop (P := P) hl (by simp), hdone _ xs _ (Nat.le_refl _) hS (hI.putObj _ hi (by omega) hl (hRc _ _)) ?_⟩
        rw [World.putObj_heap_other (by omega)]
        exact hk
      · refine ⟨some c, _, run_endLoop (P := P) hl (by simp), hstop _ c pre _ (Nat.le_refl _) hSp ((hIx c).putObj _ hi (by omega) hl (hRc _ _)) ?_⟩
        rw [World.putObj_heap_other (by omega)]
        exact hk
    · rintro pre x W0 ⟨hi0, hl0, hk0⟩ hlen
      have hlt0 : w.heap.size + 1 < W0.heap.size := (Array.getElem?_eq_some_iff.1 hl0).1
      refine ⟨fn, _, assign, body, run_yield hl0 (hps x), roundIn_of_wpIn hfn (hassign _ x W0 _ fun k0 hk0' => ?_)⟩
      subst hk0'
      obtain ⟨W, hW⟩ : ∃ W, W0.alloc (ob x) = W := ⟨_, rfl⟩
      have hl : W.heap[w.heap.size + 1]? = some (R .ready none) := by rw [← hW]; exact (Below.heap_alloc _ _ _ hlt0).trans hl0
      have hk : W.heap[w.heap.size]? = some (.deferred (some [])) := by rw [← hW]; exact (Below.heap_alloc _ _ _ (by omega)).trans hk0
      have hi : I pre W := by rw [← hW]; exact hI.alloc _ hi0
      have hob : W.heap[W0.heap.size]? = some (ob x) := by rw [← hW]; exact World.alloc_heap_new W0 _
      have hKa0 : Kp W0 W := by rw [← hW]; exact hKa _ _ (by omega)
      have hsz : W0.heap.size ≤ W.heap.size := by rw [← hW]; simp
      have hold : ∀ (k : Nat) (o : Obj), W0.heap[k]? = some o → W.heap[k]? = some o := fun k o h => by rw [← hW]; exact (Below.heap_alloc _ _ _ (Array.getElem?_eq_some_iff.1 h).1).trans h
      rw [hW]
      have hlt : w.heap.size + 1 < W.heap.size := (Array.getElem?_eq_some_iff.1 hl).1
      refine ⟨_, run_beginRound hl rfl, ?_⟩
      obtain ⟨Wb, hWb⟩ : ∃ Wb, W.putObj (w.heap.size + 1) (R .busy none) = Wb := ⟨_, rfl⟩
      have hlb : Wb.heap[w.heap.size + 1]? = some (R .busy none) := by rw [← hWb]; exact World.putObj_heap_same hlt
      have hkb : Wb.heap[w.heap.size]? = some (.deferred (some [])) := by rw [← hWb, World.putObj_heap_other (by omega)]; exact hk
      have hobb : Wb.heap[W0.heap.size]? = some (ob x) := by rw [← hWb, World.putObj_heap_other (by omega)]; exact hob
      have hib : I pre Wb := by rw [← hWb]; exact hI.putObj _ hi (by omega) hl (hRc _ _)
      have hKW : Kp W0 Wb := hKt hKa0 (by rw [← hWb]; exact hKb _ _ _ _ (by omega) hl rfl rfl)
      have keep : ∀ (W3 : World) (o : Obj), KeepsFrom w.heap.size Wb W3 → KeepsFrom W1.heap.size W0 (W3.putObj (w.heap.size + 1) o) := fun W3 o h3 => by
        have hs : W.heap.size = Wb.heap.size := by rw [← hWb]; simp
        refine ⟨by have := h3.size; simp; omega, fun k o' hk1 hko ho => ?_⟩
        rw [World.putObj_heap_other (by omega)]
        refine h3.same k o' (by omega) ?_ ho
        rw [← hWb, World.putObj_heap_other (by omega)]
        exact hold _ _ hko
      have stop : ∀ (c : Code) (a3 : Act) (W3 : World), KeepsFrom w.heap.size Wb W3 → Ix c (pre ++ [x]) W3 → ∃ u W4, (Instr.endRound (w.heap.size + 1) (some c)).run P W3 = .ok u W4 ∧ u = .bool false ∧ KeepsFrom W1.heap.size W0 W4 ∧ (∃ c, Ix c (pre ++ [x]) W4 ∧ W4.heap[w.heap.size + 1]? = some (R .done (some c)) ∧ W4.heap[w.heap.size]? = some (.deferred (some []))) := fun c _ W3 h3 hx => by
        have hl3 := h3.same _ _ (by omega) hlb (hRc _ _)
        refine ⟨_, _, run_endRound (P := P) (some c) hl3, rfl, keep W3 _ h3, c, (hIx c).putObj _ hx (by omega) hl3 (hRc _ _), World.putObj_heap_same (Array.getElem?_eq_some_iff.1 hl3).1, ?_⟩
        rw [World.putObj_heap_other (by omega)]
        exact h3.same _ _ (Nat.le_refl _) hkb rfl
      show body.wpIn _ _ P _ _ (W.putObj (w.heap.size + 1) (R .busy none))
      rw [hWb]
      refine wpIn_mono (hbody _ _ pre x Wb (by omega) ⟨_, hlb⟩ (by omega) hobb hib hlen) ?_
      rintro e a3 W3 hp
      cases e with
      | normal =>
        obtain ⟨h3, hk3, hi3⟩ := hp
        have hl3 := h3.same _ _ (by omega) hlb (hRc _ _)
        refine ⟨_, _, run_endRound (P := P) none hl3, keep W3 _ h3, .inl ⟨rfl, ⟨hI.putObj _ hi3 (by omega) hl3 (hRc _ _), World.putObj_heap_same (Array.getElem?_eq_some_iff.1 hl3).1, ?_⟩, hKt hKW (hKt hk3 (hKb _ _ _ _ (by omega) hl3 rfl rfl))⟩⟩
        rw [World.putObj_heap_other (by omega)]
        exact h3.same _ _ (Nat.le_refl _) hkb rfl
      | ret =>
        obtain ⟨u, W4, h4, rfl, hkf, hx⟩ := stop _ a3 W3 hp.1 hp.2
        exact ⟨_, _, h4, hkf, .inr ⟨rfl, hx⟩⟩
      | exit id =>
        obtain ⟨u, W4, h4, rfl, hkf, hx⟩ := stop _ a3 W3 hp.1 hp.2
        exact ⟨_, _, h4, hkf, .inr ⟨rfl, hx⟩⟩
      | goto t =>
        obtain ⟨u, W4, h4, rfl, hkf, hx⟩ := stop _ a3 W3 hp.1 hp.2
        exact ⟨_, _, h4, hkf, .inr ⟨rfl, hx⟩⟩
      | panic ch => exact hp.elim
      | outgrown => exact hp.elim

/-- The same, in a round of loop l₀. -/
theorem wpIn_range_NN {α : Type} {g : Operand} {ps : Array Tmp} {assign body : Code} {Q : Exit → Act → World → Prop} {a : Act} {w : World} {gf : Nat} {lb : Array Value} {l₀ : Nat} {r₀ : Loop} (hl₀ : w.heap[l₀]? = some (.loop r₀))
    (hg : a.eval g = .func (.func gf) #[] lb) (eg : ∀ args w, (callFunc gf args).run P w = .ok (.enter gf args) w)
    {encs : α → Array Value} {Kp : World → World → Prop} {S Sp : List α → Prop} {w0 : World} (hseq : SeqN Fence.wide (n - 1) P gf lb encs Kp S Sp w0)
    (hKt : ∀ {A B C : World}, Kp A B → Kp B C → Kp A C) (hKb : ∀ (W : World) (l : Nat) (o o' : Obj), w.heap.size ≤ l → W.heap[l]? = some o → o.isCells = false → o.isWalk = false → Kp W (W.putObj l o')) (hb0 : Below w0.heap.size w0 w) (hps : ∀ x, (encs x).size = ps.size)
    (I : List α → World → Prop) (Ix : Code → List α → World → Prop) (hI : OwnFrom w.heap.size I) (hIx : ∀ c, OwnFrom w.heap.size (Ix c)) (h0 : I [] w)
    (hab : ∃ a₁ : α → Act, (∀ (l : Nat) (x : α) (W : World) (K : Act → World → Prop), K (a₁ x) W →
      assign.wpIn (Fence.wide.inRound l) (n - 1 - 1) P (Exit.then K (fun _ _ _ => False)) { tmps := (ps.zip (encs x)).foldl (fun t (p, v) => t.setIfInBounds p v) a.tmps, defers := [] } W) ∧
      (∀ (l : Nat) (pre : List α) (x : α) (W : World), w.heap.size ≤ l → (∃ r, W.heap[l]? = some (.loop r)) → I pre W → Sp (pre ++ [x]) → body.wpIn (Fence.wide.inRound l) (n - 1 - 1) P (ownPostG w.heap.size Kp I Ix (pre ++ [x]) W) (a₁ x) W))
    (hdone : ∀ (xs : List α) (W : World), S xs → I xs W → Q .normal a W)
    (hstop : ∀ (c : Code) (pre : List α) (W : World), Sp pre → Ix c pre W → c.wpIn (Fence.wide.inRound l₀) n P Q a W) :
    (Code.rangeFunc g ps assign body).wpIn (Fence.wide.inRound l₀) n P Q a w := by
  obtain ⟨a₁, hassign, hbody⟩ := hab
  refine wpIn_rangeFunc (fun fn hfn => ?_)
  let R : LoopState → Option Code → Obj := fun st pe => .loop { state := st, pending := pe, fn := fn, tmps := a.tmps, params := ps, assign := assign, body := body, defers := r₀.defers }
  have hRc : ∀ st pe, (R st pe).isCells = false := fun _ _ => rfl
  obtain ⟨W1, hW1⟩ : ∃ W1, w.alloc (R .ready none) = W1 := ⟨_, rfl⟩
  have hz : W1.heap.size = w.heap.size + 1 := by rw [← hW1]; simp
  have hL1 : W1.heap[w.heap.size]? = some (R .ready none) := by rw [← hW1]; exact World.alloc_heap_new w _
  have hw1 : Below w.heap.size w W1 := by rw [← hW1]; exact (Below.refl _ w).alloc (Nat.le_refl _) _
  have hI1 : I [] W1 := by rw [← hW1]; exact hI.alloc _ h0
  refine ⟨w.heap.size, [], W1, { target := .fn (.func gf) lb, args := #[.func (.yield w.heap.size) #[] #[]] }, W1, gf, #[.func (.yield w.heap.size) #[] #[]] ++ lb, W1, ?_, ?_, fun _ _ => trivial, ?_, fun h => (by simp [Fence.wide, Fence.inRound] at h), ?_⟩
  · rw [← hW1]; exact run_enterLoop_inner hl₀ _ _ _ _ _
  · simp only [resolve, hg]
    simp [go_sem]
  · simp [invoke, go_sem, eg]
  · have hlL : w.heap.size < W1.heap.size := by omega
    have call := hseq w.heap.size (fun pre W => I pre W ∧ W.heap[w.heap.size]? = some (R .ready none)) (fun pre W => ∃ c, Ix c pre W ∧ W.heap[w.heap.size]? = some (R .done (some c))) W1 (hb0.trans (hw1.mono hb0.size))
      ((hI.later (by omega)).and (ownFrom_block hlL _))
      (fun s A B row hs hg' hr => by
        obtain ⟨c, hc, h1⟩ := hs
        exact ⟨c, (hIx c).later (by omega) s A B row hc hg' hr, ownFrom_block (β := List α) hlL _ s A B row h1 hg' hr⟩)
      ?_ ⟨hI1, hL1⟩
    · refine (CallsIn.inRound l₀ call).mono ?_
      rintro e W2 ⟨⟨v, rfl⟩, hend⟩
      rcases hend with ⟨xs, hS, hi, hl⟩ | ⟨pre, hSp, c, hi, hl⟩
      · exact ⟨none, _, run_endLoop (P := P) hl (by simp), hdone xs _ hS (hI.putObj _ hi (Nat.le_refl _) hl (hRc _ _))⟩
      · exact ⟨some c, _, run_endLoop (P := P) hl (by simp), hstop c pre _ hSp ((hIx c).putObj _ hi (Nat.le_refl _) hl (hRc _ _))⟩
    · rintro pre x W ⟨hi, hl⟩ hlen
      have hlt : w.heap.size < W.heap.size := (Array.getElem?_eq_some_iff.1 hl).1
      refine ⟨fn, _, assign, body, run_yield hl (hps x), roundIn_of_wpIn hfn (hassign _ x W _ ?_)⟩
      refine ⟨_, run_beginRound hl rfl, ?_⟩
      obtain ⟨Wb, hWb⟩ : ∃ Wb, W.putObj w.heap.size (R .busy none) = Wb := ⟨_, rfl⟩
      have hlb : Wb.heap[w.heap.size]? = some (R .busy none) := by rw [← hWb]; exact World.putObj_heap_same hlt
      have hib : I pre Wb := by rw [← hWb]; exact hI.putObj _ hi (Nat.le_refl _) hl (hRc _ _)
      have hKW : Kp W Wb := by rw [← hWb]; exact hKb _ _ _ _ (Nat.le_refl _) hl rfl rfl
      have keep : ∀ (W3 : World) (o : Obj), KeepsFrom w.heap.size Wb W3 → KeepsFrom W1.heap.size W (W3.putObj w.heap.size o) := fun W3 o h3 => by
        have hs : W.heap.size = Wb.heap.size := by rw [← hWb]; simp
        refine ⟨by have := h3.size; simp; omega, fun k o' hk1 hko ho => ?_⟩
        rw [World.putObj_heap_other (by omega)]
        refine h3.same k o' (by omega) ?_ ho
        rw [← hWb, World.putObj_heap_other (by omega)]
        exact hko
      have stop : ∀ (c : Code) (W3 : World), KeepsFrom w.heap.size Wb W3 → Ix c (pre ++ [x]) W3 → ∃ u W4, (Instr.endRound w.heap.size (some c)).run P W3 = .ok u W4 ∧ u = .bool false ∧ KeepsFrom W1.heap.size W W4 ∧ (∃ c, Ix c (pre ++ [x]) W4 ∧ W4.heap[w.heap.size]? = some (R .done (some c))) := fun c W3 h3 hx => by
        have hl3 := h3.same _ _ (Nat.le_refl _) hlb (hRc _ _)
        exact ⟨_, _, run_endRound (P := P) (some c) hl3, rfl, keep W3 _ h3, c, (hIx c).putObj _ hx (Nat.le_refl _) hl3 (hRc _ _), World.putObj_heap_same (Array.getElem?_eq_some_iff.1 hl3).1⟩
      show body.wpIn _ _ P _ _ (W.putObj w.heap.size (R .busy none))
      rw [hWb]
      refine wpIn_mono (hbody _ pre x Wb (Nat.le_refl _) ⟨_, hlb⟩ hib hlen) ?_
      rintro e a3 W3 hp
      cases e with
      | normal =>
        obtain ⟨h3, hk3, hi3⟩ := hp
        have hl3 := h3.same _ _ (Nat.le_refl _) hlb (hRc _ _)
        exact ⟨_, _, run_endRound (P := P) none hl3, keep W3 _ h3, .inl ⟨rfl, ⟨hI.putObj _ hi3 (Nat.le_refl _) hl3 (hRc _ _), World.putObj_heap_same (Array.getElem?_eq_some_iff.1 hl3).1⟩, hKt hKW (hKt hk3 (hKb _ _ _ _ (Nat.le_refl _) hl3 rfl rfl))⟩⟩
      | ret =>
        obtain ⟨u, W4, h4, rfl, hkf, hx⟩ := stop _ W3 hp.1 hp.2
        exact ⟨_, _, h4, hkf, .inr ⟨rfl, hx⟩⟩
      | exit id =>
        obtain ⟨u, W4, h4, rfl, hkf, hx⟩ := stop _ W3 hp.1 hp.2
        exact ⟨_, _, h4, hkf, .inr ⟨rfl, hx⟩⟩
      | goto t =>
        obtain ⟨u, W4, h4, rfl, hkf, hx⟩ := stop _ W3 hp.1 hp.2
        exact ⟨_, _, h4, hkf, .inr ⟨rfl, hx⟩⟩
      | panic ch => exact hp.elim
      | outgrown => exact hp.elim
end Go
end
