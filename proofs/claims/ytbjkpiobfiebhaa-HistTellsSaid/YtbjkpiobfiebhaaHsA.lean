/-
  Rows of calls in a block: read and written one by one; rows put in order, the alike ones as they stand: what swaps, rotations, insertions and merges do to rows.
  No program in sight; no condition.
-/
import Derived.Test.YtbjkpiobfiebhaaRowG
import Derived.Laws.CopyRow
namespace Go.Arr
open Go.RowKit Go.Seg Go.Open Go.Lib
variable {α : Type}

/-- A block holds these things, from its start on (f lays n cells for each). -/
def At (f : α → List Value) (n : Nat) (E : TypeId) (w : World) (b : Nat) (T : List α) : Prop :=
  ∃ cur, w.heap[b]? = some (.cells cur E (0, 0)) ∧ T.length * n ≤ cur.size ∧ cur.toList.take (T.length * n) = T.flatMap f
variable {f : α → List Value} {n : Nat} {E : TypeId} {w w' : World} {b : Nat} {T : List α} {P : Program}
theorem At.lt (h : At f n E w b T) : b < w.heap.size := by
  obtain ⟨cur, h1, _⟩ := h
  exact (Array.getElem?_eq_some_iff.1 h1).1
theorem At.ext (h : At f n E w b T) (e : Ext w w') : At f n E w' b T := by
  have hl := h.lt
  obtain ⟨cur, h1, h2⟩ := h
  exact ⟨cur, (e.block b hl).trans h1, h2⟩
theorem At.cell (hf : ∀ x, (f x).length = n) (h : At f n E w b T) (i : Nat) (hi : i < T.length) (j : Nat) (hj : j < n) : w.cell? ⟨b, i * n + j, none⟩ = (f T[i])[j]? := by
  obtain ⟨cur, h1, h2, h3⟩ := h
  have hlt : i * n + j < T.length * n := by
    have : (i + 1) * n ≤ T.length * n := Nat.mul_le_mul_right _ hi
    rw [Nat.add_mul] at this
    omega
  rw [cell_of_row w b (i * n + j) cur E (0, 0) h1, ← Row.flat_get f n hf T i hi j hj, ← h3, List.getElem?_take, if_pos hlt]
  simp
theorem At.load (hf : ∀ x, (f x).length = n) (h : At f n E w b T) (i : Nat) (hi : i < T.length) : (loadCellsFrom ⟨b, i * n, none⟩ 0 n #[]).run P w = .ok (f T[i]).toArray w :=
  Row.loadE (hf _) (fun j hj => h.cell hf i hi j hj)
theorem flat_set (hf : ∀ x, (f x).length = n) : ∀ (T : List α) (i : Nat) (x : α), i < T.length → (T.set i x).flatMap f = (T.flatMap f).take (i * n) ++ f x ++ (T.flatMap f).drop (i * n + n)
  | [], i, x, h => by simp at h
  | y :: T, 0, x, _ => by
    simp only [List.set_cons_zero, List.flatMap_cons, Nat.zero_mul, List.take_zero, List.nil_append, Nat.zero_add]
    rw [List.drop_append_of_le_length (by rw [hf]; exact Nat.le_refl _), show List.drop n (f y) = [] from List.drop_of_length_le (by rw [hf]; exact Nat.le_refl _), List.nil_append]
  | y :: T, i + 1, x, h => by
    have h' : i < T.length := by simpa using h
    simp only [List.set_cons_succ, List.flatMap_cons]
    rw [flat_set hf T i x h', show (i + 1) * n = n + i * n by rw [Nat.add_mul]; omega]
    have e1 : (f y ++ T.flatMap f).take (n + i * n) = f y ++ (T.flatMap f).take (i * n) := by
      rw [show n + i * n = (f y).length + i * n by rw [hf], List.take_length_add_append]
    have e2 : (f y ++ T.flatMap f).drop (n + i * n + n) = (T.flatMap f).drop (i * n + n) := by
      rw [show n + i * n + n = (f y).length + (i * n + n) by rw [hf]; omega, List.drop_length_add_append]
    rw [e1, e2]
    simp
theorem At.store (hf : ∀ x, (f x).length = n) (h1' : ∀ x, ∀ v ∈ f x, v.oneCell' = true) (h : At f n E w b T) (i : Nat) (hi : i < T.length) (x : α) :
    ∃ W, (storeCells ⟨b, i * n, none⟩ (f x).toArray.toList 0).run P w = .ok () W ∧ At f n E W b (T.set i x) ∧ Chg (· = b) w W := by
  obtain ⟨cur, h1, h2, h3⟩ := h
  have hin : i * n + n ≤ T.length * n := by
    have : (i + 1) * n ≤ T.length * n := Nat.mul_le_mul_right _ hi
    rw [Nat.add_mul] at this
    omega
  have hs := run_storeCells_at (P := P) b (i * n) E (f x) 0 cur w h1 (by rw [hf]; omega) (h1' x)
  rw [hf, Nat.add_zero] at hs
  refine ⟨_, by simpa using hs, ⟨_, setRow_heap w b cur _ E (0, 0) h1, ?_, ?_⟩, ?_⟩
  · rw [List.length_set]
    simp only [List.size_toArray, List.length_append, List.length_take, List.length_drop, Array.length_toList, hf]
    omega
  · rw [List.length_set, flat_set hf T i x hi, ← h3]
    have hc : cur.toList.length = cur.size := Array.length_toList
    have hl2 : T.length * n = i * n + (n + (T.length * n - (i * n + n))) := by omega
    simp only []
    rw [List.take_take, Nat.min_eq_left (show i * n ≤ T.length * n by omega), List.drop_take, List.append_assoc]
    try rw [List.append_assoc]
    have e0 : (List.take (i * n) cur.toList).length = i * n := by rw [List.length_take]; omega
    rw [show T.length * n = (List.take (i * n) cur.toList).length + (n + (T.length * n - (i * n + n))) by rw [e0]; exact hl2, List.take_length_add_append]
    rw [e0]
    congr 1
    rw [show n + (T.length * n - (i * n + n)) = (f x).length + (T.length * n - (i * n + n)) by rw [hf], List.take_length_add_append]
    congr 2
    have hfx := hf x
    omega
  · refine ⟨rfl, rfl, rfl, by simp [World.setRow], fun k hk hne => ?_⟩
    simp only [World.setRow, Array.getElem?_modify]
    rw [if_neg (fun e => hne e.symm)]

/-- Two things change their places. -/
theorem set2 (X Y Z : List α) (a c : α) : ((X ++ a :: (Y ++ c :: Z)).set X.length c).set (X.length + 1 + Y.length) a = X ++ c :: (Y ++ a :: Z) := by
  rw [List.set_append_right _ _ (Nat.le_refl _), Nat.sub_self, List.set_cons_zero, List.set_append_right _ _ (by omega), show X.length + 1 + Y.length - X.length = Y.length + 1 by omega, List.set_cons_succ, List.set_append_right _ _ (Nat.le_refl _), Nat.sub_self, List.set_cons_zero]
theorem set2r (X Y Z : List α) (a c : α) : ((X ++ a :: (Y ++ c :: Z)).set (X.length + 1 + Y.length) a).set X.length c = X ++ c :: (Y ++ a :: Z) := by
  rw [List.set_append_right _ _ (by omega), show X.length + 1 + Y.length - X.length = Y.length + 1 by omega, List.set_cons_succ, List.set_append_right _ _ (Nat.le_refl _), Nat.sub_self, List.set_cons_zero, List.set_append_right _ _ (Nat.le_refl _), Nat.sub_self, List.set_cons_zero]
theorem at1 (X Y Z : List α) (a c : α) (h : X.length < (X ++ a :: (Y ++ c :: Z)).length) : (X ++ a :: (Y ++ c :: Z))[X.length] = a := by simp
theorem at2 (X Y Z : List α) (a c : α) (h : X.length + 1 + Y.length < (X ++ a :: (Y ++ c :: Z)).length) : (X ++ a :: (Y ++ c :: Z))[X.length + 1 + Y.length] = c := by
  rw [List.getElem_append_right (by omega)]
  simp only [show X.length + 1 + Y.length - X.length = Y.length + 1 by omega, List.getElem_cons_succ]
  simp

/-- A load carried out as one. -/
theorem wpList_ldA {w : World} {ops : Array Oper} {rest : List Oper} {o : Oper} {a : Act} {Q : Exit → Act → World → Prop} (hw : Region.wanted o (yielded ops a.tmps) = true) (t : TypeId) (x : Operand) (ho : o.op = .load t x) (v : Value)
    (hl : (Instr.loadAt t (a.eval x)).run P w = .ok v w) (h : wpList P ops Q rest (a.put o.dst v) w) : wpList P ops Q (o :: rest) a w := by
  refine wpList_step fun K hK => ?_
  rw [if_pos hw]
  unfold Oper.wp
  simp [execOp, ho, hl, Result.andThen]
  exact hK _ _ h
/-- A store carried out as one. -/
theorem wpList_stA {w w' : World} {ops : Array Oper} {rest : List Oper} {o : Oper} {a : Act} {Q : Exit → Act → World → Prop} (hw : Region.wanted o (yielded ops a.tmps) = true) (t : TypeId) (x y : Operand) (ho : o.op = .store t x y) (hd : o.dst = none)
    (hl : (Instr.storeAt t (a.eval x) (a.eval y)).run P w = .ok () w') (h : wpList P ops Q rest a w') : wpList P ops Q (o :: rest) a w := by
  refine wpList_step fun K hK => ?_
  rw [if_pos hw]
  unfold Oper.wp
  simp [execOp, ho, hl, Result.andThen]
  exact hK _ _ (by rw [hd]; exact h)
theorem run_loadA {w : World} {t : TypeId} {ad : Addr} {cs : Array Value} (ha : (isAgg t).run P w = .ok true w) (hs : (sizeOf t).run P w = .ok n w) (hl : (loadCellsFrom ad 0 n #[]).run P w = .ok cs w) : (Instr.loadAt t (.pointer (some ad))).run P w = .ok (.agg cs) w := by
  simp [Instr.loadAt, Instr.sureAddr, loadVar, ha, hs, loadCells, hl]
theorem run_storeA {w w' : World} {t : TypeId} {ad : Addr} {cs : Array Value} (hs : (sizeOf t).run P w = .ok n w) (hn : cs.size = n) (hl : (storeCells ad cs.toList 0).run P w = .ok () w') : (Instr.storeAt t (.pointer (some ad)) (.agg cs)).run P w = .ok () w' := by
  simp [Instr.storeAt, Instr.sureAddr, storeVar, hs, Value.cells, hn, hl]
end Go.Arr
