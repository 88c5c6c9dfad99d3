/-
  Slices of one's own as lists of cells: the literal of none and of one, and append, as laws of the walk that leave a world of which only the rows are told.
  No program in sight; fewer than 1,000,000 elements; no other condition.
-/
import Derived.Test.YtbjkpiobfiebhaaOwnRows
import Derived.Test.YtbjkpiobfiebhaaOwnSet
import Derived.OwnWalk
import Derived.OwnWalkIn
import Derived.Lib.Hide
namespace Go.Row
open Go.RowKit Go.Seg Go.Open Go.Lib Go.WideShapes Go.ChangeShapes

/-- A slice type's row of the table. -/
structure Ty (P : Program) where
  t : TypeId
  e : TypeId
  z : Value
  size : Nat
  bytes : Nat
  ht : P.underlying t = some (.slice e)
  hi : (P.info? e).map (fun i => (i.zero, i.size, i.bytes)) = some (some z, size, bytes)
  hz : z.cells.size = size
  h0 : 0 < size
  hb : bytes ≤ 1000

variable {P : Program} (R : Ty P)
/-- A slice of one's own: its cells. -/
def Own (w : World) (B : Nat) (v : Value) (n : Nat) (xs : List Value) : Prop := w.ownsRow B R.e R.size v n xs

variable {R} {w w' : World} {B : Nat} {v : Value} {n : Nat} {xs : List Value}
theorem Own.ext (h : Own R w B v n xs) (e : Ext w w') : Own R w' B v n xs := own_ext h e
theorem Own.base {B' : Nat} (h : Own R w B v n xs) (hB : B' ≤ B) : Own R w B' v n xs := own_base h hB
theorem Own.lt (h : Own R w B v n xs) : ∀ k, v.ownBlock = some k → B ≤ k ∧ k < w.heap.size := World.ownsRow.lt h
theorem Own.len (h : Own R w B v n xs) : xs.length = n * R.size := h.1
theorem Own.nil (w : World) (B : Nat) : Own R w B (.slice none 0 0) 0 [] := World.ownsRow_nil _ _ _ _
theorem Own.open' (h : Own R w B v n xs) : ∃ (a : Option Addr) (cap b : Nat), v = .slice a n cap ∧ n ≤ cap ∧ cap ≤ maxLen ∧ (0 < n → a = some ⟨b, 0, none⟩) ∧ (0 < n → B ≤ b ∧ b < w.heap.size) ∧
    (∀ W, Ext w W → ∀ j, j < n * R.size → W.cell? ⟨b, j, none⟩ = xs[j]?) := own_open h
theorem Own.val (h : Own R w B v n xs) : ∃ a cap, v = .slice a n cap ∧ (a = none → n = 0 ∧ cap = 0) ∧ n ≤ cap ∧ cap ≤ maxLen := by
  rcases h.2 with ⟨rfl, rfl⟩ | ⟨g, cap, cur, rfl, _, _, h1, h2, _⟩
  · exact ⟨none, 0, rfl, fun _ => ⟨rfl, rfl⟩, Nat.le_refl _, Nat.zero_le _⟩
  · exact ⟨_, cap, rfl, (fun h => by cases h), h1, h2⟩
/-- Another row was appended to: this one stands. -/
theorem Own.kept {u : Value} (h : Own R w B v n xs) (hg : w.grownBy w' u.ownBlock) (hne : ∀ k, v.ownBlock = some k → u.ownBlock ≠ some k) : Own R w' B v n xs := by
  refine World.ownsRow.kept h hg ?_
  cases hv : v.ownBlock with
  | none => exact .inl rfl
  | some k => exact .inr (fun e => hne k hv e.symm)
/-- What an append leaves of an older world. -/
theorem ext_grown {w0 w w' : World} (h : Ext w0 w) (ho : Own R w B v n xs) (hB : w0.heap.size ≤ B) (hg : w.grownBy w' v.ownBlock) : Ext w0 w' :=
  Below.grown h hg h.size (fun j hj => by have := (ho.lt j hj).1; omega)

theorem run_lit0 (R : Ty P) (w : World) : (Instr.buildSlice R.t 0 #[]).run P w = .ok (.slice (some ⟨w.heap.size, 0, none⟩) 0 0) (w.alloc (.cells #[] R.e)) := by
  obtain ⟨i, hi, h1, h2, h3⟩ := info_parts R.hi
  simp [Instr.buildSlice, run_underlying R.ht, sizeOf, typeInfo, hi, Instr.fill, newRow]
  have e : Array.map (fun _ : Nat => (default : Value)) (Array.range 0) = #[] := Array.eq_empty_of_size_eq_zero (by simp)
  rw [e]
theorem run_lit1 (R : Ty P) (w : World) (x : Value) (hx : x.cells.size = R.size) (hs : R.size ≤ 1000) : (Instr.buildSlice R.t 1 #[(0, x)]).run P w = .ok (.slice (some ⟨w.heap.size, 0, none⟩) 1 1) (w.alloc (.cells x.cells R.e)) := by
  obtain ⟨i, hi, h1, h2, h3⟩ := info_parts R.hi
  have hl : ¬ (1 * R.size > 2 ^ 24) := by omega
  have h0 := R.h0
  have hf : ∀ (cs z : Array Value), cs.size = z.size → cs.zipIdx.foldl (fun (acc : Array Value) (p : Value × Nat) => acc.setIfInBounds p.2 p.1) z = cs := by
    intro cs z hcz
    have key : ∀ (l : List Value) (k : Nat) (z : Array Value), k + l.length = z.size → ((l.zipIdx k).foldl (fun (acc : Array Value) (p : Value × Nat) => acc.setIfInBounds p.2 p.1) z).toList = z.toList.take k ++ l := by
      intro l
      induction l with
      | nil => intro k z hk; simp at hk; rw [hk, List.zipIdx_nil, List.foldl_nil, List.append_nil, List.take_of_length_le (by simp)]
      | cons y l ih =>
        intro k z hk
        simp only [List.length_cons] at hk
        rw [List.zipIdx_cons, List.foldl_cons, ih (k + 1) _ (by simp; omega)]
        simp only [Array.toList_setIfInBounds]
        have hlt : k < z.toList.length := by simp; omega
        rw [List.take_succ_eq_append_getElem (by simpa using hlt), List.take_set_of_le (Nat.le_refl _)]
        simp
    apply Array.ext'
    have := key cs.toList 0 z (by simpa using hcz)
    rw [← Array.foldl_toList, Array.toList_zipIdx]
    simpa using this
  have hne : ¬ R.size = 0 := by omega
  simp [Instr.buildSlice, run_underlying R.ht, sizeOf, typeInfo, hi, h1, h2, Instr.fill, newRow, zeroValue, hx, hne, R.hz]
  rw [if_neg (by omega)]
  have e := hf x.cells (Array.map (fun y => R.z.cells[y % R.size]!) (Array.range R.size)) (by simp [hx])
  rw [Array.size_zipIdx, hx] at e
  rw [e]
/-- A new block of one element. -/
theorem own_lit (R : Ty P) (w : World) (cs : Array Value) (h : cs.size = R.size) : Own R (w.alloc (.cells cs R.e)) w.heap.size (.slice (some ⟨w.heap.size, 0, none⟩) 1 1) 1 cs.toList :=
  ⟨by rw [Array.length_toList, h, Nat.one_mul], .inr ⟨w.heap.size, 1, cs, rfl, Nat.le_refl _, heap_alloc_new w _, Nat.le_refl _, by decide, by rw [h, Nat.one_mul], by rw [Nat.one_mul, ← h]; exact List.take_length⟩⟩
/-- An empty literal. -/
theorem wpList_lit0 (R : Ty P) (w : World) {ops : Array Oper} {rest : List Oper} {o : Oper} {a : Act} {Q : Exit → Act → World → Prop} (hgd : o.guard = none) (ho : o.op = .buildSlice R.t 0 #[])
    (h : ∀ a' cap w', Own R w' w.heap.size (.slice a' 0 cap) 0 [] → Ext w w' → wpList P ops Q rest (a.put o.dst (.slice a' 0 cap)) w') : wpList P ops Q (o :: rest) a w := by
  refine wpList_plain hgd fun K hK => ?_
  unfold Oper.wp
  simp [execOp, ho, run_lit0 R w, Result.andThen]
  exact hK _ _ (h _ 0 _ ⟨by simp, .inr ⟨w.heap.size, 0, #[], rfl, Nat.le_refl _, heap_alloc_new w _, Nat.le_refl _, Nat.zero_le _, by simp, by simp⟩⟩ ((Below.refl _ _).alloc (Nat.le_refl _) _))
/-- A literal of one. -/
theorem wpList_lit1 (R : Ty P) (w : World) {ops : Array Oper} {rest : List Oper} {o : Oper} {a : Act} {Q : Exit → Act → World → Prop} (hgd : o.guard = none) (x : Operand) (ho : o.op = .buildSlice R.t 1 #[(0, x)])
    (u : Value) (hu : a.eval x = u) (hx : u.cells.size = R.size) (hs : R.size ≤ 1000)
    (h : ∀ a' cap w', Own R w' w.heap.size (.slice a' 1 cap) 1 u.cells.toList → Ext w w' → wpList P ops Q rest (a.put o.dst (.slice a' 1 cap)) w') : wpList P ops Q (o :: rest) a w := by
  refine wpList_plain hgd fun K hK => ?_
  unfold Oper.wp
  simp [execOp, ho, hu, run_lit1 R w u hx hs, Result.andThen]
  exact hK _ _ (h _ 1 _ ⟨by simp [hx], .inr ⟨w.heap.size, 1, u.cells, rfl, Nat.le_refl _, heap_alloc_new w _, Nat.le_refl _, by decide, by rw [hx, Nat.one_mul], by rw [Nat.one_mul, ← hx]; exact List.take_length⟩⟩ ((Below.refl _ _).alloc (Nat.le_refl _) _))
theorem run_app (R : Ty P) (w : World) (ty : TypeId) {B : Nat} {v : Value} {n : Nat} {xs : List Value} (hown : Own R w B v n xs) (ao : Option Addr) (m c : Nat) (news : List Value) (hl : news.length = m * R.size) (hnone : ao = none → m = 0 ∧ c = 0)
    (hc : ∀ ad, ao = some ad → ∀ j, j < m * R.size → w.cell? (ad.add j) = news[j]?) (h1 : ∀ u ∈ news, u.oneCell' = true) (h63 : n + m ≤ 1000000) (hbase : B ≤ w.heap.size) :
    ∃ v' w', (Builtin.append_ #[R.t, R.t] ty #[v, .slice ao m c]).run P w = .ok v' w' ∧ Own R w' B v' (n + m) (xs ++ news) ∧ w.grownBy w' v.ownBlock := by
  obtain ⟨i0, hi, hz0, hz1, hz2⟩ := info_parts R.hi
  have hb := R.hb
  cases ao with
  | none =>
    obtain ⟨rfl, rfl⟩ := hnone rfl
    have : news = [] := List.eq_nil_of_length_eq_zero (by simpa using hl)
    subst this
    exact ⟨v, w, run_append_owned_none w B R.t ty R.e i0 R.size R.ht hi v n xs hown, by simpa using hown, ⟨rfl, rfl, rfl, Nat.le_refl _, fun _ _ _ => rfl⟩⟩
  | some ad =>
    have hmb : (n + m) * R.bytes ≤ 1000000 * 1000 := Nat.mul_le_mul h63 hb
    obtain ⟨v', w', h2, h3, h4, _⟩ := run_append_own w B R.t ty R.e i0 R.z R.size R.bytes R.ht hi hz0 hz1 hz2 R.hz R.h0 v n xs hown ad m c news hl
      (fun j u hj => by
        obtain ⟨hj1, _⟩ := List.getElem?_eq_some_iff.1 hj
        rw [hc ad rfl j (by omega)]
        exact hj) h1 (by unfold maxLen; omega) (by omega) hbase
    exact ⟨v', w', h2, h3, h4⟩
/-- An append of what is known cell by cell. -/
theorem wpList_app (R : Ty P) (w : World) {ops : Array Oper} {rest : List Oper} {o : Oper} {a : Act} {Q : Exit → Act → World → Prop} (hgd : o.guard = none) (s x : Operand)
    (ho : o.op = .call { callee := .builtin .append, args := #[s, x], argTypes := #[R.t, R.t] }) (B : Nat) (v : Value) (n : Nat) (xs : List Value) (hs : a.eval s = v) (hown : Own R w B v n xs) (ao : Option Addr) (m c : Nat) (news : List Value) (hx : a.eval x = .slice ao m c) (hl : news.length = m * R.size) (hnone : ao = none → m = 0 ∧ c = 0)
    (hc : ∀ ad, ao = some ad → ∀ j, j < m * R.size → w.cell? (ad.add j) = news[j]?) (h1 : ∀ u ∈ news, u.oneCell' = true) (h63 : n + m ≤ 1000000) (hbase : B ≤ w.heap.size)
    (h : ∀ a' cap w', Own R w' B (.slice a' (n + m) cap) (n + m) (xs ++ news) → w.grownBy w' v.ownBlock → wpList P ops Q rest (a.put o.dst (.slice a' (n + m) cap)) w') : wpList P ops Q (o :: rest) a w := by
  refine wpList_plain hgd fun K hK => ?_
  obtain ⟨v', w', hr, h2, h3⟩ := run_app R w o.type hown ao m c news hl hnone hc h1 h63 hbase
  obtain ⟨a', cap, rfl, _⟩ := h2.val
  unfold Oper.wp execOp
  simp only [ho, resolve, invoke, builtin, Sem.run_bind, Sem.run_pure, Result.andThen_ok, List.map_toArray, List.map_cons, List.map_nil, hs, hx, hr]
  exact hK _ _ (h a' cap w' h2 h3)
/-- What a row holds, as an append reads it. -/
theorem Own.news {B : Nat} {ao : Option Addr} {m c : Nat} {news : List Value} (h : Own R w B (.slice ao m c) m news) : ∀ ad, ao = some ad → ∀ j, j < m * R.size → w.cell? (ad.add j) = news[j]? := by
  intro ad hao j hj
  rcases h.2 with ⟨hv, hm⟩ | ⟨g, cap, cur, hv, _, hh, h1, h2, h3, h4⟩
  · simp only [hm, Nat.zero_mul] at hj; omega
  · simp only [Value.slice.injEq] at hv
    obtain ⟨hv1, -, -⟩ := hv
    subst hao
    cases hv1
    rw [add_plain, Nat.zero_add, cell_of_row w g j cur R.e (0, 0) hh, ← h4, List.getElem?_take, if_pos hj]
    simp
theorem Own.none' {B : Nat} {ao : Option Addr} {m c : Nat} {news : List Value} (h : Own R w B (.slice ao m c) m news) : ao = none → m = 0 ∧ c = 0 := by
  intro hao
  obtain ⟨a, cap, hv, hn, _⟩ := h.val
  simp only [Value.slice.injEq] at hv
  obtain ⟨rfl, -, rfl⟩ := hv
  exact hn hao
/-- An append of another row of one's own. -/
theorem wpList_app2 (R : Ty P) (w : World) {ops : Array Oper} {rest : List Oper} {o : Oper} {a : Act} {Q : Exit → Act → World → Prop} (hgd : o.guard = none) (s x : Operand)
    (ho : o.op = .call { callee := .builtin .append, args := #[s, x], argTypes := #[R.t, R.t] }) (B : Nat) (v : Value) (n : Nat) (xs : List Value) (hs : a.eval s = v) (hown : Own R w B v n xs) (B' : Nat) (u : Value) (m : Nat) (news : List Value) (hx : a.eval x = u) (hu : Own R w B' u m news)
    (h1 : ∀ u ∈ news, u.oneCell' = true) (h63 : n + m ≤ 1000000) (hbase : B ≤ w.heap.size)
    (h : ∀ a' cap w', Own R w' B (.slice a' (n + m) cap) (n + m) (xs ++ news) → w.grownBy w' v.ownBlock → wpList P ops Q rest (a.put o.dst (.slice a' (n + m) cap)) w') : wpList P ops Q (o :: rest) a w := by
  obtain ⟨ao, c, rfl, _⟩ := hu.val
  exact wpList_app R w hgd s x ho B v n xs hs hown ao m c news hx hu.len hu.none' hu.news h1 h63 hbase h
/-- In a fence: an append of a literal of one. -/
theorem wpListIn_app1 {F : Fence} {k : Nat} (R : Ty P) (w : World) {ops : Array Oper} {rest : List Oper} {o : Oper} {a : Act} {Q : Exit → Act → World → Prop} (hgd : o.guard = none) (s x : Operand)
    (ho : o.op = .call { callee := .builtin .append, args := #[s, x], argTypes := #[R.t, R.t] }) (B : Nat) (v : Value) (n : Nat) (xs : List Value) (hs : a.eval s = v) (hown : Own R w B v n xs) (B' g c : Nat) (news : List Value) (hx : a.eval x = .slice (some ⟨g, 0, none⟩) 1 c) (hu : Own R w B' (.slice (some ⟨g, 0, none⟩) 1 c) 1 news)
    (h1 : ∀ u ∈ news, u.oneCell' = true) (h63 : n + 1 ≤ 1000000) (hbase : B ≤ w.heap.size)
    (h : ∀ a' cap w', Own R w' B (.slice a' (n + 1) cap) (n + 1) (xs ++ news) → w.grownBy w' v.ownBlock → wpListIn F k P ops Q rest (a.put o.dst (.slice a' (n + 1) cap)) w') : wpListIn F k P ops Q (o :: rest) a w := by
  obtain ⟨i0, hi, hz0, hz1, hz2⟩ := info_parts R.hi
  have hb := R.hb
  have hmb : (n + 1) * R.bytes ≤ 1000000 * 1000 := Nat.mul_le_mul h63 hb
  refine wpListIn_append_own w hgd s x R.t ho B R.e i0 R.z R.size R.bytes R.ht hi hz0 hz1 hz2 R.hz R.h0 v n xs hs hown ⟨g, 0, none⟩ 1 c news hx hu.len
    (fun j u hj => by
      obtain ⟨hj1, _⟩ := List.getElem?_eq_some_iff.1 hj
      rw [hu.news _ rfl j (by have := hu.len; omega)]
      exact hj) h1 (by unfold maxLen; omega) (by omega) hbase (fun v' w' h2 h3 _ => ?_)
  have h2' : Own R w' B v' (n + 1) (xs ++ news) := h2
  obtain ⟨a', cap, rfl, _⟩ := h2'.val
  exact h a' cap w' h2 h3
end Go.Row
