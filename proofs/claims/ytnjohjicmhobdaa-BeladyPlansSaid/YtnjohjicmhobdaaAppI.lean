/-
  Literals and append at slices of whole numbers of one's own, in the words of their lists.
  Fewer than 1,000,000 numbers; no other condition.
-/
import Derived.Test.YtnjohjicmhobdaaBelSl
import Derived.Test.YtnjohjicmhobdaaRowK
namespace Go.Proofs.Ytnjohjicmhobdaa.Lo1
open Go.RowKit Go.Seg Go.Open Go.Lib Go.Shelf Go.Deep Go.ChangeShapes Go.WideShapes Lk

def RI : Row.Ty Try.prog := ⟨22, 3, .int .i64 0, 1, 8, Try.underlying22, by kernel_rfl, rfl, by decide, by decide⟩
theorem ints_app (a b : List Int) : ints (a ++ b) = ints a ++ ints b := by simp [ints]
theorem ints_len (a : List Int) : (ints a).length = a.length := by simp [ints]
theorem ints_take (a : List Int) (k : Nat) : ints (a.take k) = (ints a).take k := by simp [ints]
theorem ints_drop (a : List Int) (k : Nat) : ints (a.drop k) = (ints a).drop k := by simp [ints]
theorem ints_at (a : List Int) (k : Nat) (h : k < a.length) : (ints a)[k]? = some (.int .i64 (a.getD k 0)) := by simp [ints, h]
theorem Ints.kept {w w' : World} {B : Nat} {v u : Value} {rs : List Int} (h : Ints w B v rs) (hg : w.grownBy w' u.ownBlock) (hne : ∀ k, v.ownBlock = some k → u.ownBlock ≠ some k) : Ints w' B v rs := Row.Own.kept (R := RI) h hg hne
theorem Ints.lt {w : World} {B : Nat} {v : Value} {rs : List Int} (h : Ints w B v rs) : ∀ k, v.ownBlock = some k → B ≤ k ∧ k < w.heap.size := World.ownsRow.lt h
/-- What an append to a row of one's own leaves of the older world. -/
theorem ext_grown {w w1 w2 : World} (h : Ext w w1) {v : Value} {rs : List Int} {B : Nat} (ho : Ints w1 B v rs) (hB : w.heap.size ≤ B) (hg : w1.grownBy w2 v.ownBlock) : Ext w w2 := Row.ext_grown (R := RI) h ho hB hg
variable {w : World} {ops : Array Oper} {rest : List Oper} {o : Oper} {a : Act} {Q : Exit → Act → World → Prop}
theorem lit0I (hgd : o.guard = none) (ho : o.op = .buildSlice 22 0 #[])
    (h : ∀ a' cap w', Ints w' w.heap.size (.slice a' 0 cap) [] → Ext w w' → wpList Try.prog ops Q rest (a.put o.dst (.slice a' 0 cap)) w') : wpList Try.prog ops Q (o :: rest) a w := Row.wpList_lit0 RI w hgd ho h
theorem lit1I (hgd : o.guard = none) (x : Operand) (ho : o.op = .buildSlice 22 1 #[(0, x)]) (n : Int) (hu : a.eval x = .int .i64 n)
    (h : ∀ a' cap w', Ints w' w.heap.size (.slice a' 1 cap) [n] → Ext w w' → wpList Try.prog ops Q rest (a.put o.dst (.slice a' 1 cap)) w') : wpList Try.prog ops Q (o :: rest) a w := Row.wpList_lit1 RI w hgd x ho _ hu rfl (by decide) h
theorem appI (hgd : o.guard = none) (s x : Operand) (ho : o.op = .call { callee := .builtin .append, args := #[s, x], argTypes := #[22, 22] }) (B : Nat) (v : Value) (rs : List Int) (hs : a.eval s = v) (hown : Ints w B v rs)
    (ao : Option Addr) (m c : Nat) (xs : List Int) (hx : a.eval x = .slice ao m c) (hl : xs.length = m) (hnone : ao = none → m = 0 ∧ c = 0)
    (hc : ∀ ad, ao = some ad → ∀ j, j < m → w.cell? (ad.add j) = some (.int .i64 (xs.getD j 0))) (h63 : rs.length + m ≤ 1000000) (hbase : B ≤ w.heap.size)
    (h : ∀ a' cap w', Ints w' B (.slice a' (rs.length + m) cap) (rs ++ xs) → w.grownBy w' v.ownBlock → wpList Try.prog ops Q rest (a.put o.dst (.slice a' (rs.length + m) cap)) w') : wpList Try.prog ops Q (o :: rest) a w := by
  subst hl
  refine Row.wpList_app RI w hgd s x ho B v rs.length (ints rs) hs hown ao xs.length c (ints xs) hx (by rw [ints_len]; exact (Nat.mul_one _).symm) hnone (fun ad had j hj => ?_) (ints_one xs) h63 hbase (fun a' cap w' h1 h2 => h a' cap w' ?_ h2)
  · rw [hc ad had j (by simpa [RI] using hj), ints_at _ _ (by simpa [RI] using hj)]
  · unfold Ints
    rw [ints_app, List.length_append]
    exact h1
theorem appI2 (hgd : o.guard = none) (s x : Operand) (ho : o.op = .call { callee := .builtin .append, args := #[s, x], argTypes := #[22, 22] }) (B : Nat) (v : Value) (rs : List Int) (hs : a.eval s = v) (hown : Ints w B v rs)
    (B' : Nat) (u : Value) (xs : List Int) (hx : a.eval x = u) (hu : Ints w B' u xs) (h63 : rs.length + xs.length ≤ 1000000) (hbase : B ≤ w.heap.size)
    (h : ∀ a' cap w', Ints w' B (.slice a' (rs.length + xs.length) cap) (rs ++ xs) → w.grownBy w' v.ownBlock → wpList Try.prog ops Q rest (a.put o.dst (.slice a' (rs.length + xs.length) cap)) w') : wpList Try.prog ops Q (o :: rest) a w := by
  refine Row.wpList_app2 RI w hgd s x ho B v rs.length (ints rs) hs hown B' u xs.length (ints xs) hx hu (ints_one xs) h63 hbase (fun a' cap w' h1 h2 => h a' cap w' ?_ h2)
  unfold Ints
  rw [ints_app, List.length_append]
  exact h1
/-- The same, told by the whole list's length. -/
theorem appL (hgd : o.guard = none) (s x : Operand) (ho : o.op = .call { callee := .builtin .append, args := #[s, x], argTypes := #[22, 22] }) (B : Nat) (v : Value) (rs : List Int) (hs : a.eval s = v) (hown : Ints w B v rs)
    (ao : Option Addr) (m c : Nat) (xs : List Int) (hx : a.eval x = .slice ao m c) (hl : xs.length = m) (hnone : ao = none → m = 0 ∧ c = 0)
    (hc : ∀ ad, ao = some ad → ∀ j, j < m → w.cell? (ad.add j) = some (.int .i64 (xs.getD j 0))) (h63 : rs.length + m ≤ 1000000) (hbase : B ≤ w.heap.size)
    (h : ∀ a' cap w', Ints w' B (.slice a' (rs ++ xs).length cap) (rs ++ xs) → w.grownBy w' v.ownBlock → wpList Try.prog ops Q rest (a.put o.dst (.slice a' (rs ++ xs).length cap)) w') : wpList Try.prog ops Q (o :: rest) a w :=
  appI hgd s x ho B v rs hs hown ao m c xs hx hl hnone hc h63 hbase (by rw [List.length_append, hl] at h; exact h)
theorem appL2 (hgd : o.guard = none) (s x : Operand) (ho : o.op = .call { callee := .builtin .append, args := #[s, x], argTypes := #[22, 22] }) (B : Nat) (v : Value) (rs : List Int) (hs : a.eval s = v) (hown : Ints w B v rs)
    (B' : Nat) (u : Value) (xs : List Int) (hx : a.eval x = u) (hu : Ints w B' u xs) (h63 : rs.length + xs.length ≤ 1000000) (hbase : B ≤ w.heap.size)
    (h : ∀ a' cap w', Ints w' B (.slice a' (rs ++ xs).length cap) (rs ++ xs) → w.grownBy w' v.ownBlock → wpList Try.prog ops Q rest (a.put o.dst (.slice a' (rs ++ xs).length cap)) w') : wpList Try.prog ops Q (o :: rest) a w :=
  appI2 hgd s x ho B v rs hs hown B' u xs hx hu h63 hbase (by rw [List.length_append] at h; exact h)
/-- A row cut: what an append reads of its first ones, and of those behind. -/
theorem Ints.cut0 {w : World} {B : Nat} {ao : Option Addr} {n c : Nat} {rs : List Int} (h : Ints w B (.slice ao n c) rs) (k : Nat) (hk : k ≤ rs.length) : (ao = none → k = 0 ∧ c = 0) ∧ (∀ ad, ao = some ad → ∀ j, j < k → w.cell? (ad.add j) = some (.int .i64 ((rs.take k).getD j 0))) := by
  have hn : n = rs.length := by
    obtain ⟨a', c', b', hv, _⟩ := h.openI
    simp only [Value.slice.injEq] at hv
    exact hv.2.1
  subst hn
  refine ⟨fun hao => ?_, fun ad hao j hj => ?_⟩
  · obtain ⟨h1, h2⟩ := Row.Own.none' (R := RI) h hao
    exact ⟨by omega, h2⟩
  · rw [Row.Own.news (R := RI) h ad hao j (by simp [RI]; omega), ints_at _ _ (by omega)]
    simp [List.getD_eq_getElem?_getD, hj]
theorem Ints.cut1 {w : World} {B : Nat} {ao : Option Addr} {n c : Nat} {rs : List Int} (h : Ints w B (.slice ao n c) rs) (k : Nat) (hk : k ≤ rs.length) : (∀ ad, ao = some ad → ∀ j, j < rs.length - k → w.cell? ((ad.add k).add j) = some (.int .i64 ((rs.drop k).getD j 0))) := by
  have hn : n = rs.length := by
    obtain ⟨a', c', b', hv, _⟩ := h.openI
    simp only [Value.slice.injEq] at hv
    exact hv.2.1
  subst hn
  intro ad hao j hj
  rw [add_add, Row.Own.news (R := RI) h ad hao (k + j) (by simp [RI]; omega), ints_at _ _ (by omega)]
  simp [List.getD_eq_getElem?_getD, List.getElem?_drop]
end Go.Proofs.Ytnjohjicmhobdaa.Lo1
