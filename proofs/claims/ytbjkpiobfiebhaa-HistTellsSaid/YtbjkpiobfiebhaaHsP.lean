/-
  Histories: the document's rows of calls: literals and appends; its Ended, Swaps, Of; two rows compared.
  At most 60 calls; no other condition.
-/
import Derived.Test.YtbjkpiobfiebhaaHsM
namespace Go.Proofs.Ytbjkpiobfiebhaa.Hs
open Go.RowKit Go.Seg Go.Open Go.Lib Go.Arr Go.Stab Go.Row

section
variable {w : World} {ops : Array Oper} {rest : List Oper} {o : Oper} {a : Act} {Q : Exit → Act → World → Prop}
theorem lit0C (hgd : o.guard = none) (ho : o.op = .buildSlice 22 0 #[])
    (h : ∀ a' cap w', RowG RC enc w' w.heap.size (.slice a' 0 cap) [] → Ext w w' → wpList Try.prog ops Q rest (a.put o.dst (.slice a' 0 cap)) w') : wpList Try.prog ops Q (o :: rest) a w := Row.wpList_lit0 RC w hgd ho h
theorem lit1C (hgd : o.guard = none) (x : Operand) (ho : o.op = .buildSlice 22 1 #[(0, x)]) (y : C) (hu : a.eval x = CV y)
    (h : ∀ a' cap w', RowG RC enc w' w.heap.size (.slice a' 1 cap) [y] → Ext w w' → wpList Try.prog ops Q rest (a.put o.dst (.slice a' 1 cap)) w') : wpList Try.prog ops Q (o :: rest) a w :=
  Row.wpList_lit1 RC w hgd x ho _ hu rfl (by decide) (fun a' cap w' h1 h2 => h a' cap w' (by
    unfold RowG
    rw [show [y].flatMap enc = enc y by simp]
    exact h1) h2)
theorem one_enc (xs : List C) : ∀ u ∈ xs.flatMap enc, u.oneCell' = true := by
  intro u hu
  obtain ⟨x, _, hx⟩ := List.mem_flatMap.1 hu
  exact enc_one x u hx
theorem flat_enc (xs : List C) : (xs.flatMap enc).length = xs.length * 13 := flat_length enc 13 enc_len xs
theorem appC (hgd : o.guard = none) (s x : Operand) (ho : o.op = .call { callee := .builtin .append, args := #[s, x], argTypes := #[22, 22] }) (B : Nat) (v : Value) (rs : List C) (hs : a.eval s = v) (hown : RowG RC enc w B v rs)
    (ao : Option Addr) (m c : Nat) (xs : List C) (hx : a.eval x = .slice ao m c) (hl : xs.length = m) (hnone : ao = none → m = 0 ∧ c = 0)
    (hc : ∀ ad, ao = some ad → ∀ j, j < m * 13 → w.cell? (ad.add j) = (xs.flatMap enc)[j]?) (h63 : rs.length + m ≤ 1000000) (hbase : B ≤ w.heap.size)
    (h : ∀ a' cap w', RowG RC enc w' B (.slice a' (rs ++ xs).length cap) (rs ++ xs) → w.grownBy w' v.ownBlock → wpList Try.prog ops Q rest (a.put o.dst (.slice a' (rs ++ xs).length cap)) w') : wpList Try.prog ops Q (o :: rest) a w := by
  subst hl
  rw [List.length_append] at h
  refine Row.wpList_app RC w hgd s x ho B v rs.length (rs.flatMap enc) hs hown ao xs.length c (xs.flatMap enc) hx (flat_enc xs) hnone hc (one_enc xs) h63 hbase (fun a' cap w' h1 h2 => h a' cap w' ?_ h2)
  unfold RowG
  rw [List.length_append, List.flatMap_append]
  exact h1
theorem appC2 (hgd : o.guard = none) (s x : Operand) (ho : o.op = .call { callee := .builtin .append, args := #[s, x], argTypes := #[22, 22] }) (B : Nat) (v : Value) (rs : List C) (hs : a.eval s = v) (hown : RowG RC enc w B v rs)
    (B' : Nat) (u : Value) (xs : List C) (hx : a.eval x = u) (hu : RowG RC enc w B' u xs) (h63 : rs.length + xs.length ≤ 1000000) (hbase : B ≤ w.heap.size)
    (h : ∀ a' cap w', RowG RC enc w' B (.slice a' (rs ++ xs).length cap) (rs ++ xs) → w.grownBy w' v.ownBlock → wpList Try.prog ops Q rest (a.put o.dst (.slice a' (rs ++ xs).length cap)) w') : wpList Try.prog ops Q (o :: rest) a w := by
  rw [List.length_append] at h
  refine Row.wpList_app2 RC w hgd s x ho B v rs.length (rs.flatMap enc) hs hown B' u xs.length (xs.flatMap enc) hx hu (one_enc xs) h63 hbase (fun a' cap w' h1 h2 => h a' cap w' ?_ h2)
  unfold RowG
  rw [List.length_append, List.flatMap_append]
  exact h1
end
/-- What an append reads of calls that are read. -/
theorem VC.flat {w : World} {a : Option Addr} {n b off : Nat} {T : List C} (h : VC w a n b off T) {W : World} (hW : Ext w W) {j : Nat} (hj : j < n * 13) : W.cell? ((⟨b, off, none⟩ : Addr).add j) = (T.flatMap enc)[j]? := by
  have hadd : (⟨b, off, none⟩ : Addr).add j = ⟨b, off + j, none⟩ := by unfold Addr.add; split <;> simp_all
  rw [hadd]
  obtain ⟨i, r, e, hr⟩ : ∃ i r, j = i * 13 + r ∧ r < 13 := ⟨j / 13, j % 13, by omega, by omega⟩
  subst e
  have hi : i < T.length := by rw [h.len]; omega
  rw [← Nat.add_assoc, h.cells W hW i hi r hr, flat_get enc 13 enc_len T i hi r hr]
/-- A row of one's own is one that is read. -/
theorem row_vc {w : World} {B n cap : Nat} {a : Option Addr} {L : List C} (h : RowG RC enc w B (.slice a n cap) L) : ∃ b, VC w a n b 0 L ∧ n ≤ cap ∧ (∀ ad, a = some ad → ad = ⟨b, 0, none⟩) ∧ (a = none → n = 0 ∧ cap = 0) ∧ L.length = n := by
  have hlen : L.length = n := by
    obtain ⟨a', cap', hu⟩ := RowG.val h
    simp only [Value.slice.injEq] at hu
    exact hu.2.1.symm
  rcases h.2 with ⟨h6, hz⟩ | ⟨g, cap', cur, h6, h7, h8, h9, h10, h11, h12⟩
  · simp only [Value.slice.injEq] at h6
    obtain ⟨rfl, rfl, rfl⟩ := h6
    exact ⟨0, ⟨hlen, fun h => absurd h (by omega), fun W hW i hi => absurd hi (by omega)⟩, Nat.le_refl _, fun ad had => (by cases had), fun _ => ⟨rfl, rfl⟩, hlen⟩
  · simp only [Value.slice.injEq] at h6
    obtain ⟨rfl, h13, rfl⟩ := h6
    rw [hlen] at h9 h12
    refine ⟨g, ⟨hlen, fun _ => rfl, fun W hW i hi j hj => ?_⟩, h9, fun ad had => (Option.some.inj had).symm, fun h => (by cases h), hlen⟩
    have hlt : i * 13 + j < n * 13 := by omega
    have hb : Blk W g cur 29 := Blk.ext (show Blk w g cur 29 from h8) hW
    rw [Nat.zero_add, Blk.cells hb, ← flat_get enc 13 enc_len L i hi j hj, ← h12, List.getElem?_take, if_pos (by show _ < n * 13; exact hlt)]
    simp
end Go.Proofs.Ytbjkpiobfiebhaa.Hs
