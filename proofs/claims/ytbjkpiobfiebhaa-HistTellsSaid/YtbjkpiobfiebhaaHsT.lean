/-
  Rows put in order, the alike ones as they stand. Each thing bears its place (tag). No program in sight; no condition.
-/
import Derived.Test.YtbjkpiobfiebhaaHsA
namespace Go.Stab
variable {α : Type} (key : α → Int)

/-- One thing stands ahead of another. -/
def Lt (x y : α × Nat) : Prop := key x.1 < key y.1 ∨ (key x.1 = key y.1 ∧ x.2 < y.2)
variable {key}
theorem Lt.trans {x y z : α × Nat} (h : Lt key x y) (k : Lt key y z) : Lt key x z := by unfold Lt at *; omega
theorem Lt.irr (x : α × Nat) : ¬ Lt key x x := by unfold Lt; omega
variable (key)
def Srt (l : List (α × Nat)) : Prop := l.Pairwise (Lt key)
/-- These, put in order. -/
def Done (M M' : List (α × Nat)) : Prop := M'.Perm M ∧ Srt key M'
def Tags (A B : List (α × Nat)) : Prop := ∀ x ∈ A, ∀ y ∈ B, x.2 < y.2
variable {key}
theorem srt_app {A B : List (α × Nat)} : Srt key (A ++ B) ↔ Srt key A ∧ Srt key B ∧ ∀ x ∈ A, ∀ y ∈ B, Lt key x y := List.pairwise_append
theorem uniq {l l' : List (α × Nat)} (hp : l.Perm l') (h : Srt key l) (h' : Srt key l') : l = l' :=
  hp.eq_of_pairwise (le := Lt key) (fun a b _ _ h k => absurd (Lt.trans h k) (Lt.irr a)) h h'
/-- What insertion's inner loop keeps: all in order, but for x, which stands between S1 and S2. -/
structure Ins (key : α → Int) (M S1 : List (α × Nat)) (x : α × Nat) (S2 : List (α × Nat)) : Prop where
  perm : (S1 ++ x :: S2).Perm M
  srt : Srt key (S1 ++ S2)
  gt : ∀ y ∈ S2, key x.1 < key y.1
  tag : ∀ y ∈ S1, y.2 < x.2
theorem Ins.start {S M : List (α × Nat)} {x : α × Nat} (h : Done key M S) (ht : ∀ y ∈ M, y.2 < x.2) : Ins key (M ++ [x]) S x [] :=
  ⟨h.1.append_right [x], by rw [List.append_nil]; exact h.2, fun _ h => by simp at h, fun y hy => ht y (h.1.mem_iff.1 hy)⟩
theorem Ins.step {M S1 S2 : List (α × Nat)} {x z : α × Nat} (h : Ins key M (S1 ++ [z]) x S2) (hlt : key x.1 < key z.1) : Ins key M S1 x (z :: S2) := by
  refine ⟨?_, ?_, ?_, fun y hy => h.tag y (by simp [hy])⟩
  · refine List.Perm.trans ?_ h.perm
    rw [List.append_assoc]
    exact List.Perm.append_left _ (List.Perm.swap _ _ _)
  · have := h.srt
    rw [List.append_assoc] at this
    exact this
  · intro y hy
    rcases List.mem_cons.1 hy with rfl | hy
    · exact hlt
    · exact h.gt y hy
theorem Ins.stop {M S1 S2 : List (α × Nat)} {x : α × Nat} (h : Ins key M S1 x S2) (hle : ∀ S z, S1 = S ++ [z] → key z.1 ≤ key x.1) : Done key M (S1 ++ x :: S2) := by
  refine ⟨h.perm, ?_⟩
  obtain ⟨h1, h2, h3⟩ := srt_app.1 h.srt
  refine srt_app.2 ⟨h1, List.pairwise_cons.2 ⟨fun y hy => .inl (h.gt y hy), h2⟩, fun y hy z hz => ?_⟩
  rcases List.mem_cons.1 hz with rfl | hz
  · have hne : S1 ≠ [] := fun e => by rw [e] at hy; simp at hy
    obtain ⟨S, l, rfl⟩ : ∃ S l, S1 = S ++ [l] := ⟨S1.dropLast, S1.getLast hne, (List.dropLast_concat_getLast hne).symm⟩
    have hl : Lt key l z := by
      have := hle S l rfl
      have := h.tag l (by simp)
      unfold Lt
      omega
    rcases List.mem_append.1 hy with hy | hy
    · exact Lt.trans ((srt_app.1 h1).2.2 y hy l (by simp)) hl
    · simp at hy; subst hy; exact hl
  · exact h3 y hy z hz
/-- One thing put into a row in order: where it belongs. -/
theorem merge_left {x : α × Nat} {A B : List (α × Nat)} (hs : Srt key (A ++ B)) (hA : ∀ S z, A = S ++ [z] → key z.1 < key x.1) (hB : ∀ z S, B = z :: S → key x.1 ≤ key z.1) (ht : ∀ y ∈ B, x.2 < y.2) : Done key (x :: (A ++ B)) (A ++ x :: B) := by
  obtain ⟨h1, h2, h3⟩ := srt_app.1 hs
  refine ⟨List.perm_middle, srt_app.2 ⟨h1, List.pairwise_cons.2 ⟨fun y hy => ?_, h2⟩, fun y hy z hz => ?_⟩⟩
  · obtain ⟨b, S, rfl⟩ : ∃ b S, B = b :: S := by cases B with
      | nil => simp at hy
      | cons b S => exact ⟨b, S, rfl⟩
    have hb := hB b S rfl
    have htb := ht b (by simp)
    have hl : Lt key x b := by unfold Lt; omega
    rcases List.mem_cons.1 hy with rfl | hy
    · exact hl
    · exact Lt.trans hl ((List.pairwise_cons.1 h2).1 y hy)
  · rcases List.mem_cons.1 hz with rfl | hz
    · have hne : A ≠ [] := fun e => by rw [e] at hy; simp at hy
      obtain ⟨S, l, rfl⟩ : ∃ S l, A = S ++ [l] := ⟨A.dropLast, A.getLast hne, (List.dropLast_concat_getLast hne).symm⟩
      have hl : Lt key l z := .inl (hA S l rfl)
      rcases List.mem_append.1 hy with hy | hy
      · exact Lt.trans ((srt_app.1 h1).2.2 y hy l (by simp)) hl
      · simp at hy; subst hy; exact hl
    · exact h3 y hy z hz
theorem merge_right {x : α × Nat} {A B : List (α × Nat)} (hs : Srt key (A ++ B)) (hA : ∀ S z, A = S ++ [z] → key z.1 ≤ key x.1) (hB : ∀ z S, B = z :: S → key x.1 < key z.1) (ht : ∀ y ∈ A, y.2 < x.2) : Done key (A ++ B ++ [x]) (A ++ x :: B) := by
  obtain ⟨h1, h2, h3⟩ := srt_app.1 hs
  refine ⟨?_, srt_app.2 ⟨h1, List.pairwise_cons.2 ⟨fun y hy => ?_, h2⟩, fun y hy z hz => ?_⟩⟩
  · rw [List.append_assoc]
    exact List.Perm.append_left _ (List.perm_append_comm (l₁ := [x]))
  · obtain ⟨b, S, rfl⟩ : ∃ b S, B = b :: S := by cases B with
      | nil => simp at hy
      | cons b S => exact ⟨b, S, rfl⟩
    have hl : Lt key x b := .inl (hB b S rfl)
    rcases List.mem_cons.1 hy with rfl | hy
    · exact hl
    · exact Lt.trans hl ((List.pairwise_cons.1 h2).1 y hy)
  · rcases List.mem_cons.1 hz with rfl | hz
    · have hne : A ≠ [] := fun e => by rw [e] at hy; simp at hy
      obtain ⟨S, l, rfl⟩ : ∃ S l, A = S ++ [l] := ⟨A.dropLast, A.getLast hne, (List.dropLast_concat_getLast hne).symm⟩
      have hl : Lt key l z := by
        have := hA S l rfl
        have := ht l (by simp)
        unfold Lt
        omega
      rcases List.mem_append.1 hy with hy | hy
      · exact Lt.trans ((srt_app.1 h1).2.2 y hy l (by simp)) hl
      · simp at hy; subst hy; exact hl
    · exact h3 y hy z hz
/-- The last of a row in order is behind all, the first ahead of all. -/
theorem all_last {S : List (α × Nat)} {l y : α × Nat} (h : Srt key (S ++ [l])) (hy : y ∈ S ++ [l]) : y = l ∨ Lt key y l := by
  rcases List.mem_append.1 hy with hy | hy
  · exact .inr ((srt_app.1 h).2.2 y hy l (by simp))
  · simp at hy; exact .inl hy
theorem all_first {S : List (α × Nat)} {l y : α × Nat} (h : Srt key (l :: S)) (hy : y ∈ l :: S) : y = l ∨ Lt key l y := by
  rcases List.mem_cons.1 hy with hy | hy
  · exact .inl hy
  · exact .inr ((List.pairwise_cons.1 h).1 y hy)
/-- All of one row stand ahead of all of another one, if the last does of the first. -/
theorem cross {A B : List (α × Nat)} (hA : Srt key A) (hB : Srt key B) (h : ∀ S x y R, A = S ++ [x] → B = y :: R → Lt key x y) : ∀ x ∈ A, ∀ y ∈ B, Lt key x y := by
  intro x hx y hy
  have hne : A ≠ [] := fun e => by rw [e] at hx; simp at hx
  obtain ⟨S, l, rfl⟩ : ∃ S l, A = S ++ [l] := ⟨A.dropLast, A.getLast hne, (List.dropLast_concat_getLast hne).symm⟩
  obtain ⟨b, R, rfl⟩ : ∃ b R, B = b :: R := by cases B with
    | nil => simp at hy
    | cons b R => exact ⟨b, R, rfl⟩
  have h0 := h S l b R rfl rfl
  rcases all_last hA hx with rfl | h1
  · rcases all_first hB hy with rfl | h2
    · exact h0
    · exact Lt.trans h0 h2
  · rcases all_first hB hy with rfl | h2
    · exact Lt.trans h1 h0
    · exact Lt.trans (Lt.trans h1 h0) h2
/-- Two rows in order, cut in two each: what is merged on either side makes the whole. -/
theorem merge_cut {U1 U2 V1 V2 L1 L2 : List (α × Nat)} (hU : Srt key (U1 ++ U2)) (hV : Srt key (V1 ++ V2)) (ht : Tags (U1 ++ U2) (V1 ++ V2))
    (hA : ∀ S x y R, U1 = S ++ [x] → V2 = y :: R → ¬ key y.1 < key x.1) (hB : ∀ S y x R, V1 = S ++ [y] → U2 = x :: R → key y.1 < key x.1)
    (h1 : Done key (U1 ++ V1) L1) (h2 : Done key (U2 ++ V2) L2) : Done key (U1 ++ U2 ++ (V1 ++ V2)) (L1 ++ L2) := by
  obtain ⟨u1, u2, u3⟩ := srt_app.1 hU
  obtain ⟨v1, v2, v3⟩ := srt_app.1 hV
  have c1 := cross u1 v2 (fun S x y R e1 e2 => by
    have a := hA S x y R e1 e2
    have b := ht x (by simp [e1]) y (by simp [e2])
    unfold Lt
    omega)
  have c2 := cross v1 u2 (fun S y x R e1 e2 => .inl (hB S y x R e1 e2))
  refine ⟨?_, srt_app.2 ⟨h1.2, h2.2, fun x hx y hy => ?_⟩⟩
  · refine (h1.1.append h2.1).trans ?_
    rw [List.append_assoc, List.append_assoc]
    refine List.Perm.append_left _ ?_
    rw [← List.append_assoc, ← List.append_assoc]
    exact List.perm_append_comm.append_right _
  · rcases List.mem_append.1 (h1.1.mem_iff.1 hx) with hx | hx <;> rcases List.mem_append.1 (h2.1.mem_iff.1 hy) with hy | hy
    · exact u3 x hx y hy
    · exact c1 x hx y hy
    · exact c2 x hx y hy
    · exact v3 x hx y hy
theorem Done.refl {M : List (α × Nat)} (h : Srt key M) : Done key M M := ⟨List.Perm.refl _, h⟩
theorem Done.nil_left {V : List (α × Nat)} (h : Srt key V) : Done key ([] ++ V) V := ⟨List.Perm.refl _, h⟩
end Go.Stab
