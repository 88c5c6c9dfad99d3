/-
  ShardPlays, the plain law: the program's two trees and the document's two rows go together, step by step.
  No program in sight; no condition.
-/
import Derived.Test.YtnpfikabcmngpaaShR10
import Derived.Test.YtnpfikabcmngpaaShI3
namespace Go.Proofs.Ytnpfikabcmngpaa.ShP
open Go.RowKit Go.Seg Go.Open Go.Lib Rk Go.Row ShR

theorem assoc_look {β : Type} (h : Int) : ∀ l : List (Int × β), assoc l h = Rk.look cint h l
  | [] => rfl
  | x :: l => by
    have ih := assoc_look h l
    unfold assoc at ih ⊢
    simp only [Rk.look, List.find?_cons]
    by_cases e : x.1 = h
    · rw [if_pos ((cint_lawful.eq _ _).2 e.symm)]
      simp [e]
    · rw [if_neg (fun k => e ((cint_lawful.eq _ _).1 k).symm), ← ih]
      simp [e]
theorem assoc_get {β : Type} {t : T Int β} (hu : Up cint t.toL) (h : Int) : assoc t.toL h = T.get cint h t := by rw [assoc_look, get_toL cint_lawful h t hu]

theorem cint_lt (a b : Int) : cint a b < 0 ↔ a < b := by unfold cint; split <;> (try split) <;> omega
theorem cint_gt (a b : Int) : 0 < cint a b ↔ b < a := by unfold cint; split <;> (try split) <;> omega

theorem rest_all {β : Type} (h : Int) : ∀ l : List (Int × β), (∀ y ∈ l, h < y.1) → restR l h = l
  | [], _ => rfl
  | y :: l, H => by
    unfold restR
    rw [List.filter_cons_of_pos (by have := H y (by simp); simp; omega)]
    exact congrArg _ (rest_all h l (fun z hz => H z (by simp [hz])))
theorem up_tail {β : Type} {x : Int × β} {l : List (Int × β)} (h : Up cint (x :: l)) : Up cint l ∧ ∀ y ∈ l, x.1 < y.1 := by
  unfold Up at *
  rw [List.pairwise_cons] at h
  exact ⟨h.2, fun y hy => (cint_lt _ _).1 (h.1 y hy)⟩
theorem rest_del {β : Type} (h : Int) : ∀ l : List (Int × β), Up cint l → restR l h = del cint h l
  | [], _ => rfl
  | x :: l, H => by
    obtain ⟨h1, h2⟩ := up_tail H
    simp only [del]
    by_cases e : h = x.1
    · rw [if_pos ((cint_lawful.eq _ _).2 e)]
      unfold restR
      rw [List.filter_cons_of_neg (by simp [e])]
      exact rest_all h l (fun y hy => by rw [e]; exact h2 y hy)
    · rw [if_neg (fun k => e ((cint_lawful.eq _ _).1 k)), ← rest_del h l h1]
      unfold restR
      rw [List.filter_cons_of_pos (by simp; omega)]
theorem ins_rest {β : Type} (h : Int) (v : β) : ∀ l : List (Int × β), Up cint l → insB (h, v) (restR l h) = ins cint h v l
  | [], _ => rfl
  | x :: l, H => by
    obtain ⟨h1, h2⟩ := up_tail H
    simp only [ins]
    by_cases a : h < x.1
    · rw [if_pos ((cint_lt _ _).2 a), rest_all h (x :: l) (fun y hy => by rcases List.mem_cons.1 hy with rfl | hy; exact a; have := h2 y hy; omega)]
      simp only [insB]
      rw [if_pos (by omega)]
    · rw [if_neg (fun k => a ((cint_lt _ _).1 k))]
      by_cases b : x.1 < h
      · rw [if_pos ((cint_gt _ _).2 b), ← ins_rest h v l h1]
        unfold restR
        rw [List.filter_cons_of_pos (by simp; omega)]
        simp only [insB]
        rw [if_neg (by omega)]
      · have e : x.1 = h := by omega
        rw [if_neg (fun k => b ((cint_gt _ _).1 k))]
        unfold restR
        rw [List.filter_cons_of_neg (by simp [e])]
        have e2 := rest_all h l (fun y hy => by rw [← e]; exact h2 y hy)
        unfold restR at e2
        rw [e2]
        cases l with
        | nil => rfl
        | cons y l =>
          simp only [insB]
          rw [if_pos (by have := h2 y (by simp); omega)]
theorem put_toL {t : T Int En} (hu : Up cint t.toL) (h : Int) (v : En) : (T.put cint h v t).toL = insB (h, v) (restR t.toL h) := by rw [toL_put cint_lawful h v t hu, ins_rest h v _ hu]
theorem drop_toL {t : T Int En} (hu : Up cint t.toL) (h : Int) : (T.drop cint h t).toL = restR t.toL h := by rw [toL_drop cint_lawful h t hu, rest_del h _ hu]
theorem rest_none {β : Type} {h : Int} : ∀ {l : List (Int × β)}, assoc l h = none → restR l h = l := fun {l} he => by
  unfold assoc at he
  have : l.find? (fun x => decide (x.1 = h)) = none := by cases hf : l.find? (fun x => decide (x.1 = h)) with
    | none => rfl
    | some x => rw [hf] at he; cases he
  unfold restR
  rw [List.filter_eq_self]
  intro y hy
  have := List.find?_eq_none.1 this y hy
  simpa using this

theorem find_filter {β : Type} (h k : Int) : ∀ l : List (Int × β), assoc (restR l k) h = if h = k then none else assoc l h
  | [] => by simp [restR, assoc]
  | y :: l => by
    have ih := find_filter h k l
    unfold restR assoc at ih ⊢
    by_cases e : y.1 = k
    · rw [List.filter_cons_of_neg (by simp [e]), ih]
      by_cases f : h = k
      · simp [f]
      · rw [if_neg f, if_neg f, List.find?_cons_of_neg (by simp [e]; omega)]
    · rw [List.filter_cons_of_pos (by simp [e])]
      by_cases f : y.1 = h
      · rw [List.find?_cons_of_pos (by simp [f]), List.find?_cons_of_pos (by simp [f]), if_neg (by omega)]
      · rw [List.find?_cons_of_neg (by simp [f]), List.find?_cons_of_neg (by simp [f]), ih]
theorem assoc_append {β : Type} (l m : List (Int × β)) (h : Int) : assoc (l ++ m) h = (assoc l h).or (assoc m h) := by
  unfold assoc
  rw [List.find?_append]
  cases l.find? (fun x => decide (x.1 = h)) <;> rfl
/-- A way set anew. -/
theorem wayR_set (Wy : List (Int × Int × Int)) (k m n h : Int) : wayR (setR Wy (k, m, n)) h = if h = k then (if 0 < m then (m, n) else (0, 0)) else wayR Wy h := by
  unfold wayR setR
  rw [assoc_append, find_filter]
  by_cases e : h = k
  · rw [if_pos e, if_pos e]
    by_cases c : 0 < m
    · simp [c, assoc, e]
    · simp [c, assoc]
  · rw [if_neg e, if_neg e]
    by_cases c : 0 < m
    · have : assoc [(k, m, n)] h = none := by simp [assoc]; omega
      simp only [c, if_true, this]
      cases assoc Wy h <;> rfl
    · simp only [c, if_false]
      cases assoc Wy h <;> rfl

/-- How the program's trees and the document's rows hang together. -/
structure Inv (k : Int) (te : T Int En) (tw : T Int (Int × Int)) (Wy : List (Int × Int × Int)) : Prop where
  upe : Up cint te.toL
  upw : Up cint tw.toL
  ways : ∀ h, wayR Wy h = ShI.wayOf tw h
  many : ∀ h, 0 ≤ (ShI.wayOf tw h).1 ∧ (ShI.wayOf tw h).1 ≤ k
  se : te.sz ≤ k
  sw : tw.sz ≤ k
  wl : (Wy.length : Int) ≤ k
variable {k : Int} {te : T Int En} {tw : T Int (Int × Int)} {Wy : List (Int × Int × Int)}
theorem Inv.nil : Inv 0 .nil .nil [] := ⟨up_nil, up_nil, fun _ => rfl, fun _ => ⟨Int.le_refl _, Int.le_refl _⟩, by simp [T.sz], by simp [T.sz], by simp⟩
theorem Inv.mono (I : Inv k te tw Wy) {k' : Int} (h : k ≤ k') : Inv k' te tw Wy :=
  ⟨I.upe, I.upw, I.ways, fun h' => ⟨(I.many h').1, by have := (I.many h').2; omega⟩, by have := I.se; omega, by have := I.sw; omega, by have := I.wl; omega⟩
theorem Inv.put (I : Inv k te tw Wy) (h : Int) (v : En) : Inv (k + 1) (T.put cint h v te) tw Wy :=
  ⟨up_put cint_lawful h v I.upe, I.upw, I.ways, fun h' => ⟨(I.many h').1, by have := (I.many h').2; omega⟩, by have := T.sz_put_le cint h v te; have := I.se; omega, by have := I.sw; omega, by have := I.wl; omega⟩
theorem Inv.drop (I : Inv k te tw Wy) (h : Int) : Inv (k + 1) (T.drop cint h te) tw Wy :=
  ⟨up_drop cint_lawful h I.upe, I.upw, I.ways, fun h' => ⟨(I.many h').1, by have := (I.many h').2; omega⟩, by have := T.sz_drop_le cint h te; have := I.se; omega, by have := I.sw; omega, by have := I.wl; omega⟩
theorem wayOf_put (hu : Up cint tw.toL) (h m n h' : Int) : ShI.wayOf (T.put cint h (m, n) tw) h' = if h' = h then (m, n) else ShI.wayOf tw h' := by
  unfold ShI.wayOf
  by_cases e : h' = h
  · rw [if_pos e, e, get_put_self cint_lawful _ _ hu]; rfl
  · rw [if_neg e, get_put_other cint_lawful _ _ _ e hu]
theorem wayOf_drop (hu : Up cint tw.toL) (h h' : Int) : ShI.wayOf (T.drop cint h tw) h' = if h' = h then (0, 0) else ShI.wayOf tw h' := by
  unfold ShI.wayOf
  by_cases e : h' = h
  · rw [if_pos e, e, get_drop_self cint_lawful _ hu]; rfl
  · rw [if_neg e, get_drop_other cint_lawful _ _ e hu]
theorem Inv.setW (I : Inv k te tw Wy) (h m n : Int) (h0 : 0 < m) (h1 : m ≤ k + 1) : Inv (k + 1) te (T.put cint h (m, n) tw) (setR Wy (h, m, n)) := by
  refine ⟨I.upe, up_put cint_lawful _ _ I.upw, fun h' => ?_, fun h' => ?_, by have := I.se; omega, by have := T.sz_put_le cint h (m, n) tw; have := I.sw; omega, by have := setR_len Wy (h, m, n); have := I.wl; omega⟩
  · rw [wayR_set, wayOf_put I.upw, if_pos h0, I.ways]
  · rw [wayOf_put I.upw]
    split
    · exact ⟨by dsimp only; omega, h1⟩
    · have := I.many h'; omega
theorem Inv.dropW (I : Inv k te tw Wy) (h n : Int) : Inv (k + 1) te (T.drop cint h tw) (setR Wy (h, 0, n)) := by
  have hk : 0 ≤ k := by have := I.many 0; omega
  refine ⟨I.upe, up_drop cint_lawful _ I.upw, fun h' => ?_, fun h' => ?_, by have := I.se; omega, by have := T.sz_drop_le cint h tw; have := I.sw; omega, by have := setR_len Wy (h, 0, n); have := I.wl; omega⟩
  · rw [wayR_set, wayOf_drop I.upw, I.ways]
    simp
  · rw [wayOf_drop I.upw]
    split
    · exact ⟨Int.le_refl _, by dsimp only; omega⟩
    · have := I.many h'; omega
end Go.Proofs.Ytnpfikabcmngpaa.ShP
