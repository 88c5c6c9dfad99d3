/-
  PLAIN LAW for FatePlays: the document's row of fates is the ranked tree's list: Get, Put, Count.
  No program in sight; no condition but those that stand in each lemma.
-/
import Derived.Test.YtlnmnnoibimknaaFateStays
import Derived.Test.YtlnmnnoibimknaaRefPut
namespace Go.Proofs.Ytlnmnnoibimknaa.Fa
open Rk

theorem cint_zero {a b : Int} : cint a b = 0 ↔ a = b := cint_lawful.eq a b
theorem cint_neg {a b : Int} : cint a b < 0 ↔ a < b := by unfold cint; split <;> (try split) <;> omega

theorem look_ix (k : Int) : ∀ (l : List (Int × Int)) (i : Nat) (h : i < l.length), (l[i]).1 = k → (∀ (j : Nat) (hj : j < i), (l[j]).1 ≠ k) → Rk.look cint k l = some (l[i]).2
  | [], i, h, _, _ => absurd h (by simp)
  | x :: l, 0, _, hk, _ => by
    have hk' : x.1 = k := hk
    simp only [Rk.look]
    rw [if_pos (cint_zero.2 hk'.symm)]
    rfl
  | x :: l, i + 1, h, hk, hn => by
    have h0 : x.1 ≠ k := hn 0 (by omega)
    simp only [Rk.look]
    rw [if_neg (fun e => h0 (cint_zero.1 e).symm)]
    exact look_ix k l i (by simpa using h) hk (fun j hj => hn (j + 1) (by omega))

theorem look_no (k : Int) : ∀ (l : List (Int × Int)), (∀ (j : Nat) (hj : j < l.length), (l[j]).1 ≠ k) → Rk.look cint k l = none
  | [], _ => rfl
  | x :: l, hn => by
    have h0 : x.1 ≠ k := hn 0 (by simp)
    simp only [Rk.look]
    rw [if_neg (fun e => h0 (cint_zero.1 e).symm)]
    exact look_no k l (fun j hj => hn (j + 1) (by simpa using hj))

theorem look_none_ne (k : Int) : ∀ (l : List (Int × Int)), Rk.look cint k l = none → ∀ x ∈ l, x.1 ≠ k
  | [], _, _, hx => by cases hx
  | y :: l, h, x, hx => by
    simp only [Rk.look] at h
    split at h
    · cases h
    · rename_i hc
      rcases List.mem_cons.1 hx with rfl | hx
      · exact fun e => hc (cint_zero.2 e.symm)
      · exact look_none_ne k l h x hx

theorem ins_last (k v : Int) : ∀ (l : List (Int × Int)), (∀ x ∈ l, x.1 < k) → ins cint k v l = l ++ [(k, v)]
  | [], _ => rfl
  | x :: l, h => by
    have h0 : x.1 < k := h x (by simp)
    have h1 : ¬ cint k x.1 < 0 := by rw [cint_neg]; omega
    have h2 : cint k x.1 > 0 := by unfold cint; split <;> (try split) <;> omega
    simp only [ins]
    rw [if_neg h1, if_pos h2, ins_last k v l (fun y hy => h y (by simp [hy]))]
    rfl

/-- The document's Put over a rising row, at a key that it lacks. -/
theorem putL_take (l : List (Int × Int)) (hu : Up cint l) (k v : Int) (hk : ∀ x ∈ l, x.1 ≠ k) (F : Nat → Int × Int) (hF : ∀ (i : Nat) (h : i < l.length), F i = l[i]) :
    ∀ n, n ≤ l.length → ((∃ x ∈ l.take n, k < x.1) → putL F k v n = (ins cint k v (l.take n), true)) ∧ ((∀ x ∈ l.take n, x.1 < k) → putL F k v n = (l.take n, false))
  | 0, _ => ⟨fun ⟨x, hx, _⟩ => by simp at hx, fun _ => by simp [putL]⟩
  | n + 1, hn => by
    have hlt : n < l.length := by omega
    obtain ⟨ih1, ih2⟩ := putL_take l hu k v hk F hF n (by omega)
    have ht : l.take (n + 1) = l.take n ++ [l[n]] := by rw [List.take_succ_eq_append_getElem hlt]
    have hFn := hF n hlt
    have hne : (F n).1 ≠ k := by rw [hFn]; exact hk _ (List.getElem_mem hlt)
    have hup : ∀ y ∈ l.take n, cint y.1 (l[n]).1 < 0 := by
      have h1 : Up cint (l.take n ++ [l[n]]) := by rw [← ht]; exact List.Pairwise.sublist (List.take_sublist _ _) hu
      intro y hy
      exact (List.pairwise_append.1 h1).2.2 y hy _ (by simp)
    have hia := ins_app cint_lawful k v (l.take n) [] l[n] hup
    by_cases hd : ∃ x ∈ l.take n, k < x.1
    · have h1 := ih1 hd
      obtain ⟨x, hx, hkx⟩ := hd
      have h2 := cint_neg.1 (hup x hx)
      have e : putL F k v (n + 1) = (ins cint k v (l.take n) ++ [F n], true) := by
        simp only [putL, h1]
        rw [if_neg hne]
        simp
      refine ⟨fun _ => ?_, fun hall => ?_⟩
      · rw [e, ht, hia, if_pos (cint_neg.2 (by omega)), hFn]
      · have := hall x (by rw [ht]; exact List.mem_append.2 (.inl hx))
        omega
    · have hall : ∀ x ∈ l.take n, x.1 < k := fun x hx => by
        have h1 := hk x (List.mem_of_mem_take hx)
        have h2 : ¬ k < x.1 := fun h => hd ⟨x, hx, h⟩
        omega
      have h1 := ih2 hall
      by_cases hkn : k < (l[n]).1
      · have e : putL F k v (n + 1) = (l.take n ++ [(k, v)] ++ [F n], true) := by
          simp only [putL, h1]
          rw [if_neg hne]
          have hle : k ≤ (F n).1 := by rw [hFn]; omega
          simp [hle]
        refine ⟨fun _ => ?_, fun hall' => ?_⟩
        · rw [e, ht, hia, if_pos (cint_neg.2 hkn), ins_last k v _ hall, hFn]
        · have := hall' l[n] (by rw [ht]; exact List.mem_append.2 (.inr (List.mem_singleton.2 rfl)))
          omega
      · have hlt' : (l[n]).1 < k := by have := hFn ▸ hne; omega
        have e : putL F k v (n + 1) = (l.take n ++ [F n], false) := by
          simp only [putL, h1]
          rw [if_neg hne]
          have hle : ¬ k ≤ (F n).1 := by rw [hFn]; omega
          simp [hle]
        refine ⟨fun ⟨x, hx, hkx⟩ => ?_, fun _ => ?_⟩
        · rw [ht] at hx
          rcases List.mem_append.1 hx with hx | hx
          · have := hall x hx
            omega
          · simp at hx
            rw [hx] at hkx
            omega
        · rw [e, ht, hFn]

theorem putR_ins (l : List (Int × Int)) (hu : Up cint l) (k v : Int) (hk : Rk.look cint k l = none) (F : Nat → Int × Int) (hF : ∀ (i : Nat) (h : i < l.length), F i = l[i]) : putR F k v l.length = ins cint k v l := by
  have hne := look_none_ne k l hk
  obtain ⟨h1, h2⟩ := putL_take l hu k v hne F hF l.length (Nat.le_refl _)
  rw [List.take_length] at h1 h2
  unfold putR
  by_cases hd : ∃ x ∈ l, k < x.1
  · rw [h1 hd]
    simp
  · have hall : ∀ x ∈ l, x.1 < k := fun x hx => by
      have h3 := hne x hx
      have h4 : ¬ k < x.1 := fun h => hd ⟨x, hx, h⟩
      omega
    rw [h2 hall]
    simp only [if_true]
    rw [ins_last k v l hall]

/-- How many of a fate a row has. -/
def cnt (v : Int) : List (Int × Int) → Int
  | [] => 0
  | x :: l => (if x.2 = v then 1 else 0) + cnt v l
theorem cnt_app (v : Int) : ∀ (a b : List (Int × Int)), cnt v (a ++ b) = cnt v a + cnt v b
  | [], b => by simp [cnt]
  | x :: a, b => by simp only [List.cons_append, cnt, cnt_app v a b]; omega
theorem cntF_take (l : List (Int × Int)) (v : Int) (F : Nat → Int × Int) (hF : ∀ (i : Nat) (h : i < l.length), F i = l[i]) : ∀ n, n ≤ l.length → cntF F v n = cnt v (l.take n)
  | 0, _ => by simp [cntF, cnt]
  | n + 1, hn => by
    have hlt : n < l.length := by omega
    rw [List.take_succ_eq_append_getElem hlt, cnt_app]
    simp only [cntF, cnt]
    rw [cntF_take l v F hF n (by omega), hF n hlt]
    omega
theorem cntF_all (l : List (Int × Int)) (v : Int) (F : Nat → Int × Int) (hF : ∀ (i : Nat) (h : i < l.length), F i = l[i]) : cntF F v l.length = cnt v l := by
  rw [cntF_take l v F hF _ (Nat.le_refl _), List.take_length]
theorem cnt_ins (k w v : Int) : ∀ (l : List (Int × Int)), Rk.look cint k l = none → cnt v (ins cint k w l) = cnt v l + (if w = v then 1 else 0)
  | [], _ => by simp [ins, cnt]
  | x :: l, h => by
    simp only [Rk.look] at h
    split at h
    · cases h
    · rename_i hc
      simp only [ins]
      split
      · simp only [cnt]; omega
      · rw [if_pos (by omega)]
        simp only [cnt, cnt_ins k w v l h]; omega
theorem cnt_none (v : Int) : ∀ (l : List (Int × Int)), (∀ x ∈ l, x.2 ≠ v) → cnt v l = 0
  | [], _ => rfl
  | x :: l, h => by
    simp only [cnt]
    rw [if_neg (h x (by simp)), cnt_none v l (fun y hy => h y (by simp [hy]))]
    rfl

/-- The counters tell how many there are of each fate. -/
structure InvC (t : T Int Int) (c : C6) : Prop where
  inv : Inv t c
  e1 : c.c1 = cnt 1 t.toL
  e2 : c.c2 = cnt 2 t.toL
  e3 : c.c3 = cnt 3 t.toL
  e4 : c.c4 = cnt 4 t.toL
  e5 : c.c5 = cnt 5 t.toL
theorem InvC.nil : InvC .nil ⟨0, 0, 0, 0, 0, 0⟩ := ⟨Inv.nil, rfl, rfl, rfl, rfl, rfl⟩
theorem InvC.put {t : T Int Int} {c : C6} (h : InvC t c) {id k : Int} (hk : known k = true) (ho : ofT t id = 0) : InvC (T.put cint id k t) (c.bump k) := by
  have hl := toL_put cint_lawful id k t h.inv.up
  have ha := h.inv.absent ho
  have k1 := known_le hk
  have hk' : k = 1 ∨ k = 2 ∨ k = 3 ∨ k = 4 ∨ k = 5 := by omega
  have e1 := h.e1
  have e2 := h.e2
  have e3 := h.e3
  have e4 := h.e4
  have e5 := h.e5
  refine ⟨(h.inv.put hk ho).1, ?_, ?_, ?_, ?_, ?_⟩
  all_goals
    rw [hl, cnt_ins id k _ _ ha]
    rcases hk' with rfl | rfl | rfl | rfl | rfl
    all_goals
      simp [C6.bump]
      omega
theorem InvC.count {t : T Int Int} {c : C6} (h : InvC t c) (k : Int) : cntC c k = cnt k t.toL := by
  by_cases hk : known k = true
  · have k1 := known_le hk
    have hk' : k = 1 ∨ k = 2 ∨ k = 3 ∨ k = 4 ∨ k = 5 := by omega
    unfold cntC
    rw [if_pos hk]
    rcases hk' with rfl | rfl | rfl | rfl | rfl
    · simpa [C6.get] using h.e1
    · simpa [C6.get] using h.e2
    · simpa [C6.get] using h.e3
    · simpa [C6.get] using h.e4
    · simpa [C6.get] using h.e5
  · unfold cntC
    rw [if_neg hk, cnt_none k t.toL]
    intro x hx e
    have h1 := h.inv.vals x hx
    apply hk
    unfold known
    rw [← e]
    simp [h1]
theorem ofT_look {t : T Int Int} (hu : Up cint t.toL) (id : Int) : ofT t id = (Rk.look cint id t.toL).getD 0 := by
  unfold ofT
  rw [get_toL cint_lawful id t hu]
end Go.Proofs.Ytlnmnnoibimknaa.Fa
