/-
  PLAIN LAW: what Get answers of a ranked tree behind Put and Drop.
  No program in sight; no condition.
-/
import Derived.Test.YtnpfikabcmngpaaRankT
namespace Rk
variable {α β : Type} {c : α → α → Int}

theorem look_ins_other (hc : Lawful c) (k k' : α) (v : β) (h : k' ≠ k) : ∀ l : List (α × β), look c k' (ins c k v l) = look c k' l
  | [] => by
    simp only [ins, look]
    rw [if_neg (fun e => h ((hc.eq _ _).1 e))]
  | x :: l => by
    have hk : ¬ c k' k = 0 := fun e => h ((hc.eq _ _).1 e)
    simp only [ins]
    split
    · simp only [look]; rw [if_neg hk]
    · split
      · simp only [look]; rw [look_ins_other hc k k' v h l]
      · have e : k = x.1 := (hc.eq _ _).1 (by omega)
        simp only [look]
        rw [if_neg hk, if_neg (by rw [← e]; exact hk)]

theorem look_none_of (hc : Lawful c) (k : α) : ∀ l : List (α × β), (∀ x ∈ l, x.1 ≠ k) → look c k l = none
  | [], _ => rfl
  | x :: l, h => by
    simp only [look]
    rw [if_neg (fun e => h x (by simp) ((hc.eq _ _).1 e).symm), look_none_of hc k l (fun y hy => h y (by simp [hy]))]

theorem look_del_self (hc : Lawful c) (k : α) : ∀ l : List (α × β), Up c l → look c k (del c k l) = none
  | [], _ => rfl
  | x :: l, h => by
    obtain ⟨hx, hl⟩ := List.pairwise_cons.1 h
    simp only [del]
    split
    · rename_i h0
      have e : k = x.1 := (hc.eq _ _).1 h0
      refine look_none_of hc k l (fun y hy e' => ?_)
      have := hx y hy
      rw [e', ← e, (hc.eq k k).2 rfl] at this
      omega
    · rename_i h0
      simp only [look]
      rw [if_neg h0, look_del_self hc k l hl]

theorem look_del_other (hc : Lawful c) (k k' : α) (h : k' ≠ k) : ∀ l : List (α × β), look c k' (del c k l) = look c k' l
  | [] => rfl
  | x :: l => by
    simp only [del]
    split
    · rename_i h0
      have e : k = x.1 := (hc.eq _ _).1 h0
      simp only [look]
      rw [if_neg (fun e' => h (by rw [(hc.eq _ _).1 e', e]))]
    · simp only [look]
      rw [look_del_other hc k k' h l]

theorem up_put (hc : Lawful c) (k : α) (v : β) {t : T α β} (h : Up c t.toL) : Up c (T.put c k v t).toL := by rw [toL_put hc k v t h]; exact up_ins hc k v _ h
theorem up_drop (hc : Lawful c) (k : α) {t : T α β} (h : Up c t.toL) : Up c (T.drop c k t).toL := by rw [toL_drop hc k t h]; exact up_del k _ h
theorem get_put_self (hc : Lawful c) (k : α) (v : β) {t : T α β} (h : Up c t.toL) : T.get c k (T.put c k v t) = some v := by
  rw [get_toL hc k _ (up_put hc k v h), toL_put hc k v t h, look_ins_self hc]
theorem get_put_other (hc : Lawful c) (k k' : α) (v : β) (hk : k' ≠ k) {t : T α β} (h : Up c t.toL) : T.get c k' (T.put c k v t) = T.get c k' t := by
  rw [get_toL hc k' _ (up_put hc k v h), toL_put hc k v t h, look_ins_other hc k k' v hk, get_toL hc k' t h]
theorem get_drop_self (hc : Lawful c) (k : α) {t : T α β} (h : Up c t.toL) : T.get c k (T.drop c k t) = none := by
  rw [get_toL hc k _ (up_drop hc k h), toL_drop hc k t h, look_del_self hc k _ h]
theorem get_drop_other (hc : Lawful c) (k k' : α) (hk : k' ≠ k) {t : T α β} (h : Up c t.toL) : T.get c k' (T.drop c k t) = T.get c k' t := by
  rw [get_toL hc k' _ (up_drop hc k h), toL_drop hc k t h, look_del_other hc k k' hk, get_toL hc k' t h]
theorem up_nil : Up c (T.nil : T α β).toL := List.Pairwise.nil
end Rk
