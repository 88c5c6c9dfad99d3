/-
  PLAIN LAW of LossyHits: what a lossy map does call by call, and that a get's answer is what was set last. No program in sight; no condition.
-/
import Derived.Test.YtlnmnnoibimknabRankT
namespace Rk
variable {α β : Type} {c : α → α → Int}

theorem look_ins_ne (hc : Lawful c) (k k' : α) (v : β) (h : c k' k ≠ 0) : ∀ l : List (α × β), look c k' (ins c k v l) = look c k' l
  | [] => by simp [ins, look, h]
  | x :: l => by
    simp only [ins]
    split
    · simp [look, h]
    · split
      · simp only [look, look_ins_ne hc k k' v h l]
      · rename_i h1 h2
        have h5 : k = x.1 := (hc.eq _ _).1 (by omega)
        have h6 : c k' x.1 ≠ 0 := by rw [← h5]; exact h
        simp [look, h, h6]

theorem look_del_ne (hc : Lawful c) (k k' : α) (h : c k' k ≠ 0) : ∀ l : List (α × β), look c k' (del c k l) = look c k' l
  | [] => rfl
  | x :: l => by
    simp only [del]
    split
    · rename_i h1
      have h5 : k = x.1 := (hc.eq _ _).1 h1
      have h6 : c k' x.1 ≠ 0 := by rw [← h5]; exact h
      simp [look, h6]
    · simp only [look, look_del_ne hc k k' h l]

theorem look_none_of (k : α) : ∀ l : List (α × β), (∀ y ∈ l, c k y.1 ≠ 0) → look c k l = none
  | [], _ => rfl
  | x :: l, h => by simp [look, h x (by simp), look_none_of k l (fun y hy => h y (by simp [hy]))]

theorem look_del_self (hc : Lawful c) (k : α) : ∀ l : List (α × β), Up c l → look c k (del c k l) = none
  | [], _ => rfl
  | x :: l, h => by
    obtain ⟨hx, hl⟩ := List.pairwise_cons.1 h
    simp only [del]
    split
    · rename_i h1
      have h5 : k = x.1 := (hc.eq _ _).1 h1
      exact look_none_of k l (fun y hy => by have := hx y hy; rw [← h5] at this; omega)
    · rename_i h1
      simp only [look]
      rw [if_neg h1, look_del_self hc k l hl]
end Rk

namespace Lossy
open Rk

/-- A call. -/
structure C where
  (cl id kd ky vl co tt be wh en tk : Int)
  ok : Bool
  rv : Int

def mx : Int := 1099511627776
def right (n : Int) : Bool := decide (0 ≤ n) && decide (n ≤ 4611686018427387904)
def over (e now : Int) : Bool := decide (0 < e) && decide (e ≤ now)
def cut (n : Int) : Int := max 0 (min n mx)
def behind (now n : Int) : Int := if mx - now ≤ n then mx else now + max n 0
def endOf (now ttl : Int) : Int := if ttl = 0 then 0 else if ttl < 0 then 0 else behind (cut now) ttl

abbrev Th := T Int (Int × Int)

def mget (t : Th) (key now : Int) : Option Int :=
  match T.get cint key t with
  | some v => if over v.2 now = true then none else some v.1
  | none => none

def mhit (t : Th) (c : C) : Bool :=
  match mget t c.ky c.tk with
  | some v => v == c.rv
  | none => false

def must (cl : Bool) (c : C) : Bool × Bool :=
  if cl = true then (c.kd == 6, true)
  else if c.kd = 2 then (false, !right c.co || decide (c.tt < 0))
  else if c.kd = 7 then (right c.co, true)
  else if c.kd = 1 then (false, false)
  else (decide (0 < c.kd) && decide (c.kd < 7), true)

def may (t : Th) (cl : Bool) (c : C) : Bool :=
  if (must cl c).2 = true ∧ (c.ok != (must cl c).1) = true then false
  else if c.kd ≠ 1 ∨ c.ok = false then c.rv == 0
  else mhit t c

def after (s : Th × Bool) (c : C) : Th × Bool :=
  if c.ok = false then s
  else if c.kd = 2 then (T.put cint c.ky (c.vl, endOf c.tk c.tt) s.1, s.2)
  else if c.kd = 3 then (T.drop cint c.ky s.1, s.2)
  else if c.kd = 6 then (.nil, true)
  else if c.kd = 5 then (.nil, s.2)
  else s

/-- The map behind the first calls. -/
def st (F : Nat → C) : Nat → Th × Bool
  | 0 => (.nil, false)
  | n + 1 => after (st F n) (F n)

/-- Which call wrote a key last, as the law counts. -/
def wipes (d : C) (key : Int) : Bool := d.ok && (d.kd == 5 || d.kd == 6 || (d.kd == 3 && d.ky == key))
def sets (d : C) (key : Int) : Bool := d.ok && d.kd == 2 && d.ky == key
def wrote (F : Nat → C) (key : Int) : Nat → Int
  | 0 => -1
  | k + 1 => if sets (F k) key = true then (k : Int) else if wipes (F k) key = true then -1 else wrote F key k

theorem wrote_lt (F : Nat → C) (key : Int) : ∀ k, -1 ≤ wrote F key k ∧ wrote F key k < k
  | 0 => by simp [wrote]
  | k + 1 => by
    have := wrote_lt F key k
    simp only [wrote]
    split
    · omega
    · split <;> omega

theorem st_up (F : Nat → C) : ∀ k, Up cint (st F k).1.toL
  | 0 => List.Pairwise.nil
  | k + 1 => by
    have ih := st_up F k
    simp only [st, after]
    split
    · exact ih
    · split
      · simp only; rw [toL_put cint_lawful _ _ _ ih]; exact up_ins cint_lawful _ _ _ ih
      · split
        · simp only; rw [toL_drop cint_lawful _ _ ih]; exact up_del _ _ ih
        · split
          · exact List.Pairwise.nil
          · split
            · exact List.Pairwise.nil
            · exact ih

theorem st_sz (F : Nat → C) : ∀ k, (st F k).1.sz ≤ k
  | 0 => by simp [st, T.sz]
  | k + 1 => by
    have ih := st_sz F k
    simp only [st, after]
    split
    · omega
    · split
      · have := T.sz_put_le cint (F k).ky ((F k).vl, endOf (F k).tk (F k).tt) (st F k).1; simp only; omega
      · split
        · have := T.sz_drop_le cint (F k).ky (st F k).1; simp only; omega
        · split
          · simp only [T.sz]; omega
          · split
            · simp only [T.sz]; omega
            · omega

def last (F : Nat → C) (w : Int) : Option (Int × Int) := if w < 0 then none else some ((F w.toNat).vl, endOf (F w.toNat).tk (F w.toNat).tt)

theorem cint_ne {a b : Int} (h : a ≠ b) : cint a b ≠ 0 := fun e => h ((cint_lawful.eq a b).1 e)

theorem st_look (F : Nat → C) (key : Int) : ∀ k, Rk.look cint key (st F k).1.toL = last F (wrote F key k)
  | 0 => rfl
  | k + 1 => by
    have ih := st_look F key k
    have hu := st_up F k
    simp only [st, after, wrote]
    by_cases hok : (F k).ok = false
    · have e1 : sets (F k) key = false := by simp [sets, hok]
      have e2 : wipes (F k) key = false := by simp [wipes, hok]
      rw [if_pos hok]; simpa [e1, e2] using ih
    · have hok' : (F k).ok = true := by simpa using hok
      rw [if_neg hok]
      by_cases h2 : (F k).kd = 2
      · rw [if_pos h2]
        simp only [toL_put cint_lawful _ _ _ hu]
        by_cases hk : (F k).ky = key
        · have e1 : sets (F k) key = true := by simp [sets, hok', h2, hk]
          rw [hk, look_ins_self cint_lawful]
          simp only [e1, if_true]
          unfold last
          rw [if_neg (by omega)]; simp
        · have e1 : sets (F k) key = false := by simp [sets, hk]
          have e2 : wipes (F k) key = false := by simp [wipes, h2]
          rw [look_ins_ne cint_lawful _ _ _ (cint_ne (Ne.symm hk)), ih]
          simp [e1, e2]
      · have e1 : sets (F k) key = false := by simp [sets, h2]
        rw [if_neg h2]
        by_cases h3 : (F k).kd = 3
        · rw [if_pos h3]
          simp only [toL_drop cint_lawful _ _ hu]
          by_cases hk : (F k).ky = key
          · have e2 : wipes (F k) key = true := by simp [wipes, hok', h3, hk]
            rw [hk, look_del_self cint_lawful _ _ hu]
            simp [e1, e2, last]
          · have e2 : wipes (F k) key = false := by simp [wipes, h3, hk]
            rw [look_del_ne cint_lawful _ _ (cint_ne (Ne.symm hk)), ih]
            simp [e1, e2]
        · rw [if_neg h3]
          by_cases h6 : (F k).kd = 6
          · have e2 : wipes (F k) key = true := by simp [wipes, hok', h6]
            rw [if_pos h6]; simp [e1, e2, last, T.toL, Rk.look]
          · rw [if_neg h6]
            by_cases h5 : (F k).kd = 5
            · have e2 : wipes (F k) key = true := by simp [wipes, hok', h5]
              rw [if_pos h5]; simp [e1, e2, last, T.toL, Rk.look]
            · have e2 : wipes (F k) key = false := by simp [wipes, h3, h5, h6]
              rw [if_neg h5, ih]; simp [e1, e2]

/-- A get that was told a number. -/
theorem hit (F : Nat → C) (i : Nat) (hm : may (st F i).1 (st F i).2 (F i) = true) (hg : (F i).kd = 1) (ho : (F i).ok = true) :
    0 ≤ wrote F (F i).ky i ∧ (F (wrote F (F i).ky i).toNat).vl = (F i).rv ∧
    ¬ (0 < (F (wrote F (F i).ky i).toNat).tt ∧ 0 ≤ (F (wrote F (F i).ky i).toNat).tk ∧ (F (wrote F (F i).ky i).toNat).tk ≤ (F i).tk ∧ (F (wrote F (F i).ky i).toNat).tt ≤ (F i).tk - (F (wrote F (F i).ky i).toNat).tk) := by
  have hl := st_look F (F i).ky i
  have hu := st_up F i
  unfold may at hm
  split at hm
  · cases hm
  · rw [if_neg (by simp [hg, ho])] at hm
    unfold mhit mget at hm
    rw [get_toL cint_lawful _ _ hu, hl] at hm
    unfold last at hm
    by_cases hw : wrote F (F i).ky i < 0
    · rw [if_pos hw] at hm; simp at hm
    · rw [if_neg hw] at hm
      simp only at hm
      split at hm
      · rename_i hv
        split at hv
        · cases hv
        · rename_i ho
          cases hv
          refine ⟨by omega, by simpa using hm, ?_⟩
          intro ⟨a1, a2, a3, a4⟩
          apply ho
          unfold over endOf behind cut mx
          rw [if_neg (by omega), if_neg (by omega)]
          simp only [Bool.and_eq_true, decide_eq_true_eq]
          split <;> constructor <;> omega
      · cases hm
end Lossy
