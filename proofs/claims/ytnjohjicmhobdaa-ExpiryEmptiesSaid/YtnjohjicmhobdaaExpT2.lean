/-
  PLAIN LAW: the rows of an index behind its steps; how many there are; what is due.
  No program in sight; no condition.
-/
import Derived.Test.YtnjohjicmhobdaaExpT
namespace Ex
open Rk
section
variable {β : Type} {te te' : T Int Int} {tp tp' : T Int β} {tt tt' : Int → T Int Int}
theorem ordL_drop (h : Inv te tp tt) (k : Int) (h' : Inv (T.drop cint k te) tp' tt') : ordL tp'.toL tt' = rest (ordL tp.toL tt) k :=
  ordL_eq h' (srt_rest (srt_ordL h) k) (fun x => by rw [mem_rest, mem_ordL h, mem_drop h.ue])
theorem ordL_put (h : Inv te tp tt) (k e : Int) (hg : T.get cint k te = none) (h' : Inv (T.put cint k e te) tp' tt') : ordL tp'.toL tt' = insX (k, e) (ordL tp.toL tt) := by
  have hno : ∀ x ∈ te.toL, x.1 ≠ k := fun x hx e1 => by
    have := (get_iff h.ue k x.2).2 (by rw [← e1]; exact hx)
    rw [hg] at this
    cases this
  refine ordL_eq h' (srt_insX (srt_ordL h) (fun y hy => hno y ((mem_ordL h y).1 hy))) (fun x => ?_)
  rw [mem_insX, mem_ordL h, mem_put h.ue]
  exact ⟨fun q => q.imp id (fun q => ⟨q, hno x q⟩), fun q => q.imp id (fun q => q.1)⟩
theorem rest_none {y : List (Int × Int)} {k : Int} (h : ∀ x ∈ y, x.1 ≠ k) : rest y k = y := by
  unfold rest
  rw [List.filter_eq_self]
  intro x hx
  simpa using h x hx
theorem ordL_len (h : Inv te tp tt) : ((ordL tp.toL tt).length : Int) = te.sz := by
  rw [← T.sz_toL]
  have hp : (ordL tp.toL tt).Perm te.toL := (List.perm_ext_iff_of_nodup (srt_nodup (srt_ordL h)) (up_nodup h.ue)).2 (mem_ordL h)
  rw [hp.length_eq]
theorem part_len : ∀ (l : List (Int × β)) (x : Int × β), x ∈ l → (tt x.1).toL.length ≤ (ordL l tt).length
  | [], x, h => by simp at h
  | y :: l, x, h => by
    have e : (ordL (y :: l) tt).length = (tt y.1).toL.length + (ordL l tt).length := by simp [ordL]
    rcases List.mem_cons.1 h with rfl | h
    · omega
    · have := part_len l x h; omega
theorem many_len : ∀ (l : List (Int × β)), (∀ x ∈ l, (tt x.1).toL ≠ []) → l.length ≤ (ordL l tt).length
  | [], _ => by simp [ordL]
  | y :: l, h => by
    have e : (ordL (y :: l) tt).length = (tt y.1).toL.length + (ordL l tt).length := by simp [ordL]
    have h1 := List.length_pos_iff.2 (h y (by simp))
    have h2 := many_len l (fun x hx => h x (List.mem_cons_of_mem _ hx))
    simp only [List.length_cons]
    omega
theorem Inv.small (h : Inv te tp tt) : tp.sz ≤ te.sz ∧ ∀ x ∈ tp.toL, (tt x.1).sz ≤ te.sz := by
  have e := ordL_len h
  have h1 := many_len (tt := tt) tp.toL h.ne
  refine ⟨by rw [← T.sz_toL]; omega, fun x hx => ?_⟩
  have := part_len (tt := tt) tp.toL x hx
  rw [← T.sz_toL (tt x.1)]
  omega

/-- How many buckets rows have. -/
def nb : Option Int → List (Int × Int) → Int
  | _, [] => 0
  | p, x :: l => (if p = some (bkt x.2) then 0 else 1) + nb (some (bkt x.2)) l
theorem nb_same (n : Int) : ∀ (g r : List (Int × Int)), (∀ x ∈ g, bkt x.2 = n) → nb (some n) (g ++ r) = nb (some n) r
  | [], _, _ => rfl
  | x :: g, r, h => by
    have hx := h x (by simp)
    simp only [List.cons_append, nb, hx, if_true]
    rw [nb_same n g r (fun y hy => h y (List.mem_cons_of_mem _ hy)), Int.zero_add]
theorem nb_groups : ∀ (l : List (Int × β)) (p : Option Int), Up cint l → (∀ x ∈ l, (tt x.1).toL ≠ []) → (∀ x ∈ l, ∀ y ∈ (tt x.1).toL, bkt y.2 = x.1) → (∀ n, p = some n → ∀ x ∈ l, x.1 ≠ n) → nb p (ordL l tt) = l.length
  | [], p, _, _, _, _ => by cases p <;> simp [ordL, nb]
  | x :: l, p, hu, hne, hb, hp => by
    obtain ⟨hx, hl⟩ := List.pairwise_cons.1 hu
    cases hg : (tt x.1).toL with
    | nil => exact absurd hg (hne x (by simp))
    | cons y g =>
      have hby : bkt y.2 = x.1 := hb x (by simp) y (by rw [hg]; simp)
      have e : ordL (x :: l) tt = y :: (g ++ ordL l tt) := by simp [ordL, hg]
      rw [e]
      simp only [nb]
      rw [if_neg (fun h => hp _ h x (by simp) hby.symm), hby, nb_same x.1 g _ (fun z hz => hb x (by simp) z (by rw [hg]; simp [hz])),
        nb_groups l (some x.1) hl (fun z hz => hne z (List.mem_cons_of_mem _ hz)) (fun z hz => hb z (List.mem_cons_of_mem _ hz)) (fun n hn z hz e1 => by
          have := hx z hz
          rw [cint_neg] at this
          cases hn
          omega)]
      simp only [List.length_cons]
      omega
theorem nb_ordL (h : Inv te tp tt) : nb none (ordL tp.toL tt) = tp.sz := by
  rw [nb_groups tp.toL none h.up h.ne (fun x hx y hy => ((h.mem x.1 y).1 ⟨x.2, hx, hy⟩).2) (fun n hn => by cases hn), T.sz_toL]

/-- Is a bucket over? -/
def dueB (now n : Int) : Bool := if n < 274877906944 then decide (4 * n + 3 ≤ now) else decide (1099511627776 ≤ now)
theorem dueB_mono {now n m : Int} (h : n ≤ m) (_hm : m ≤ 274877906944) (hd : dueB now m = true) : dueB now n = true := by
  unfold dueB at *
  split at hd <;> split <;> simp at * <;> omega
def dueL (now : Int) (y : List (Int × Int)) : List (Int × Int) := y.filter fun x => dueB now (bkt x.2)
theorem dueL_group {now n : Int} : ∀ (g : List (Int × Int)), (∀ x ∈ g, bkt x.2 = n) → dueL now g = if dueB now n = true then g else []
  | [], _ => by simp [dueL]
  | x :: g, h => by
    have hx := h x (by simp)
    have ih := dueL_group (now := now) g (fun y hy => h y (List.mem_cons_of_mem _ hy))
    unfold dueL at ih ⊢
    rw [List.filter_cons, hx, ih]
    split
    · rfl
    · rfl
theorem dueL_app (now : Int) (a b : List (Int × Int)) : dueL now (a ++ b) = dueL now a ++ dueL now b := by simp [dueL]
theorem along_due (now : Int) : ∀ (l : List (Int × β)), Up cint l → (∀ x ∈ l, x.1 ≤ 274877906944) → (∀ x ∈ l, ∀ y ∈ (tt x.1).toL, bkt y.2 = x.1) → ordL (l.takeWhile fun x => dueB now x.1) tt = dueL now (ordL l tt)
  | [], _, _, _ => by simp [ordL, dueL]
  | x :: l, hu, hm, hb => by
    obtain ⟨hx, hl⟩ := List.pairwise_cons.1 hu
    have e : ordL (x :: l) tt = (tt x.1).toL ++ ordL l tt := by simp [ordL]
    rw [e, dueL_app, dueL_group _ (hb x (by simp))]
    by_cases hd : dueB now x.1 = true
    · rw [List.takeWhile_cons_of_pos (p := fun x : Int × β => dueB now x.1) hd, if_pos hd, ← along_due now l hl (fun z hz => hm z (List.mem_cons_of_mem _ hz)) (fun z hz => hb z (List.mem_cons_of_mem _ hz))]
      simp [ordL]
    · rw [List.takeWhile_cons_of_neg (p := fun x : Int × β => dueB now x.1) hd, if_neg hd, List.nil_append]
      have : dueL now (ordL l tt) = [] := by
        unfold dueL ordL
        rw [List.filter_eq_nil_iff]
        intro y hy hdy
        obtain ⟨z, hz, hyz⟩ := List.mem_flatMap.1 hy
        have h1 := hx z hz
        rw [cint_neg] at h1
        rw [hb z (List.mem_cons_of_mem _ hz) y hyz] at hdy
        exact hd (dueB_mono (by omega) (hm z (List.mem_cons_of_mem _ hz)) hdy)
      rw [this]
      simp [ordL]
theorem Inv.bks (h : Inv te tp tt) : ∀ x ∈ tp.toL, 0 ≤ x.1 ∧ x.1 ≤ 274877906944 := by
  intro x hx
  cases hg : (tt x.1).toL with
  | nil => exact absurd hg (h.ne x hx)
  | cons y g =>
    obtain ⟨h1, h2⟩ := (h.mem x.1 y).1 ⟨x.2, hx, by rw [hg]; simp⟩
    have := h.ends y h1
    unfold bkt at h2
    omega
theorem Inv.due (h : Inv te tp tt) (now : Int) : ordL (tp.toL.takeWhile fun x => dueB now x.1) tt = dueL now (ordL tp.toL tt) :=
  along_due now tp.toL h.up (fun x hx => (h.bks x hx).2) (fun x hx y hy => ((h.mem x.1 y).1 ⟨x.2, hx, hy⟩).2)

theorem endOf_eq (h : Inv te tp tt) (k : Int) : endOf (ordL tp.toL tt) k = (T.get cint k te).getD 0 := by
  unfold endOf
  cases hf : (ordL tp.toL tt).find? (fun x => decide (x.1 = k)) with
  | some x =>
    have h1 := List.mem_of_find?_eq_some hf
    have h2 := List.find?_some hf
    have h3 : x.1 = k := by simpa using h2
    have := (get_iff h.ue k x.2).2 (by rw [← h3]; exact (mem_ordL h x).1 h1)
    rw [this]
    rfl
  | none =>
    cases hg : T.get cint k te with
    | none => rfl
    | some v =>
      have := (get_iff h.ue k v).1 hg
      have h1 := List.find?_eq_none.1 hf (k, v) ((mem_ordL h _).2 this)
      simp at h1
end
end Ex
