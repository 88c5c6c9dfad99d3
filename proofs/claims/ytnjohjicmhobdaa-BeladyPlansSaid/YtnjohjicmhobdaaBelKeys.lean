/-
  Belady: how many keys there are, and hits: plain (for BeladyServes).
  No condition.
-/
import Derived.Test.YtnjohjicmhobdaaBelRun
namespace Go.Proofs.Ytnjohjicmhobdaa.Bl
open Bel

/-- How many unlike keys the first requests have. -/
def dist (l : List Int) : Nat → Int
  | 0 => 0
  | i + 1 => dist l i + (if l.getD i 0 ∈ l.take i then 0 else 1)
theorem dist_mono (l : List Int) (i : Nat) : ∀ d, dist l i ≤ dist l (i + d)
  | 0 => Int.le_refl _
  | d + 1 => by
    have := dist_mono l i d
    rw [← Nat.add_assoc]
    simp only [dist]
    split <;> omega
theorem take_succ' {l : List Int} {i : Nat} (h : i < l.length) : l.take (i + 1) = l.take i ++ [l.getD i 0] := by
  rw [List.take_add_one, List.getElem?_eq_getElem h, getD_eq h]
  rfl
theorem dist_ge {l : List Int} : ∀ (i : Nat) (a : List Int), i ≤ l.length → a.Nodup → (∀ k ∈ a, k ∈ l.take i) → (a.length : Int) ≤ dist l i
  | 0, a, _, _, h => by
    have : a = [] := List.eq_nil_iff_forall_not_mem.2 (fun x hx => by have := h x hx; simp at this)
    rw [this]
    simp [dist]
  | i + 1, a, hi, hn, h => by
    have hil : i < l.length := by omega
    simp only [dist]
    by_cases hm : l.getD i 0 ∈ l.take i
    · rw [if_pos hm, Int.add_zero]
      refine dist_ge i a (by omega) hn (fun k hk => ?_)
      have := h k hk
      rw [take_succ' hil, List.mem_append, List.mem_singleton] at this
      rcases this with h | rfl
      · exact h
      · exact hm
    · rw [if_neg hm]
      have h1 := dist_ge (l := l) i (a.erase (l.getD i 0)) (by omega) (hn.erase _) (fun k hk => by
        obtain ⟨hne, hk⟩ := hn.mem_erase_iff.1 hk
        have := h k hk
        rw [take_succ' hil, List.mem_append, List.mem_singleton] at this
        rcases this with h | e
        · exact h
        · exact absurd e hne)
      have h2 : a.length ≤ (a.erase (l.getD i 0)).length + 1 := by
        by_cases ha : l.getD i 0 ∈ a
        · rw [List.length_erase_of_mem ha]; omega
        · rw [List.erase_of_not_mem ha]; omega
      omega

theorem NextL.sub {l : List Int} {r : Int} {i : Nat} {keys keys' : List Int} (h : NextL l r i keys keys') : ∀ k ∈ keys', k ∈ all l i keys := by
  rcases h with ⟨_, hp⟩ | ⟨_, y, hp, _⟩
  · exact fun k hk => hp.mem_iff.1 hk
  · exact fun k hk => hp.mem_iff.2 (List.mem_cons_of_mem _ hk)
theorem all_sub {l : List Int} {i : Nat} {keys : List Int} (k : Int) (h : k ∈ all l i keys) : k = l.getD i 0 ∨ k ∈ keys := by
  unfold all at h
  split at h
  · exact .inr h
  · exact List.mem_cons.1 h
theorem Pre.basic {l : List Int} {r : Int} (hr : 0 ≤ r) {i : Nat} {keys : List Int} {o : List Bool} (p : Pre l r i keys o) : keys.Nodup ∧ (keys.length : Int) ≤ r ∧ i ≤ l.length ∧ (∀ k ∈ keys, k ∈ l.take i) ∧ hits o ≤ i - dist l i := by
  induction p with
  | nil => exact ⟨List.nodup_nil, by simpa using hr, Nat.zero_le _, fun _ h => by simp at h, by simp [hits, dist]⟩
  | snoc i keys keys' o hp hi hn ih =>
    obtain ⟨h1, h2, h3, h4, h5⟩ := ih
    refine ⟨hn.next.nodup h1, hn.next.len h2, hi, fun k hk => ?_, ?_⟩
    · rw [take_succ' hi, List.mem_append, List.mem_singleton]
      rcases all_sub k (hn.sub k hk) with h | h
      · exact .inr h
      · exact .inl (h4 k h)
    · rw [hits_snoc]
      simp only [dist]
      by_cases hm : l.getD i 0 ∈ keys
      · rw [decide_eq_true hm, if_pos rfl, if_pos (h4 _ hm)]
        omega
      · rw [decide_eq_false hm, if_neg (by simp)]
        split <;> omega
/-- With room for all each request is a hit but the first one of each key. -/
theorem Pre.full {l : List Int} {r : Int} (hd : dist l l.length ≤ r) (hr : 0 ≤ r) {i : Nat} {keys : List Int} {o : List Bool} (p : Pre l r i keys o) : (∀ k ∈ l.take i, k ∈ keys) ∧ hits o = i - dist l i := by
  induction p with
  | nil => exact ⟨fun _ h => by simp at h, by simp [hits, dist]⟩
  | snoc i keys keys' o hp hi hn ih =>
    obtain ⟨h1, h2, h3, h4, h5⟩ := hp.basic hr
    obtain ⟨g1, g2⟩ := ih
    have hall : ((all l i keys).length : Int) ≤ dist l (i + 1) := dist_ge (i + 1) _ hi (all_nodup l i h1) (fun k hk => by
      rw [take_succ' hi, List.mem_append, List.mem_singleton]
      rcases all_sub k hk with h | h
      · exact .inr h
      · exact .inl (h4 k h))
    have hdm : dist l (i + 1) ≤ dist l l.length := by
      have := dist_mono l (i + 1) (l.length - (i + 1))
      rwa [show i + 1 + (l.length - (i + 1)) = l.length by omega] at this
    have hp' : keys'.Perm (all l i keys) := by
      rcases hn with ⟨_, h⟩ | ⟨h, _⟩
      · exact h
      · omega
    refine ⟨fun k hk => hp'.mem_iff.2 ?_, ?_⟩
    · rw [take_succ' hi, List.mem_append, List.mem_singleton] at hk
      unfold all
      split
      · rename_i hm
        rcases hk with h | rfl
        · exact g1 k h
        · exact hm
      · rcases hk with h | rfl
        · exact List.mem_cons_of_mem _ (g1 k h)
        · exact List.mem_cons_self
    · rw [hits_snoc, g2]
      simp only [dist]
      by_cases hm : l.getD i 0 ∈ keys
      · rw [decide_eq_true hm, if_pos rfl, if_pos (h4 _ hm)]
        omega
      · rw [decide_eq_false hm, if_neg (by simp), if_neg (fun h => hm (g1 _ h))]
        omega
/-- Without room there is no hit. -/
theorem Pre.none {l : List Int} {i : Nat} {keys : List Int} {o : List Bool} (p : Pre l 0 i keys o) : hits o = 0 := by
  induction p with
  | nil => simp [hits]
  | snoc i keys keys' o hp hi hn ih =>
    have h2 := (hp.basic (Int.le_refl _)).2.1
    have : keys = [] := List.eq_nil_of_length_eq_zero (by omega)
    subst this
    rw [hits_snoc, ih]
    simp
end Go.Proofs.Ytnjohjicmhobdaa.Bl
