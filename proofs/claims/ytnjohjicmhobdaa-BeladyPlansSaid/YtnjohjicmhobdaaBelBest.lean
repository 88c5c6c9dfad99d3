/-
  PLAIN LAW: the most hits there can be, found by trying all, are those of the cache that lets the last used one go.
  No program in sight; no condition.
-/
import Derived.Test.YtnjohjicmhobdaaBelT
namespace Bel

/-- The greatest of some numbers, from one on. -/
def maxes (f : Nat → Int) : Nat → Int → Int
  | 0, b => b
  | n + 1, b => max (maxes f n b) (f n)
theorem maxes_ge (f : Nat → Int) (b : Int) : ∀ n, b ≤ maxes f n b ∧ ∀ j, j < n → f j ≤ maxes f n b
  | 0 => ⟨Int.le_refl _, fun j h => absurd h (by omega)⟩
  | n + 1 => by
    obtain ⟨h1, h2⟩ := maxes_ge f b n
    refine ⟨by simp only [maxes]; omega, fun j hj => ?_⟩
    simp only [maxes]
    by_cases e : j = n
    · subst e; omega
    · have := h2 j (by omega); omega
theorem maxes_is (f : Nat → Int) (b : Int) : ∀ n, maxes f n b = b ∨ ∃ j, j < n ∧ maxes f n b = f j
  | 0 => .inl rfl
  | n + 1 => by
    simp only [maxes]
    by_cases h : f n ≤ maxes f n b
    · rw [Int.max_eq_left h]
      rcases maxes_is f b n with h1 | ⟨j, hj, h1⟩
      · exact .inl h1
      · exact .inr ⟨j, by omega, h1⟩
    · rw [Int.max_eq_right (by omega)]
      exact .inr ⟨n, by omega, rfl⟩

/-- The keys with one let go, and the requested one behind. -/
def swap (keys : List Int) (k : Nat) (x : Int) : List Int := keys.take k ++ keys.drop (k + 1) ++ [x]

def best (l : List Int) (r : Int) : Nat → Nat → List Int → Int
  | 0, _, _ => 0
  | d + 1, i, keys =>
    if l.getD i 0 ∈ keys then 1 + best l r d (i + 1) keys
    else if (keys.length : Int) < r then max (best l r d (i + 1) keys) (best l r d (i + 1) (keys ++ [l.getD i 0]))
    else if (keys.length : Int) = r then maxes (fun k => best l r d (i + 1) (swap keys k (l.getD i 0))) keys.length (best l r d (i + 1) keys)
    else best l r d (i + 1) keys

theorem swap_perm {keys : List Int} {k : Nat} (h : k < keys.length) (x : Int) : (x :: keys).Perm (keys[k] :: swap keys k x) := by
  unfold swap
  have e : keys = keys.take k ++ keys[k] :: keys.drop (k + 1) := by rw [← List.drop_eq_getElem_cons h, List.take_append_drop]
  have h1 : (keys.take k ++ keys[k] :: keys.drop (k + 1)).Perm (keys[k] :: (keys.take k ++ keys.drop (k + 1))) := List.perm_middle
  have h2 : keys.Perm (keys[k] :: (keys.take k ++ keys.drop (k + 1))) := by
    have := h1
    rw [← e] at this
    exact this
  have h3 : (x :: keys).Perm (x :: keys[k] :: (keys.take k ++ keys.drop (k + 1))) := h2.cons x
  refine h3.trans ?_
  refine (List.Perm.swap _ _ _).trans ?_
  refine List.Perm.cons _ ?_
  exact (List.perm_append_singleton x _).symm

theorem all_mem {l : List Int} {i : Nat} {keys : List Int} (h : l.getD i 0 ∈ keys) : all l i keys = keys := by unfold all; rw [if_pos h]
theorem all_new {l : List Int} {i : Nat} {keys : List Int} (h : l.getD i 0 ∉ keys) : all l i keys = l.getD i 0 :: keys := by unfold all; rw [if_neg h]

theorem best_str (l : List Int) (r : Int) : ∀ (d i : Nat) (keys : List Int), i + d = l.length → keys.Nodup → (keys.length : Int) ≤ r → Str l r d i keys (best l r d i keys)
  | 0, i, keys, _, _, _ => .done i keys
  | d + 1, i, keys, hd, hn, hr => by
    simp only [best]
    by_cases hm : l.getD i 0 ∈ keys
    · rw [if_pos hm]
      have := Str.step d i keys keys _ (by omega) hn (fun k hk => by rw [all_mem hm]; exact hk) hr (best_str l r d (i + 1) keys (by omega) hn hr)
      rwa [if_pos hm] at this
    · rw [if_neg hm]
      have stay := Str.step d i keys keys _ (by omega) hn (fun k hk => by rw [all_new hm]; simp [hk]) hr (best_str l r d (i + 1) keys (by omega) hn hr)
      rw [if_neg hm, Int.zero_add] at stay
      by_cases h1 : (keys.length : Int) < r
      · rw [if_pos h1]
        by_cases h2 : best l r d (i + 1) (keys ++ [l.getD i 0]) ≤ best l r d (i + 1) keys
        · rw [Int.max_eq_left h2]; exact stay
        · rw [Int.max_eq_right (by omega)]
          have hn' : (keys ++ [l.getD i 0]).Nodup := (List.perm_append_singleton _ _).nodup_iff.2 (List.nodup_cons.2 ⟨hm, hn⟩)
          have := Str.step d i keys (keys ++ [l.getD i 0]) _ (by omega) hn' (fun k hk => by rw [all_new hm]; simp at hk ⊢; rcases hk with h | h <;> simp [h]) (by simp; omega) (best_str l r d (i + 1) _ (by omega) hn' (by simp; omega))
          rwa [if_neg hm, Int.zero_add] at this
      · rw [if_neg h1]
        by_cases h2 : (keys.length : Int) = r
        · rw [if_pos h2]
          rcases maxes_is (fun k => best l r d (i + 1) (swap keys k (l.getD i 0))) (best l r d (i + 1) keys) keys.length with h3 | ⟨k, hk, h3⟩
          · rw [h3]; exact stay
          · rw [h3]
            have hp := swap_perm hk (l.getD i 0)
            have hnx : (l.getD i 0 :: keys).Nodup := List.nodup_cons.2 ⟨hm, hn⟩
            have hn' : (swap keys k (l.getD i 0)).Nodup := (List.nodup_cons.1 (hp.nodup_iff.1 hnx)).2
            have hl : (swap keys k (l.getD i 0)).length = keys.length := by
              have := hp.length_eq
              rw [List.length_cons, List.length_cons] at this
              omega
            have := Str.step d i keys (swap keys k (l.getD i 0)) _ (by omega) hn' (fun x hx => by rw [all_new hm]; exact hp.mem_iff.2 (List.mem_cons_of_mem _ hx)) (by rw [hl]; exact hr) (best_str l r d (i + 1) _ (by omega) hn' (by rw [hl]; exact hr))
            rwa [if_neg hm, Int.zero_add] at this
        · rw [if_neg h2]; exact stay

theorem last_used (f : Int → Nat) : ∀ (x : Int) (keys : List Int), ∃ y ∈ x :: keys, ∀ z ∈ x :: keys, f z ≤ f y
  | x, [] => ⟨x, by simp, fun z hz => by simp at hz; rw [hz]; exact Nat.le_refl _⟩
  | x, k :: keys => by
    obtain ⟨y, hy, h⟩ := last_used f k keys
    by_cases hxy : f x ≤ f y
    · exact ⟨y, by simp at hy ⊢; exact .inr hy, fun z hz => by
        rcases List.mem_cons.1 hz with rfl | hz
        · exact hxy
        · exact h z hz⟩
    · exact ⟨x, by simp, fun z hz => by
        rcases List.mem_cons.1 hz with rfl | hz
        · exact Nat.le_refl _
        · have := h z hz; omega⟩

theorem best_ge (l : List Int) (r : Int) : ∀ (d i : Nat) (keys : List Int), i + d = l.length → keys.Nodup → (keys.length : Int) ≤ r → B l r d i (cS l i keys) ≤ best l r d i keys
  | 0, i, keys, _, _, _ => by simp [B, best]
  | d + 1, i, keys, hd, hn, hr => by
    have hi : i < l.length := by omega
    have step : ∀ keys', Next l r i keys keys' → B l r (d + 1) i (cS l i keys) ≤ (if l.getD i 0 ∈ keys then 1 else 0) + best l r d (i + 1) keys' := by
      intro keys' hx
      have ih := best_ge l r d (i + 1) keys' (by omega) (hx.nodup hn) (hx.len hr)
      have e : (if 1 ≤ cS l i keys i then (1 : Int) else 0) = (if l.getD i 0 ∈ keys then 1 else 0) := by
        rw [getD_eq hi]
        by_cases hm : l[i] ∈ keys
        · rw [if_pos hm, if_pos ((cS_hit hi keys hn).2 hm)]
        · rw [if_neg hm, if_neg (fun x => hm ((cS_hit hi keys hn).1 x))]
      have e2 : B l r d (i + 1) (cS l (i + 1) keys') = B l r d (i + 1) (fun t => min r (cS l i keys t - (if 1 ≤ cS l i keys i then 1 else 0) + (if nxt l (i + 1) (l.getD i 0) ≤ t then 1 else 0))) :=
        B_congr l r d (i + 1) _ _ (fun t ht => hx.count hi hn hr t (by omega))
      simp only [B]
      rw [← e2, e]
      omega
    simp only [best]
    by_cases hm : l.getD i 0 ∈ keys
    · rw [if_pos hm]
      have := step keys (.inl ⟨by rw [all_mem hm]; exact hr, by rw [all_mem hm]⟩)
      rwa [if_pos hm] at this
    · rw [if_neg hm]
      by_cases h1 : (keys.length : Int) < r
      · rw [if_pos h1]
        have := step (keys ++ [l.getD i 0]) (.inl ⟨by rw [all_new hm]; simp; omega, by rw [all_new hm]; exact List.perm_append_singleton _ _⟩)
        rw [if_neg hm] at this
        omega
      · have h2 : (keys.length : Int) = r := by omega
        rw [if_neg h1, if_pos h2]
        obtain ⟨m1, m2⟩ := maxes_ge (fun k => best l r d (i + 1) (swap keys k (l.getD i 0))) (best l r d (i + 1) keys) keys.length
        obtain ⟨y, hy, hmax⟩ := last_used (nxt l (i + 1)) (l.getD i 0) keys
        rcases List.mem_cons.1 hy with rfl | hy
        · have := step keys (.inr ⟨by rw [all_new hm]; simp; omega, l.getD i 0, by rw [all_new hm], fun x hx => hmax x (by rw [all_new hm] at hx; exact hx)⟩)
          rw [if_neg hm] at this
          omega
        · obtain ⟨k, hk, rfl⟩ := List.mem_iff_getElem.1 hy
          have := step (swap keys k (l.getD i 0)) (.inr ⟨by rw [all_new hm]; simp; omega, keys[k], by rw [all_new hm]; exact swap_perm hk _, fun x hx => hmax x (by rw [all_new hm] at hx; exact hx)⟩)
          rw [if_neg hm] at this
          have := m2 k hk
          try dsimp only at this
          omega

/-- Nobody does better. -/
theorem best_eq (l : List Int) (r : Int) (hr : 0 ≤ r) : best l r l.length 0 [] = B l r l.length 0 (fun _ => 0) := by
  have e : B l r l.length 0 (cS l 0 []) = B l r l.length 0 (fun _ => 0) := B_congr l r _ _ _ _ (fun t _ => rfl)
  have h1 := (best_str l r l.length 0 [] (by omega) List.nodup_nil (by simpa using hr)).le List.nodup_nil
  have h2 := best_ge l r l.length 0 [] (by omega) List.nodup_nil (by simpa using hr)
  rw [e] at h1 h2
  omega
end Bel
