/-
  Belady: whatever is chosen, no cache has more hits: plain (for BeladyServes).
  No program in sight; no condition.
-/
import Derived.Test.YtnjohjicmhobdaaBelBest
namespace Bel

/-- A key put into its place. -/
def insS (ks : List Int) (x : Int) : List Int := ks.take (ks.countP (· < x)) ++ x :: ks.drop (ks.countP (· < x))
theorem insS_perm (ks : List Int) (x : Int) : (insS ks x).Perm (x :: ks) := by
  unfold insS
  have h : (ks.take (ks.countP (· < x)) ++ x :: ks.drop (ks.countP (· < x))).Perm (x :: (ks.take (ks.countP (· < x)) ++ ks.drop (ks.countP (· < x)))) := List.perm_middle
  rwa [List.take_append_drop] at h
/-- A key at a place let go. -/
def cut (ks : List Int) (i : Nat) : List Int := ks.take i ++ ks.drop (i + 1)
theorem cut_eq (ks : List Int) (i : Nat) : cut ks i = ks.eraseIdx i := (List.eraseIdx_eq_take_drop_succ ks i).symm

/-- The keys behind a request that isn't there. -/
def chosen (r : Int) (c : Int) (keys : List Int) (x : Int) : List Int :=
  if c = r then keys else if r ≤ keys.length then insS (cut keys c.toNat) x else insS keys x
/-- The hits of the cache by choices. -/
def srv (l : List Int) (r : Int) (ch : Nat → Int) : Nat → Nat → List Int → Int
  | 0, _, _ => 0
  | d + 1, i, keys => if l.getD i 0 ∈ keys then 1 + srv l r ch d (i + 1) keys else srv l r ch d (i + 1) (chosen r (ch i) keys (l.getD i 0))

theorem chosen_ok {r c : Int} {keys : List Int} {x : Int} (hc : 0 ≤ c ∧ c ≤ r) (hn : keys.Nodup) (hr : (keys.length : Int) ≤ r) (hx : x ∉ keys) :
    (chosen r c keys x).Nodup ∧ ((chosen r c keys x).length : Int) ≤ r ∧ ∀ k ∈ chosen r c keys x, k ∈ x :: keys := by
  unfold chosen
  by_cases h1 : c = r
  · rw [if_pos h1]
    exact ⟨hn, hr, fun k hk => List.mem_cons_of_mem _ hk⟩
  · rw [if_neg h1]
    by_cases h2 : r ≤ keys.length
    · rw [if_pos h2, cut_eq]
      have hs : (keys.eraseIdx c.toNat).Sublist keys := List.eraseIdx_sublist _ _
      have hp := insS_perm (keys.eraseIdx c.toNat) x
      have hl : (keys.eraseIdx c.toNat).length = keys.length - 1 := by rw [List.length_eraseIdx, if_pos (by omega)]
      refine ⟨hp.nodup_iff.2 (List.nodup_cons.2 ⟨fun h => hx (hs.subset h), hn.sublist hs⟩), ?_, fun k hk => ?_⟩
      · rw [hp.length_eq, List.length_cons, hl]
        omega
      · rcases List.mem_cons.1 (hp.mem_iff.1 hk) with rfl | h
        · exact List.mem_cons_self
        · exact List.mem_cons_of_mem _ (hs.subset h)
    · rw [if_neg h2]
      have hp := insS_perm keys x
      refine ⟨hp.nodup_iff.2 (List.nodup_cons.2 ⟨hx, hn⟩), ?_, fun k hk => hp.mem_iff.1 hk⟩
      rw [hp.length_eq, List.length_cons]
      omega

theorem srv_str (l : List Int) (r : Int) (ch : Nat → Int) (hch : ∀ i, 0 ≤ ch i ∧ ch i ≤ r) : ∀ (d i : Nat) (keys : List Int), i + d = l.length → keys.Nodup → (keys.length : Int) ≤ r → Str l r d i keys (srv l r ch d i keys)
  | 0, i, keys, _, _, _ => .done i keys
  | d + 1, i, keys, hd, hn, hr => by
    simp only [srv]
    by_cases hm : l.getD i 0 ∈ keys
    · rw [if_pos hm]
      have := Str.step d i keys keys _ (by omega) hn (fun k hk => by rw [all_mem hm]; exact hk) hr (srv_str l r ch hch d (i + 1) keys (by omega) hn hr)
      rwa [if_pos hm] at this
    · rw [if_neg hm]
      obtain ⟨h1, h2, h3⟩ := chosen_ok (hch i) hn hr hm
      have := Str.step d i keys _ _ (by omega) h1 (fun k hk => by rw [all_new hm]; exact h3 k hk) h2 (srv_str l r ch hch d (i + 1) _ (by omega) h1 h2)
      rwa [if_neg hm, Int.zero_add] at this

/-- By whatever choices no cache has more hits. -/
theorem srv_le (l : List Int) (r : Int) (hr : 0 ≤ r) (ch : Nat → Int) (hch : ∀ i, 0 ≤ ch i ∧ ch i ≤ r) : srv l r ch l.length 0 [] ≤ B l r l.length 0 (fun _ => 0) := by
  have h := (srv_str l r ch hch l.length 0 [] (by omega) List.nodup_nil (by simpa using hr)).le List.nodup_nil
  have e : B l r l.length 0 (cS l 0 []) = B l r l.length 0 (fun _ => 0) := B_congr l r _ _ _ _ (fun t _ => rfl)
  omega
/-- With more room there are as many at least. -/
theorem B_room (l : List Int) {r r' : Int} (h : r ≤ r') : B l r l.length 0 (fun _ => 0) ≤ B l r' l.length 0 (fun _ => 0) := B_mono' l h _ _ _ _ (fun _ _ => Int.le_refl _)
end Bel
