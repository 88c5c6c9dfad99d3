/-
  PLAIN LAW: the cache that lets the last used one go has the most hits: counted by how many of what it keeps are used next by a time.
  No program in sight; no condition.
-/
namespace Bel

/-- When a key is used next, from a request on. -/
def nxt (l : List Int) (i : Nat) (k : Int) : Nat := i + (l.drop i).idxOf k

theorem nxt_step {l : List Int} {i : Nat} (h : i < l.length) (k : Int) : nxt l i k = if l[i] = k then i else nxt l (i + 1) k := by
  unfold nxt
  rw [List.drop_eq_getElem_cons h, List.idxOf_cons]
  by_cases e : l[i] = k
  · rw [if_pos e]; simp [e]
  · rw [if_neg e]
    have : (l[i] == k) = false := beq_eq_false_iff_ne.2 e
    simp [this]
    omega
theorem nxt_ge (l : List Int) (i : Nat) (k : Int) : i ≤ nxt l i k := by unfold nxt; omega
theorem nxt_le (l : List Int) (i : Nat) (k : Int) (h : i ≤ l.length) : nxt l i k ≤ l.length := by
  have : (l.drop i).idxOf k ≤ (l.drop i).length := List.idxOf_le_length
  unfold nxt
  simp at this
  omega
theorem nxt_at {l : List Int} {i : Nat} (h : i < l.length) (k : Int) : nxt l i k ≤ i ↔ l[i] = k := by
  rw [nxt_step h]
  split
  · rename_i e; simp [e]
  · rename_i e
    have := nxt_ge l (i + 1) k
    simp [e]; omega

/-- The hits of the cache, by what is counted. -/
def B (l : List Int) (r : Int) : Nat → Nat → (Nat → Int) → Int
  | 0, _, _ => 0
  | d + 1, i, c => (if 1 ≤ c i then 1 else 0) + B l r d (i + 1) (fun t => min r (c t - (if 1 ≤ c i then 1 else 0) + (if nxt l (i + 1) (l.getD i 0) ≤ t then 1 else 0)))

theorem B_mono (l : List Int) {r r' : Int} (hr : r ≤ r') : ∀ (d i : Nat) (k : Int) (c c' : Nat → Int), 0 ≤ k → (∀ t, c t ≤ c' t + k) → B l r d i c ≤ B l r' d i c' + k
  | 0, _, k, _, _, hk, _ => by simp [B]; omega
  | d + 1, i, k, c, c', hk, h => by
    have hi := h i
    simp only [B]
    by_cases h1 : 1 ≤ c i
    · by_cases h2 : 1 ≤ c' i
      · simp only [if_pos h1, if_pos h2]
        have := B_mono l hr d (i + 1) k (fun t => min r (c t - 1 + (if nxt l (i + 1) (l.getD i 0) ≤ t then 1 else 0))) (fun t => min r' (c' t - 1 + (if nxt l (i + 1) (l.getD i 0) ≤ t then 1 else 0))) hk (fun t => by
          have := h t
          try dsimp only
          split <;> omega)
        omega
      · simp only [if_pos h1, if_neg h2]
        have := B_mono l hr d (i + 1) (k - 1) (fun t => min r (c t - 1 + (if nxt l (i + 1) (l.getD i 0) ≤ t then 1 else 0))) (fun t => min r' (c' t - 0 + (if nxt l (i + 1) (l.getD i 0) ≤ t then 1 else 0))) (by omega) (fun t => by
          have := h t
          try dsimp only
          split <;> omega)
        omega
    · by_cases h2 : 1 ≤ c' i
      · simp only [if_neg h1, if_pos h2]
        have := B_mono l hr d (i + 1) (k + 1) (fun t => min r (c t - 0 + (if nxt l (i + 1) (l.getD i 0) ≤ t then 1 else 0))) (fun t => min r' (c' t - 1 + (if nxt l (i + 1) (l.getD i 0) ≤ t then 1 else 0))) (by omega) (fun t => by
          have := h t
          try dsimp only
          split <;> omega)
        omega
      · simp only [if_neg h1, if_neg h2]
        have := B_mono l hr d (i + 1) k (fun t => min r (c t - 0 + (if nxt l (i + 1) (l.getD i 0) ≤ t then 1 else 0))) (fun t => min r' (c' t - 0 + (if nxt l (i + 1) (l.getD i 0) ≤ t then 1 else 0))) hk (fun t => by
          have := h t
          try dsimp only
          split <;> omega)
        omega

/-- How many of some keys are used next by a time. -/
def cS (l : List Int) (i : Nat) (keys : List Int) (t : Nat) : Int := (keys.countP fun k => decide (nxt l i k ≤ t) : Nat)

theorem cS_cons (l : List Int) (i : Nat) (k : Int) (keys : List Int) (t : Nat) : cS l i (k :: keys) t = cS l i keys t + (if nxt l i k ≤ t then 1 else 0) := by
  unfold cS
  rw [List.countP_cons]
  split
  · rename_i h; simp at h; simp [h]
  · rename_i h; simp at h; simp; omega
theorem cS_le (l : List Int) (i : Nat) (keys : List Int) (t : Nat) : 0 ≤ cS l i keys t ∧ cS l i keys t ≤ keys.length := by
  unfold cS
  have : keys.countP (fun k => decide (nxt l i k ≤ t)) ≤ keys.length := List.countP_le_length
  omega
theorem cS_perm (l : List Int) (i : Nat) {a b : List Int} (h : a.Perm b) (t : Nat) : cS l i a t = cS l i b t := by
  unfold cS
  rw [h.countP_eq]

/-- Those that go on: of keys without the requested one nothing changes. -/
theorem cS_other {l : List Int} {i : Nat} (h : i < l.length) : ∀ (keys : List Int) (t : Nat), l[i] ∉ keys → cS l (i + 1) keys t = cS l i keys t
  | [], _, _ => rfl
  | k :: keys, t, hn => by
    have h1 : l[i] ≠ k := fun e => hn (by simp [e])
    have h2 : l[i] ∉ keys := fun e => hn (by simp [e])
    rw [cS_cons, cS_cons, cS_other h keys t h2, nxt_step h k, if_neg h1]

theorem cS_hit {l : List Int} {i : Nat} (h : i < l.length) (keys : List Int) (_hn : keys.Nodup) : (1 ≤ cS l i keys i) ↔ l[i] ∈ keys := by
  constructor
  · intro h1
    unfold cS at h1
    have h2 : 0 < keys.countP (fun k => decide (nxt l i k ≤ i)) := by omega
    obtain ⟨k, hk, hd⟩ := List.countP_pos_iff.1 h2
    have : l[i] = k := (nxt_at h k).1 (by simpa using hd)
    rw [this]; exact hk
  · intro h1
    have : 0 < keys.countP (fun k => decide (nxt l i k ≤ i)) := List.countP_pos_iff.2 ⟨l[i], h1, by simp; exact (nxt_at h _).2 rfl⟩
    unfold cS
    omega

/-- What is kept at most behind a request: all that was kept, and what was requested. -/
def all (l : List Int) (i : Nat) (keys : List Int) : List Int := if l.getD i 0 ∈ keys then keys else l.getD i 0 :: keys

theorem getD_eq {l : List Int} {i : Nat} (h : i < l.length) : l.getD i 0 = l[i] := by simp [List.getD_eq_getElem?_getD, h]

theorem all_nodup (l : List Int) (i : Nat) {keys : List Int} (hn : keys.Nodup) : (all l i keys).Nodup := by
  unfold all
  split
  · exact hn
  · rename_i h; exact List.nodup_cons.2 ⟨h, hn⟩

theorem cS_all {l : List Int} {i : Nat} (h : i < l.length) (keys : List Int) (hn : keys.Nodup) (t : Nat) (ht : i ≤ t) :
    cS l (i + 1) (all l i keys) t = cS l i keys t - (if 1 ≤ cS l i keys i then 1 else 0) + (if nxt l (i + 1) (l.getD i 0) ≤ t then 1 else 0) := by
  unfold all
  rw [getD_eq h]
  by_cases hm : l[i] ∈ keys
  · have hh := (cS_hit h keys hn).2 hm
    rw [if_pos hm, if_pos hh]
    have hp := List.perm_cons_erase hm
    have hne : l[i] ∉ keys.erase l[i] := by
      intro hx
      have := hn.erase l[i]
      exact (List.Nodup.not_mem_erase hn) hx
    rw [cS_perm l (i + 1) hp, cS_perm l i hp, cS_cons, cS_cons, cS_other h _ _ hne]
    have h2 : nxt l i l[i] ≤ t := by rw [nxt_step h, if_pos rfl]; exact ht
    rw [if_pos h2]
    omega
  · have hh : ¬ 1 ≤ cS l i keys i := fun x => hm ((cS_hit h keys hn).1 x)
    rw [if_neg hm, if_neg hh, cS_cons, cS_other h _ _ hm]
    omega

/-- B looks at times to come alone. -/
theorem B_congr (l : List Int) (r : Int) : ∀ (d i : Nat) (c c' : Nat → Int), (∀ t, i ≤ t → c t = c' t) → B l r d i c = B l r d i c'
  | 0, _, _, _, _ => rfl
  | d + 1, i, c, c', h => by
    simp only [B]
    rw [h i (Nat.le_refl _)]
    congr 1
    exact B_congr l r d (i + 1) _ _ (fun t ht => by rw [h t (by omega)])

theorem B_mono' (l : List Int) {r r' : Int} (hr : r ≤ r') (d i : Nat) (c c' : Nat → Int) (h : ∀ t, i ≤ t → c t ≤ c' t) : B l r d i c ≤ B l r' d i c' := by
  have e1 : B l r d i c = B l r d i (fun t => if i ≤ t then c t else 0) := B_congr l r d i _ _ (fun t ht => by simp [ht])
  have e2 : B l r' d i c' = B l r' d i (fun t => if i ≤ t then c' t else 0) := B_congr l r' d i _ _ (fun t ht => by simp [ht])
  rw [e1, e2]
  have := B_mono l hr d i 0 (fun t => if i ≤ t then c t else 0) (fun t => if i ≤ t then c' t else 0) (Int.le_refl _) (fun t => by
    try dsimp only
    split
    · rename_i ht; have := h t ht; omega
    · omega)
  omega

theorem countP_sub {p : Int → Bool} : ∀ (a b : List Int), a.Nodup → (∀ x ∈ a, x ∈ b) → a.countP p ≤ b.countP p
  | [], _, _, _ => by simp
  | x :: a, b, hn, h => by
    obtain ⟨hx, ha⟩ := List.nodup_cons.1 hn
    have hb := List.perm_cons_erase (h x (by simp))
    rw [hb.countP_eq, List.countP_cons, List.countP_cons]
    have := countP_sub (p := p) a (b.erase x) ha (fun y hy => by
      have h1 := h y (by simp [hy])
      have h2 : y ≠ x := fun e => hx (e ▸ hy)
      exact (List.mem_erase_of_ne h2).2 h1)
    omega

/-- A way to keep keys, and its hits. -/
inductive Str (l : List Int) (r : Int) : Nat → Nat → List Int → Int → Prop
  | done (i : Nat) (keys : List Int) : Str l r 0 i keys 0
  | step (d i : Nat) (keys keys' : List Int) (h : Int) (hi : i < l.length) (hn : keys'.Nodup) (hs : ∀ k ∈ keys', k ∈ all l i keys) (hr : (keys'.length : Int) ≤ r) (hh : Str l r d (i + 1) keys' h) :
      Str l r (d + 1) i keys ((if l.getD i 0 ∈ keys then 1 else 0) + h)

theorem Str.le {l : List Int} {r : Int} {d i : Nat} {keys : List Int} {h : Int} (s : Str l r d i keys h) : keys.Nodup → h ≤ B l r d i (cS l i keys) := by
  induction s with
  | done i keys => intro _; simp [B]
  | step d i keys keys' h hi hn' hs hr hh ih =>
    intro hn
    have ih' := ih hn'
    simp only [B]
    have e : (if l.getD i 0 ∈ keys then (1 : Int) else 0) = (if 1 ≤ cS l i keys i then 1 else 0) := by
      rw [getD_eq hi]
      by_cases hm : l[i] ∈ keys
      · rw [if_pos hm, if_pos ((cS_hit hi keys hn).2 hm)]
      · rw [if_neg hm, if_neg (fun x => hm ((cS_hit hi keys hn).1 x))]
    rw [e]
    have := B_mono' l (Int.le_refl r) d (i + 1) (cS l (i + 1) keys') (fun t => min r (cS l i keys t - (if 1 ≤ cS l i keys i then 1 else 0) + (if nxt l (i + 1) (l.getD i 0) ≤ t then 1 else 0))) (fun t ht => by
      try dsimp only
      rw [← cS_all hi keys hn t (by omega)]
      have h1 := countP_sub (p := fun k => decide (nxt l (i + 1) k ≤ t)) keys' (all l i keys) hn' hs
      have h2 := (cS_le l (i + 1) keys' t).2
      unfold cS at *
      omega)
    omega

/-- Behind a request: the last used one goes, if there is no room. -/
def Next (l : List Int) (r : Int) (i : Nat) (keys keys' : List Int) : Prop :=
  (((all l i keys).length : Int) ≤ r ∧ keys'.Perm (all l i keys)) ∨
  (r < ((all l i keys).length : Int) ∧ ∃ y, (all l i keys).Perm (y :: keys') ∧ ∀ x ∈ all l i keys, nxt l (i + 1) x ≤ nxt l (i + 1) y)

theorem Next.nodup {l : List Int} {r : Int} {i : Nat} {keys keys' : List Int} (h : Next l r i keys keys') (hn : keys.Nodup) : keys'.Nodup := by
  have ha := all_nodup l i hn
  rcases h with ⟨_, hp⟩ | ⟨_, y, hp, _⟩
  · exact hp.nodup_iff.2 ha
  · exact (List.nodup_cons.1 (hp.nodup_iff.1 ha)).2

theorem Next.count {l : List Int} {r : Int} {i : Nat} {keys keys' : List Int} (hi : i < l.length) (h : Next l r i keys keys') (hn : keys.Nodup) (hr : (keys.length : Int) ≤ r) (t : Nat) (ht : i ≤ t) :
    cS l (i + 1) keys' t = min r (cS l i keys t - (if 1 ≤ cS l i keys i then 1 else 0) + (if nxt l (i + 1) (l.getD i 0) ≤ t then 1 else 0)) := by
  rw [← cS_all hi keys hn t ht]
  have hl := (cS_le l (i + 1) (all l i keys) t).2
  rcases h with ⟨hle, hp⟩ | ⟨hlt, y, hp, hy⟩
  · rw [cS_perm l (i + 1) hp]
    omega
  · have hlen : ((all l i keys).length : Int) ≤ keys.length + 1 := by
      unfold all
      split
      · omega
      · simp
    have hlen2 : (all l i keys).length = keys'.length + 1 := by rw [hp.length_eq]; rfl
    rw [cS_perm l (i + 1) hp, cS_cons]
    have h2 := (cS_le l (i + 1) keys' t).2
    split
    · rename_i hyt
      have hall : cS l (i + 1) keys' t = keys'.length := by
        unfold cS
        have : keys'.countP (fun k => decide (nxt l (i + 1) k ≤ t)) = keys'.length := by
          rw [List.countP_eq_length]
          intro x hx
          have := hy x (hp.mem_iff.2 (by simp [hx]))
          simp; omega
        rw [this]
      omega
    · omega

/-- A run of the cache that lets the last used one go. -/
inductive Run (l : List Int) (r : Int) : Nat → Nat → List Int → Int → Prop
  | done (i : Nat) (keys : List Int) : Run l r 0 i keys 0
  | step (d i : Nat) (keys keys' : List Int) (h : Int) (hi : i < l.length) (hx : Next l r i keys keys') (hh : Run l r d (i + 1) keys' h) :
      Run l r (d + 1) i keys ((if l.getD i 0 ∈ keys then 1 else 0) + h)

theorem Next.len {l : List Int} {r : Int} {i : Nat} {keys keys' : List Int} (h : Next l r i keys keys') (hr : (keys.length : Int) ≤ r) : (keys'.length : Int) ≤ r := by
  rcases h with ⟨hle, hp⟩ | ⟨hlt, y, hp, hy⟩
  · rw [hp.length_eq]; exact hle
  · have hlen : ((all l i keys).length : Int) ≤ keys.length + 1 := by
      unfold all
      split
      · omega
      · simp
    have hlen2 : (all l i keys).length = keys'.length + 1 := by rw [hp.length_eq]; rfl
    omega

theorem Run.eq {l : List Int} {r : Int} {d i : Nat} {keys : List Int} {h : Int} (s : Run l r d i keys h) : keys.Nodup → (keys.length : Int) ≤ r → h = B l r d i (cS l i keys) := by
  induction s with
  | done i keys => intro _ _; simp [B]
  | step d i keys keys' h hi hx hh ih =>
    intro hn hr
    have ih' := ih (hx.nodup hn) (hx.len hr)
    simp only [B]
    have e : (if l.getD i 0 ∈ keys then (1 : Int) else 0) = (if 1 ≤ cS l i keys i then 1 else 0) := by
      rw [getD_eq hi]
      by_cases hm : l[i] ∈ keys
      · rw [if_pos hm, if_pos ((cS_hit hi keys hn).2 hm)]
      · rw [if_neg hm, if_neg (fun x => hm ((cS_hit hi keys hn).1 x))]
    rw [e, ih']
    congr 1
    exact B_congr l r d (i + 1) _ _ (fun t ht => hx.count hi hn hr t (by omega))
end Bel
