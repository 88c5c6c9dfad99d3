/-
  PLAIN LAW: a lock that is held by several who read, in rising order, or by one who writes.
  No program in sight; no condition.
-/
namespace Lk

/-- Who holds a lock. -/
structure L where
  rs : List Int
  wr : Option Int

def L.holds (l : L) (id : Int) : Bool := l.rs.contains id || decide (l.wr = some id)
def L.idle (l : L) : Bool := l.rs.isEmpty && l.wr.isNone
/-- Where somebody stands, or would stand. -/
def cnt (rs : List Int) (id : Int) : Nat := rs.countP (· < id)
def insI (rs : List Int) (id : Int) : List Int := rs.take (cnt rs id) ++ id :: rs.drop (cnt rs id)
def delI (rs : List Int) (id : Int) : List Int := rs.take (cnt rs id) ++ rs.drop (cnt rs id + 1)
def L.mayRead (l : L) (id : Int) : Bool := l.wr.isNone && !l.holds id
def L.mayWrite (l : L) (id : Int) : Bool := l.idle && !l.holds id
def L.read (l : L) (id : Int) : L := if l.mayRead id = true then { l with rs := insI l.rs id } else l
def L.write (l : L) (id : Int) : L := if l.mayWrite id = true then { l with wr := some id } else l
def L.free (l : L) (id : Int) : L := if l.holds id = true then (if l.wr.isSome = true then { l with wr := none } else { l with rs := delI l.rs id }) else l

/-- What holds of a lock at any time. -/
structure Inv (l : L) : Prop where
  up : l.rs.Pairwise (· < ·)
  one : l.wr.isSome = true → l.rs = []

theorem Inv.nil : Inv ⟨[], none⟩ := ⟨List.Pairwise.nil, fun _ => rfl⟩

theorem cnt_le (rs : List Int) (id : Int) : cnt rs id ≤ rs.length := List.countP_le_length

theorem cnt_cons (x : Int) (rs : List Int) (id : Int) : cnt (x :: rs) id = cnt rs id + (if x < id then 1 else 0) := by
  unfold cnt
  rw [List.countP_cons]
  simp

theorem cnt_zero {rs : List Int} {id : Int} (h : ∀ x ∈ rs, id ≤ x) : cnt rs id = 0 := by
  unfold cnt
  rw [List.countP_eq_zero]
  intro x hx
  have := h x hx
  simp
  omega

/-- Of a rising row those below stand ahead. -/
theorem split_at : ∀ (rs : List Int) (id : Int), rs.Pairwise (· < ·) → (∀ x ∈ rs.take (cnt rs id), x < id) ∧ (∀ x ∈ rs.drop (cnt rs id), id ≤ x)
  | [], id, _ => by simp [cnt]
  | x :: rs, id, h => by
    obtain ⟨hx, hr⟩ := List.pairwise_cons.1 h
    rw [cnt_cons]
    by_cases hlt : x < id
    · rw [if_pos hlt]
      obtain ⟨h1, h2⟩ := split_at rs id hr
      refine ⟨fun y hy => ?_, fun y hy => ?_⟩
      · rw [List.take_succ_cons] at hy
        rcases List.mem_cons.1 hy with rfl | hy
        · exact hlt
        · exact h1 y hy
      · rw [List.drop_succ_cons] at hy
        exact h2 y hy
    · rw [if_neg hlt]
      have hz : cnt rs id = 0 := cnt_zero (fun y hy => by have := hx y hy; omega)
      rw [hz]
      refine ⟨fun y hy => by simp at hy, fun y hy => ?_⟩
      simp at hy
      rcases hy with rfl | hy
      · omega
      · have := hx y hy; omega

theorem mem_insI {rs : List Int} {id x : Int} : x ∈ insI rs id ↔ x = id ∨ x ∈ rs := by
  unfold insI
  constructor
  · intro h
    rcases List.mem_append.1 h with h | h
    · exact .inr (List.mem_of_mem_take h)
    · rcases List.mem_cons.1 h with h | h
      · exact .inl h
      · exact .inr (List.mem_of_mem_drop h)
  · intro h
    rcases h with rfl | h
    · simp
    · rw [← List.take_append_drop (cnt rs id) rs] at h
      rcases List.mem_append.1 h with h | h
      · simp [h]
      · simp [h]

theorem up_insI {rs : List Int} {id : Int} (h : rs.Pairwise (· < ·)) (hn : id ∉ rs) : (insI rs id).Pairwise (· < ·) := by
  obtain ⟨h1, h2⟩ := split_at rs id h
  have h' := h
  rw [← List.take_append_drop (cnt rs id) rs] at h'
  obtain ⟨ha, hb, hc⟩ := List.pairwise_append.1 h'
  unfold insI
  refine List.pairwise_append.2 ⟨ha, List.pairwise_cons.2 ⟨fun x hx => ?_, hb⟩, fun x hx y hy => ?_⟩
  · have := h2 x hx
    have hne : x ≠ id := fun e => hn (e ▸ List.mem_of_mem_drop hx)
    omega
  · rcases List.mem_cons.1 hy with rfl | hy
    · exact h1 x hx
    · exact hc x hx y hy

theorem drop_mem {rs : List Int} {id : Int} (h : rs.Pairwise (· < ·)) (hm : id ∈ rs) : ∃ r, rs.drop (cnt rs id) = id :: r := by
  obtain ⟨h1, h2⟩ := split_at rs id h
  have hm' := hm
  rw [← List.take_append_drop (cnt rs id) rs] at hm'
  have hd : id ∈ rs.drop (cnt rs id) := by
    rcases List.mem_append.1 hm' with h | h
    · exact absurd (h1 _ h) (by omega)
    · exact h
  cases hr : rs.drop (cnt rs id) with
  | nil => rw [hr] at hd; cases hd
  | cons y r =>
    rw [hr] at hd h2
    have hp : (y :: r).Pairwise (· < ·) := by rw [← hr]; exact List.Pairwise.sublist (List.drop_sublist _ _) h
    obtain ⟨hy, _⟩ := List.pairwise_cons.1 hp
    rcases List.mem_cons.1 hd with rfl | hd
    · exact ⟨r, rfl⟩
    · have a := hy id hd
      have b := h2 y (by simp)
      omega

theorem cnt_lt {rs : List Int} {id : Int} (h : rs.Pairwise (· < ·)) (hm : id ∈ rs) : cnt rs id < rs.length := by
  obtain ⟨r, hr⟩ := drop_mem h hm
  have : (rs.drop (cnt rs id)).length = (id :: r).length := by rw [hr]
  simp at this
  omega

theorem mem_delI {rs : List Int} {id x : Int} (h : rs.Pairwise (· < ·)) (hm : id ∈ rs) : x ∈ delI rs id ↔ x ∈ rs ∧ x ≠ id := by
  obtain ⟨r, hr⟩ := drop_mem h hm
  have hr' : rs.drop (cnt rs id + 1) = r := by
    have : (rs.drop (cnt rs id)).drop 1 = r := by rw [hr]; rfl
    rwa [List.drop_drop] at this
  obtain ⟨h1, _⟩ := split_at rs id h
  have e : rs = rs.take (cnt rs id) ++ id :: r := by rw [← hr, List.take_append_drop]
  have hp := h
  rw [e] at hp
  obtain ⟨_, hb, _⟩ := List.pairwise_append.1 hp
  obtain ⟨hid, _⟩ := List.pairwise_cons.1 hb
  unfold delI
  rw [hr']
  constructor
  · intro hx
    rcases List.mem_append.1 hx with hx | hx
    · exact ⟨List.mem_of_mem_take hx, fun e => by have := h1 x hx; omega⟩
    · exact ⟨by rw [e]; simp [hx], fun e => by have := hid x hx; omega⟩
  · rintro ⟨hx, hne⟩
    rw [e] at hx
    rcases List.mem_append.1 hx with hx | hx
    · simp [hx]
    · rcases List.mem_cons.1 hx with hx | hx
      · exact absurd hx hne
      · simp [hx]

theorem up_delI {rs : List Int} {id : Int} (h : rs.Pairwise (· < ·)) : (delI rs id).Pairwise (· < ·) := by
  refine List.Pairwise.sublist ?_ h
  unfold delI
  have : (rs.take (cnt rs id) ++ rs.drop (cnt rs id + 1)).Sublist (rs.take (cnt rs id) ++ rs.drop (cnt rs id)) := by
    refine List.Sublist.append_left ?_ _
    rw [← List.drop_drop]
    exact List.drop_sublist _ _
  rwa [List.take_append_drop] at this

theorem length_insI (rs : List Int) (id : Int) : (insI rs id).length = rs.length + 1 := by
  have := cnt_le rs id
  unfold insI
  simp
  omega
theorem length_delI {rs : List Int} {id : Int} (h : rs.Pairwise (· < ·)) (hm : id ∈ rs) : (delI rs id).length + 1 = rs.length := by
  have := cnt_lt h hm
  unfold delI
  simp
  omega

theorem Inv.read {l : L} (h : Inv l) (id : Int) : Inv (l.read id) := by
  unfold L.read
  split
  · rename_i hm
    simp [L.mayRead, L.holds] at hm
    exact ⟨up_insI h.up hm.2.1, fun hw => by simp [hm.1] at hw⟩
  · exact h
theorem Inv.write {l : L} (h : Inv l) (id : Int) : Inv (l.write id) := by
  unfold L.write
  split
  · rename_i hm
    simp [L.mayWrite, L.idle] at hm
    exact ⟨h.up, fun _ => hm.1.1⟩
  · exact h
theorem Inv.free {l : L} (h : Inv l) (id : Int) : Inv (l.free id) := by
  unfold L.free
  split
  · split
    · exact ⟨h.up, fun hw => by simp at hw⟩
    · rename_i h1 h2
      exact ⟨up_delI h.up, fun hw => absurd hw h2⟩
  · exact h

theorem holds_read {l : L} (id x : Int) : (l.read id).holds x = true ↔ l.holds x = true ∨ (l.mayRead id = true ∧ x = id) := by
  unfold L.read
  split
  · rename_i hm
    simp only [L.holds, Bool.or_eq_true, List.contains_iff_mem, mem_insI, hm]
    simp
    constructor
    · rintro ((h | h) | h)
      · exact .inr h
      · exact .inl (.inl h)
      · exact .inl (.inr h)
    · rintro ((h | h) | h)
      · exact .inl (.inr h)
      · exact .inr h
      · exact .inl (.inl h)
  · rename_i hm
    simp [hm]
theorem holds_write {l : L} (id x : Int) : (l.write id).holds x = true ↔ l.holds x = true ∨ (l.mayWrite id = true ∧ x = id) := by
  unfold L.write
  split
  · rename_i hm
    have hm' := hm
    simp [L.mayWrite, L.idle] at hm'
    obtain ⟨⟨h1, h2⟩, _⟩ := hm'
    simp [L.holds, h1, h2, hm]
    exact eq_comm
  · rename_i hm
    simp [hm]
theorem holds_free {l : L} (id x : Int) (hi : Inv l) : (l.free id).holds x = true ↔ l.holds x = true ∧ x ≠ id := by
  unfold L.free
  split
  · rename_i hh
    split
    · rename_i hw
      have hr := hi.one hw
      simp [L.holds, hr] at hh ⊢
      intro e
      rw [hh] at e
      injection e with e
      exact e.symm
    · rename_i hw
      have hn : l.wr = none := by cases h : l.wr <;> simp_all
      simp [L.holds, hn] at hh ⊢
      exact mem_delI hi.up hh
  · rename_i hh
    constructor
    · intro h
      exact ⟨h, fun e => hh (e ▸ h)⟩
    · exact fun h => h.1

theorem idle_iff {l : L} : l.idle = true ↔ ∀ x, l.holds x = false := by
  constructor
  · intro h x
    simp [L.idle] at h
    simp [L.holds, h.1, h.2]
  · intro h
    obtain ⟨rs, wr⟩ := l
    simp [L.idle]
    constructor
    · cases rs with
      | nil => rfl
      | cons x rs => have := h x; simp [L.holds] at this
    · cases wr with
      | none => rfl
      | some x => have := h x; simp [L.holds] at this

theorem mayRead_not {l : L} {id : Int} (h : l.mayRead id = true) : l.holds id = false := by simp [L.mayRead] at h; exact h.2
theorem mayWrite_not {l : L} {id : Int} (h : l.mayWrite id = true) : l.holds id = false := by simp [L.mayWrite] at h; exact h.2
end Lk
