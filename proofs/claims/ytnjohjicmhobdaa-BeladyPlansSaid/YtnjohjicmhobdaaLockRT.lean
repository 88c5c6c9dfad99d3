/-
  PLAIN LAW: the document's row of who holds a lock is the lock's readers in order, or the one who writes.
  No program in sight; no condition but those that stand in each lemma.
-/
import Derived.Test.YtnjohjicmhobdaaLockT
namespace Lk

/-- The document's row. -/
def L.row (l : L) : List (Int × Bool) := match l.wr with
  | some x => [(x, true)]
  | none => l.rs.map fun x => (x, false)

def written (l : List (Int × Bool)) : Bool := l.any (·.2)
def holdsR (l : List (Int × Bool)) (id : Int) : Bool := l.any fun x => decide (x.1 = id)

/-- The document's Read, as far as n. -/
def readF (F : Nat → Int × Bool) (id : Int) : Nat → List (Int × Bool) × Bool
  | 0 => ([], false)
  | n + 1 =>
    let s := readF F id n
    let s := if s.2 = false ∧ id < (F n).1 then (s.1 ++ [(id, false)], true) else s
    (s.1 ++ [F n], s.2)
def readR (F : Nat → Int × Bool) (id : Int) (len : Nat) : List (Int × Bool) := if (readF F id len).2 = false then (readF F id len).1 ++ [(id, false)] else (readF F id len).1
theorem readF_len (F : Nat → Int × Bool) (id : Int) : ∀ n, (readF F id n).1.length = n + (if (readF F id n).2 then 1 else 0)
  | 0 => by simp [readF]
  | n + 1 => by
    have := readF_len F id n
    simp only [readF]
    split
    · rename_i h
      rw [h.1] at this
      simp at this ⊢
      omega
    · simp only [List.length_append, List.length_cons, List.length_nil]
      omega

/-- The document's Free, as far as n. -/
def freeF (F : Nat → Int × Bool) (id : Int) : Nat → List (Int × Bool)
  | 0 => []
  | n + 1 => if (F n).1 = id then freeF F id n else freeF F id n ++ [F n]
theorem freeF_len (F : Nat → Int × Bool) (id : Int) : ∀ n, (freeF F id n).length ≤ n
  | 0 => by simp [freeF]
  | n + 1 => by
    have := freeF_len F id n
    simp only [freeF]
    split
    · omega
    · simp; omega

theorem freeF_take (l : List (Int × Bool)) (id : Int) (F : Nat → Int × Bool) (hF : ∀ (i : Nat) (h : i < l.length), F i = l[i]) : ∀ n, n ≤ l.length → freeF F id n = (l.take n).filter fun x => decide (x.1 ≠ id)
  | 0, _ => by simp [freeF]
  | n + 1, hn => by
    have hlt : n < l.length := by omega
    rw [List.take_succ_eq_append_getElem hlt, List.filter_append, ← freeF_take l id F hF n (by omega)]
    simp only [freeF, hF n hlt]
    split
    · rename_i h; simp [h]
    · rename_i h; simp [h]

theorem row_holds {l : L} (hi : Inv l) (id : Int) : holdsR l.row id = l.holds id := by
  obtain ⟨rs, wr⟩ := l
  cases wr with
  | some x =>
    have hr : rs = [] := hi.one rfl
    subst hr
    simp [L.row, holdsR, L.holds]
  | none =>
    simp only [L.row, holdsR, L.holds]
    rw [Bool.eq_iff_iff]
    simp
theorem row_written (l : L) : written l.row = l.wr.isSome := by
  obtain ⟨rs, wr⟩ := l
  cases wr with
  | some x => simp [L.row, written]
  | none =>
    simp only [L.row, written]
    rw [Bool.eq_iff_iff]
    simp

theorem readF_take (rs : List Int) (hu : rs.Pairwise (· < ·)) (id : Int) (hn : id ∉ rs) (F : Nat → Int × Bool) (hF : ∀ (i : Nat) (h : i < rs.length), F i = (rs[i], false)) :
    ∀ n, n ≤ rs.length → ((∃ x ∈ rs.take n, id < x) → readF F id n = ((insI (rs.take n) id).map fun x => (x, false), true)) ∧ ((∀ x ∈ rs.take n, x < id) → readF F id n = ((rs.take n).map fun x => (x, false), false))
  | 0, _ => ⟨fun ⟨x, hx, _⟩ => by simp at hx, fun _ => by simp [readF]⟩
  | n + 1, hle => by
    have hlt : n < rs.length := by omega
    obtain ⟨ih1, ih2⟩ := readF_take rs hu id hn F hF n (by omega)
    have ht : rs.take (n + 1) = rs.take n ++ [rs[n]] := by rw [List.take_succ_eq_append_getElem hlt]
    have hFn := hF n hlt
    have hne : rs[n] ≠ id := fun e => hn (e ▸ List.getElem_mem hlt)
    have hup : ∀ y ∈ rs.take n, y < rs[n] := by
      have h1 : (rs.take n ++ [rs[n]]).Pairwise (· < ·) := by rw [← ht]; exact List.Pairwise.sublist (List.take_sublist _ _) hu
      intro y hy
      exact (List.pairwise_append.1 h1).2.2 y hy _ (by simp)
    have hcl := cnt_le (rs.take n) id
    have hcnt : cnt (rs.take n ++ [rs[n]]) id = cnt (rs.take n) id + (if rs[n] < id then 1 else 0) := by
      unfold cnt
      rw [List.countP_append]
      simp [List.countP_cons]
    by_cases hd : ∃ x ∈ rs.take n, id < x
    · have h1 := ih1 hd
      obtain ⟨x, hx, hkx⟩ := hd
      have h2 := hup x hx
      have e : readF F id (n + 1) = (((insI (rs.take n) id).map fun x => (x, false)) ++ [F n], true) := by
        simp only [readF, h1]
        simp
      refine ⟨fun _ => ?_, fun hall => ?_⟩
      · rw [e, ht, hFn]
        unfold insI
        rw [hcnt, if_neg (by omega), Nat.add_zero, List.take_append_of_le_length hcl, List.drop_append_of_le_length hcl, List.map_append, List.map_append, List.map_cons, List.map_cons, List.map_append, List.append_assoc]
        rfl
      · have := hall x (by rw [ht]; exact List.mem_append.2 (.inl hx))
        omega
    · have hall : ∀ x ∈ rs.take n, x < id := fun x hx => by
        have h1 : x ≠ id := fun e => hn (e ▸ List.mem_of_mem_take hx)
        have h2 : ¬ id < x := fun h => hd ⟨x, hx, h⟩
        omega
      have h1 := ih2 hall
      have hc : cnt (rs.take n) id = (rs.take n).length := by
        unfold cnt
        rw [List.countP_eq_length]
        intro x hx
        have := hall x hx
        simp
        omega
      by_cases hkn : id < rs[n]
      · have e : readF F id (n + 1) = (((rs.take n).map fun x => (x, false)) ++ [(id, false)] ++ [F n], true) := by
          simp only [readF, h1]
          have hle : id < (F n).1 := by rw [hFn]; exact hkn
          simp [hle]
        refine ⟨fun _ => ?_, fun hall' => ?_⟩
        · rw [e, ht, hFn]
          unfold insI
          rw [hcnt, if_neg (by omega), Nat.add_zero, hc, List.take_append_of_le_length (Nat.le_refl _), List.drop_append_of_le_length (Nat.le_refl _), List.take_length, List.drop_length, List.map_append, List.append_assoc]
          rfl
        · have := hall' rs[n] (by rw [ht]; exact List.mem_append.2 (.inr (List.mem_singleton.2 rfl)))
          omega
      · have e : readF F id (n + 1) = (((rs.take n).map fun x => (x, false)) ++ [F n], false) := by
          simp only [readF, h1]
          have hle : ¬ id < (F n).1 := by rw [hFn]; exact hkn
          simp [hle]
        refine ⟨fun ⟨x, hx, hkx⟩ => ?_, fun _ => ?_⟩
        · rw [ht] at hx
          rcases List.mem_append.1 hx with hx | hx
          · have := hall x hx
            omega
          · simp at hx
            rw [hx] at hkx
            omega
        · rw [e, ht, hFn, List.map_append]
          rfl

theorem readR_row {l : L} (hi : Inv l) (hw : l.wr = none) {id : Int} (hh : l.holds id = false) (F : Nat → Int × Bool) (hF : ∀ (i : Nat) (h : i < l.row.length), F i = l.row[i]) : readR F id l.row.length = (l.read id).row := by
  obtain ⟨rs, wr⟩ := l
  subst hw
  have hn : id ∉ rs := by simpa [L.holds] using hh
  have hm : L.mayRead ⟨rs, none⟩ id = true := by simp [L.mayRead, hh]
  have e2 : (L.read ⟨rs, none⟩ id).row = (insI rs id).map fun x => (x, false) := by unfold L.read; rw [if_pos hm]; rfl
  have e0 : L.row ⟨rs, none⟩ = rs.map fun x => (x, false) := rfl
  rw [e2]
  have hlen : (L.row ⟨rs, none⟩).length = rs.length := by rw [e0]; simp
  obtain ⟨h1, h2⟩ := readF_take rs hi.up id hn F (fun i h => by rw [hF i (by rw [hlen]; exact h)]; simp [e0]) rs.length (Nat.le_refl _)
  rw [List.take_length] at h1 h2
  rw [hlen]
  unfold readR
  by_cases hd : ∃ x ∈ rs, id < x
  · rw [h1 hd]
    simp
  · have hall : ∀ x ∈ rs, x < id := fun x hx => by
      have h1 : x ≠ id := fun e => hn (e ▸ hx)
      have h2 : ¬ id < x := fun h => hd ⟨x, hx, h⟩
      omega
    have hc : cnt rs id = rs.length := by
      unfold cnt
      rw [List.countP_eq_length]
      intro x hx
      have := hall x hx
      simp
      omega
    rw [h2 hall]
    unfold insI
    rw [hc, List.take_length, List.drop_length]
    simp

theorem delI_filter {rs : List Int} {id : Int} (h : rs.Pairwise (· < ·)) (hm : id ∈ rs) : delI rs id = rs.filter fun x => decide (x ≠ id) := by
  obtain ⟨r, hr⟩ := drop_mem h hm
  have hr' : rs.drop (cnt rs id + 1) = r := by
    have : (rs.drop (cnt rs id)).drop 1 = r := by rw [hr]; rfl
    rwa [List.drop_drop] at this
  obtain ⟨h1, _⟩ := split_at rs id h
  have e : rs = rs.take (cnt rs id) ++ id :: r := by rw [← hr, List.take_append_drop]
  have hp := h
  rw [e] at hp
  obtain ⟨_, hb, _⟩ := List.pairwise_append.1 hp
  obtain ⟨hid, _⟩ := List.pairwise_cons.1 hb
  have f1 : (rs.take (cnt rs id)).filter (fun x => decide (x ≠ id)) = rs.take (cnt rs id) := List.filter_eq_self.2 (fun x hx => by have := h1 x hx; simp; omega)
  have f2 : r.filter (fun x => decide (x ≠ id)) = r := List.filter_eq_self.2 (fun x hx => by have := hid x hx; simp; omega)
  have : rs.filter (fun x => decide (x ≠ id)) = rs.take (cnt rs id) ++ r := by
    conv => lhs; rw [e]
    rw [List.filter_append, List.filter_cons, f1, f2]
    simp
  unfold delI
  rw [hr', this]

theorem freeF_row {l : L} (hi : Inv l) (id : Int) (F : Nat → Int × Bool) (hF : ∀ (i : Nat) (h : i < l.row.length), F i = l.row[i]) : freeF F id l.row.length = (l.free id).row := by
  rw [freeF_take l.row id F hF _ (Nat.le_refl _), List.take_length]
  obtain ⟨rs, wr⟩ := l
  cases wr with
  | some x =>
    have hr : rs = [] := hi.one rfl
    subst hr
    by_cases hx : x = id
    · subst hx
      simp [L.row, L.free, L.holds]
    · simp [L.row, L.free, L.holds, hx]
  | none =>
    by_cases hm : id ∈ rs
    · have hh : L.holds ⟨rs, none⟩ id = true := by simp [L.holds, hm]
      have : L.free ⟨rs, none⟩ id = ⟨delI rs id, none⟩ := by unfold L.free; rw [if_pos hh]; simp
      rw [this]
      simp only [L.row]
      rw [delI_filter hi.up hm, List.filter_map]
      rfl
    · have hh : ¬ L.holds ⟨rs, none⟩ id = true := by simp [L.holds, hm]
      have : L.free ⟨rs, none⟩ id = ⟨rs, none⟩ := by unfold L.free; rw [if_neg hh]
      rw [this]
      simp only [L.row]
      rw [List.filter_map]
      congr 1
      exact List.filter_eq_self.2 (fun x hx => by simp; exact fun e => hm (e ▸ hx))

theorem free_len {l : L} (hi : Inv l) (id : Int) : decide ((l.free id).row.length < l.row.length) = l.holds id := by
  obtain ⟨rs, wr⟩ := l
  cases wr with
  | some x =>
    have hr : rs = [] := hi.one rfl
    subst hr
    by_cases hx : x = id
    · subst hx
      simp [L.row, L.free, L.holds]
    · simp [L.row, L.free, L.holds, hx]
  | none =>
    by_cases hm : id ∈ rs
    · have hh : L.holds ⟨rs, none⟩ id = true := by simp [L.holds, hm]
      have : L.free ⟨rs, none⟩ id = ⟨delI rs id, none⟩ := by unfold L.free; rw [if_pos hh]; simp
      rw [this, hh]
      have := length_delI (rs := rs) hi.up hm
      have h' : (delI rs id).length + 1 = rs.length := this
      simp [L.row]
      omega
    · have hh : ¬ L.holds ⟨rs, none⟩ id = true := by simp [L.holds, hm]
      have e : L.free ⟨rs, none⟩ id = ⟨rs, none⟩ := by unfold L.free; rw [if_neg hh]
      have hh' : L.holds ⟨rs, none⟩ id = false := by simpa using hh
      rw [e, hh']
      simp
end Lk
