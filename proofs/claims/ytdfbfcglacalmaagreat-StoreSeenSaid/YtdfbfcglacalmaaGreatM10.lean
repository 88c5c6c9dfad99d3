/-
  PLAIN LAW: the document's row of who holds a lock is the lock's readers in order, or the one who writes. No program in sight; no condition but those that stand in each lemma.
  slices.Clone, Insert, Delete, BinarySearch at a slice of whole numbers of one's own, in the words of its list.
  Package lock: each function comes to what the plain lock says. Fewer than 1,000,000 readers; no other condition.
  Package lock: who comes and who goes: each function comes to what the plain lock says. Fewer than 1,000,000 readers; no other condition.
  Package store: its locks; is it idle; how many are there. Fewer than 1,000,000 entries; no other condition.
  Package store: is it idle; how many are there: loops over rows of 256 pointers. Fewer than 1,000,000 entries; no other condition.
  Layer 23: the little run when there are too many. No condition.
  Package store, at things that are texts: of no store there is nothing. No condition.
  Layer 23: what is kept of a store step by step (plain); an entry of the program's. Fewer than 1,000,000 entries; no other condition.
  StoreSeen: the walk of the law. At most 30 entries (the law's own guard); no other condition.
-/
import Derived.Test.YtdfbfcglacalmaaGreatM9
import Derived.Test.YtdfbfcglacalmaaGreatM1
import Derived.Lib.Hide
import Derived.Test.YtdfbfcglacalmaaGreatM4
section
namespace Lk

/-- The document's row. -/
def L.row (l : L) : List (Int × Bool) := match l.wr with
  | some x => [(x, true)]
  | none => l.rs.map fun x => (x, false)

def written (l : List (Int × Bool)) : Bool := l.any (·.2)
def holdsR (l : List (Int × Bool)) (id : Int) : Bool := l.any fun x => decide (x.1 = id)

/-- The document's Read, as far as n. -/
def readF (F : Nat → Int × Bool) (id : Int) : Nat → List (Int × Bool) × Bool
  | 0 => ([], false)
  | n + 1 =>
    let s := readF F id n
    let s := if s.2 = false ∧ id < (F n).1 then (s.1 ++ [(id, false)], true) else s
    (s.1 ++ [F n], s.2)
def readR (F : Nat → Int × Bool) (id : Int) (len : Nat) : List (Int × Bool) := if (readF F id len).2 = false then (readF F id len).1 ++ [(id, false)] else (readF F id len).1
theorem readF_len (F : Nat → Int × Bool) (id : Int) : ∀ n, (readF F id n).1.length = n + (if (readF F id n).2 then 1 else 0)
  | 0 => by simp [readF]
  | n + 1 => by
    have := readF_len F id n
    simp only [readF]
    split
    · rename_i h
      rw [h.1] at this
      simp at this ⊢
      omega
    · simp only [List.length_append, List.length_cons, List.length_nil]
      omega

/-- The document's Free, as far as n. -/
def freeF (F : Nat → Int × Bool) (id : Int) : Nat → List (Int × Bool)
  | 0 => []
  | n + 1 => if (F n).1 = id then freeF F id n else freeF F id n ++ [F n]
theorem freeF_len (F : Nat → Int × Bool) (id : Int) : ∀ n, (freeF F id n).length ≤ n
  | 0 => by simp [freeF]
  | n + 1 => by
    have := freeF_len F id n
    simp only [freeF]
    split
    · omega
    · simp; omega

theorem freeF_take (l : List (Int × Bool)) (id : Int) (F : Nat → Int × Bool) (hF : ∀ (i : Nat) (h : i < l.length), F i = l[i]) : ∀ n, n ≤ l.length → freeF F id n = (l.take n).filter fun x => decide (x.1 ≠ id)
  | 0, _ => by simp [freeF]
  | n + 1, hn => by
    have hlt : n < l.length := by omega
    rw [List.take_succ_eq_append_getElem hlt, List.filter_append, ← freeF_take l id F hF n (by omega)]
    simp only [freeF, hF n hlt]
    split
    · rename_i h; simp [h]
    · rename_i h; simp [h]

theorem row_holds {l : L} (hi : Inv l) (id : Int) : holdsR l.row id = l.holds id := by
  obtain ⟨rs, wr⟩ := l
  cases wr with
  | some x =>
    have hr : rs = [] := hi.one rfl
    subst hr
    simp [L.row, holdsR, L.holds]
  | none =>
    simp only [L.row, holdsR, L.holds]
    rw [Bool.eq_iff_iff]
    simp
theorem row_written (l : L) : written l.row = l.wr.isSome := by
  obtain ⟨rs, wr⟩ := l
  cases wr with
  | some x => simp [L.row, written]
  | none =>
    simp only [L.row, written]
    rw [Bool.eq_iff_iff]
    simp

theorem readF_take (rs : List Int) (hu : rs.Pairwise (· < ·)) (id : Int) (hn : id ∉ rs) (F : Nat → Int × Bool) (hF : ∀ (i : Nat) (h : i < rs.length), F i = (rs[i], false)) :
    ∀ n, n ≤ rs.length → ((∃ x ∈ rs.take n, id < x) → readF F id n = ((insI (rs.take n) id).map fun x => (x, false), true)) ∧ ((∀ x ∈ rs.take n, x < id) → readF F id n = ((rs.take n).map fun x => (x, false), false))
  | 0, _ => ⟨fun ⟨x, hx, _⟩ => by simp at hx, fun _ => by simp [readF]⟩
  | n + 1, hle => by
    have hlt : n < rs.length := by omega
    obtain ⟨ih1, ih2⟩ := readF_take rs hu id hn F hF n (by omega)
    have ht : rs.take (n + 1) = rs.take n ++ [rs[n]] := by rw [List.take_succ_eq_append_getElem hlt]
    have hFn := hF n hlt
    have hne : rs[n] ≠ id := fun e => hn (e ▸ List.getElem_mem hlt)
    have hup : ∀ y ∈ rs.take n, y < rs[n] := by
      have h1 : (rs.take n ++ [rs[n]]).Pairwise (· < ·) := by rw [← ht]; exact List.Pairwise.sublist (List.take_sublist _ _) hu
      intro y hy
      exact (List.pairwise_append.1 h1).2.2 y hy _ (by simp)
    have hcl := cnt_le (rs.take n) id
    have hcnt : cnt (rs.take n ++ [rs[n]]) id = cnt (rs.take n) id + (if rs[n] < id then 1 else 0) := by
      unfold cnt
      rw [List.countP_append]
      simp [List.countP_cons]
    by_cases hd : ∃ x ∈ rs.take n, id < x
    · have h1 := ih1 hd
      obtain ⟨x, hx, hkx⟩ := hd
      have h2 := hup x hx
      have e : readF F id (n + 1) = (((insI (rs.take n) id).map fun x => (x, false)) ++ [F n], true) := by
        simp only [readF, h1]
        simp
      refine ⟨fun _ => ?_, fun hall => ?_⟩
      · rw [e, ht, hFn]
        unfold insI
        rw [hcnt, if_neg (by omega), Nat.add_zero, List.take_append_of_le_length hcl, List.drop_append_of_le_length hcl, List.map_append, List.map_append, List.map_cons, List.map_cons, List.map_append, List.append_assoc]
        rfl
      · have := hall x (by rw [ht]; exact List.mem_append.2 (.inl hx))
        omega
    · have hall : ∀ x ∈ rs.take n, x < id := fun x hx => by
        have h1 : x ≠ id := fun e => hn (e ▸ List.mem_of_mem_take hx)
        have h2 : ¬ id < x := fun h => hd ⟨x, hx, h⟩
        omega
      have h1 := ih2 hall
      have hc : cnt (rs.take n) id = (rs.take n).length := by
        unfold cnt
        rw [List.countP_eq_length]
        intro x hx
        have := hall x hx
        simp
        omega
      by_cases hkn : id < rs[n]
      · have e : readF F id (n + 1) = (((rs.take n).map fun x => (x, false)) ++ [(id, false)] ++ [F n], true) := by
          simp only [readF, h1]
          have hle : id < (F n).1 := by rw [hFn]; exact hkn
          simp [hle]
        refine ⟨fun _ => ?_, fun hall' => ?_⟩
        · rw [e, ht, hFn]
          unfold insI
          rw [hcnt, if_neg (by omega), Nat.add_zero, hc, List.take_append_of_le_length (Nat.le_refl _), List.drop_append_of_le_length (Nat.le_refl _), List.take_length, List.drop_length, List.map_append, List.append_assoc]
          rfl
        · have := hall' rs[n] (by rw [ht]; exact List.mem_append.2 (.inr (List.mem_singleton.2 rfl)))
          omega
      · have e : readF F id (n + 1) = (((rs.take n).map fun x => (x, false)) ++ [F n], false) := by
          simp only [readF, h1]
          have hle : ¬ id < (F n).1 := by rw [hFn]; exact hkn
          simp [hle]
        refine ⟨fun ⟨x, hx, hkx⟩ => ?_, fun _ => ?_⟩
        · rw [ht] at hx
          rcases List.mem_append.1 hx with hx | hx
          · have := hall x hx
            omega
          · simp at hx
            rw [hx] at hkx
            omega
        · rw [e, ht, hFn, List.map_append]
          rfl

theorem readR_row {l : L} (hi : Inv l) (hw : l.wr = none) {id : Int} (hh : l.holds id = false) (F : Nat → Int × Bool) (hF : ∀ (i : Nat) (h : i < l.row.length), F i = l.row[i]) : readR F id l.row.length = (l.read id).row := by
  obtain ⟨rs, wr⟩ := l
  subst hw
  have hn : id ∉ rs := by simpa [L.holds] using hh
  have hm : L.mayRead ⟨rs, none⟩ id = true := by simp [L.mayRead, hh]
  have e2 : (L.read ⟨rs, none⟩ id).row = (insI rs id).map fun x => (x, false) := by unfold L.read; rw [if_pos hm]; rfl
  have e0 : L.row ⟨rs, none⟩ = rs.map fun x => (x, false) := rfl
  rw [e2]
  have hlen : (L.row ⟨rs, none⟩).length = rs.length := by rw [e0]; simp
  obtain ⟨h1, h2⟩ := readF_take rs hi.up id hn F (fun i h => by rw [hF i (by rw [hlen]; exact h)]; simp [e0]) rs.length (Nat.le_refl _)
  rw [List.take_length] at h1 h2
  rw [hlen]
  unfold readR
  by_cases hd : ∃ x ∈ rs, id < x
  · rw [h1 hd]
    simp
  · have hall : ∀ x ∈ rs, x < id := fun x hx => by
      have h1 : x ≠ id := fun e => hn (e ▸ hx)
      have h2 : ¬ id < x := fun h => hd ⟨x, hx, h⟩
      omega
    have hc : cnt rs id = rs.length := by
      unfold cnt
      rw [List.countP_eq_length]
      intro x hx
      have := hall x hx
      simp
      omega
    rw [h2 hall]
    unfold insI
    rw [hc, List.take_length, List.drop_length]
    simp

theorem delI_filter {rs : List Int} {id : Int} (h : rs.Pairwise (· < ·)) (hm : id ∈ rs) : delI rs id = rs.filter fun x => decide (x ≠ id) := by
  obtain ⟨r, hr⟩ := drop_mem h hm
  have hr' : rs.drop (cnt rs id + 1) = r := by
    have : (rs.drop (cnt rs id)).drop 1 = r := by rw [hr]; rfl
    rwa [List.drop_drop] at this
  obtain ⟨h1, _⟩ := split_at rs id h
  have e : rs = rs.take (cnt rs id) ++ id :: r := by rw [← hr, List.take_append_drop]
  have hp := h
  rw [e] at hp
  obtain ⟨_, hb, _⟩ := List.pairwise_append.1 hp
  obtain ⟨hid, _⟩ := List.pairwise_cons.1 hb
  have f1 : (rs.take (cnt rs id)).filter (fun x => decide (x ≠ id)) = rs.take (cnt rs id) := List.filter_eq_self.2 (fun x hx => by have := h1 x hx; simp; omega)
  have f2 : r.filter (fun x => decide (x ≠ id)) = r := List.filter_eq_self.2 (fun x hx => by have := hid x hx; simp; omega)
  have : rs.filter (fun x => decide (x ≠ id)) = rs.take (cnt rs id) ++ r := by
    conv => lhs; rw [e]
    rw [List.filter_append, List.filter_cons, f1, f2]
    simp
  unfold delI
  rw [hr', this]

theorem freeF_row {l : L} (hi : Inv l) (id : Int) (F : Nat → Int × Bool) (hF : ∀ (i : Nat) (h : i < l.row.length), F i = l.row[i]) : freeF F id l.row.length = (l.free id).row := by
  rw [freeF_take l.row id F hF _ (Nat.le_refl _), List.take_length]
  obtain ⟨rs, wr⟩ := l
  cases wr with
  | some x =>
    have hr : rs = [] := hi.one rfl
    subst hr
    by_cases hx : x = id
    · subst hx
      simp [L.row, L.free, L.holds]
    · simp [L.row, L.free, L.holds, hx]
  | none =>
    by_cases hm : id ∈ rs
    · have hh : L.holds ⟨rs, none⟩ id = true := by simp [L.holds, hm]
      have : L.free ⟨rs, none⟩ id = ⟨delI rs id, none⟩ := by unfold L.free; rw [if_pos hh]; simp
      rw [this]
      simp only [L.row]
      rw [delI_filter hi.up hm, List.filter_map]
      rfl
    · have hh : ¬ L.holds ⟨rs, none⟩ id = true := by simp [L.holds, hm]
      have : L.free ⟨rs, none⟩ id = ⟨rs, none⟩ := by unfold L.free; rw [if_neg hh]
      rw [this]
      simp only [L.row]
      rw [List.filter_map]
      congr 1
      exact List.filter_eq_self.2 (fun x hx => by simp; exact fun e => hm (e ▸ hx))

theorem free_len {l : L} (hi : Inv l) (id : Int) : decide ((l.free id).row.length < l.row.length) = l.holds id := by
  obtain ⟨rs, wr⟩ := l
  cases wr with
  | some x =>
    have hr : rs = [] := hi.one rfl
    subst hr
    by_cases hx : x = id
    · subst hx
      simp [L.row, L.free, L.holds]
    · simp [L.row, L.free, L.holds, hx]
  | none =>
    by_cases hm : id ∈ rs
    · have hh : L.holds ⟨rs, none⟩ id = true := by simp [L.holds, hm]
      have : L.free ⟨rs, none⟩ id = ⟨delI rs id, none⟩ := by unfold L.free; rw [if_pos hh]; simp
      rw [this, hh]
      have := length_delI (rs := rs) hi.up hm
      have h' : (delI rs id).length + 1 = rs.length := this
      simp [L.row]
      omega
    · have hh : ¬ L.holds ⟨rs, none⟩ id = true := by simp [L.holds, hm]
      have e : L.free ⟨rs, none⟩ id = ⟨rs, none⟩ := by unfold L.free; rw [if_neg hh]
      have hh' : L.holds ⟨rs, none⟩ id = false := by simpa using hh
      rw [e, hh']
      simp
end Lk
end

section
namespace Go.Proofs.YtdfbfcglacalmaaGreat.Lo1
open Go.RowKit Go.Seg Go.Open Go.Lib Go.Shelf Go.Deep Go.ChangeShapes Go.WideShapes Lk

def ints (rs : List Int) : List Value := rs.map (Value.int .i64)
/-- A slice of whole numbers of one's own. -/
def Ints (w : World) (B : Nat) (v : Value) (rs : List Int) : Prop := w.ownsRow B 3 1 v rs.length (ints rs)
theorem Ints.ext {w w' : World} {B : Nat} {v : Value} {rs : List Int} (h : Ints w B v rs) (e : Ext w w') : Ints w' B v rs := own_ext h e
theorem Ints.chg {S : Nat → Prop} {w w' : World} {B : Nat} {v : Value} {rs : List Int} (h : Ints w B v rs) (hc : Chg S w w') (hn : Off S w 3) : Ints w' B v rs := own_chg h hc hn
theorem Ints.base {w : World} {B B' : Nat} {v : Value} {rs : List Int} (h : Ints w B v rs) (hB : B' ≤ B) : Ints w B' v rs := own_base h hB
theorem Ints.openI {w : World} {B : Nat} {v : Value} {rs : List Int} (h : Ints w B v rs) : ∃ (a : Option Addr) (cap b : Nat), v = .slice a rs.length cap ∧ rs.length ≤ cap ∧ cap ≤ maxLen ∧ (0 < rs.length → a = some ⟨b, 0, none⟩) ∧ (0 < rs.length → B ≤ b ∧ b < w.heap.size) ∧
    (∀ W, Ext w W → ∀ j, j < rs.length → W.cell? ⟨b, 0 + j, none⟩ = some (.int .i64 (rs.getD j 0))) := by
  obtain ⟨a, cap, b, hv, h1, h2, h3, h4, h5⟩ := own_open h
  refine ⟨a, cap, b, hv, h1, h2, h3, h4, fun W e j hj => ?_⟩
  rw [Nat.zero_add, h5 W e j (by omega)]
  unfold ints
  simp [List.getD_eq_getElem?_getD, hj]

/-- Is somebody among them? -/
def has (rs : List Int) (x : Int) : Bool := rs.contains x
theorem search_any (B : Nat) (v : Value) (rs : List Int) (hu : rs.Pairwise (· < ·)) (x : Int) (w : World) (h : Ints w B v rs) (hl : rs.length ≤ 1000000) :
    Calls Tryz.prog 92 #[v, .int .i64 x] w fun e w' => e = .returned (.tuple #[.int .i64 (cnt rs x), .bool (has rs x)]) ∧ Ext w w' := by
  obtain ⟨a, cap, b, rfl, h1, h2, h3, h4, h5⟩ := h.openI
  cases rs with
  | nil =>
    refine (Any.slices_BinarySearch_int_empty Tryz.laysSearch a cap x w).mono ?_
    rintro e w' ⟨rfl, rfl⟩
    exact ⟨rfl, Ext.refl _⟩
  | cons y rs =>
    obtain rfl := h3 (by simp)
    refine (Any.slices_BinarySearch_int Tryz.laysSearch b 0 (y :: rs).length cap (y :: rs) x w (Nat.le_refl _) (by omega) (h5 w (Ext.refl _)) ?_).mono ?_
    · rw [List.take_length]
      exact hu.imp (fun h => by omega)
    · rintro e w' ⟨rfl, q, rfl⟩
      rw [List.take_length]
      exact ⟨rfl, ext_drewN w q⟩

theorem clone_any (B : Nat) (v : Value) (rs : List Int) (w : World) (h : Ints w B v rs) (hl : rs.length ≤ 1000000) :
    Calls Tryz.prog 66 #[v] w fun e w' => ∃ v', e = .returned v' ∧ Ints w' w.heap.size v' rs ∧ Ext w w' := by
  obtain ⟨a, cap, b, rfl, h1, h2, h3, h4, h5⟩ := h.openI
  cases rs with
  | nil =>
    cases a with
    | none =>
      refine (Any.slices_Clone_int_nil Tryz.laysClone 0 cap w).mono ?_
      rintro e w' ⟨rfl, rfl⟩
      exact ⟨_, rfl, World.ownsRow_nil _ _ _ _, Ext.refl _⟩
    | some a =>
      refine (Any.slices_Clone_int_zero Tryz.laysClone a cap w).mono ?_
      rintro e w' ⟨v', rfl, ho, _, hb⟩
      exact ⟨v', rfl, ho, hb⟩
  | cons y rs =>
    obtain rfl := h3 (by simp)
    refine (Any.slices_Clone_int Tryz.laysClone b 0 (y :: rs).length cap (y :: rs) w (Nat.le_refl _) (by omega) (h5 w (Ext.refl _))).mono ?_
    rintro e w' ⟨v', rfl, ho, _, hb⟩
    rw [List.take_length] at ho
    exact ⟨v', rfl, ho, hb⟩

theorem ints_getElem (rs : List Int) (j : Nat) (v : Value) (h : (ints rs)[j]? = some v) : j < rs.length ∧ v = .int .i64 (rs.getD j 0) := by
  unfold ints at h
  rw [List.getElem?_map] at h
  cases hj : rs[j]? with
  | none => rw [hj] at h; cases h
  | some x =>
    rw [hj] at h
    simp at h
    obtain ⟨hlt, _⟩ := List.getElem?_eq_some_iff.1 hj
    exact ⟨hlt, by rw [← h]; simp [List.getD_eq_getElem?_getD, hj]⟩
theorem ints_one (rs : List Int) : ∀ v ∈ ints rs, v.oneCell' = true := by
  intro v hv
  unfold ints at hv
  obtain ⟨x, _, rfl⟩ := List.mem_map.1 hv
  rfl

/-- A new row whose first cells are these. -/
theorem ints_new {w : World} {g cap : Nat} {cur : Array Value} {rs : List Int} {B : Nat} (hg : w.heap[g]? = some (.cells cur 3 (0, 0))) (hB : B ≤ g) (hn : rs.length ≤ cap) (hm : cap ≤ maxLen) (hs : cur.size = cap) (ht : cur.toList.take rs.length = ints rs) : Ints w B (.slice (some ⟨g, 0, none⟩) rs.length cap) rs :=
  ⟨by unfold ints; simp, .inr ⟨g, cap, cur, rfl, hB, hg, hn, hm, by omega, by simpa using ht⟩⟩

def insAt (rs : List Int) (i : Nat) (x : Int) : List Int := rs.take i ++ x :: rs.drop i
theorem insAt_length {rs : List Int} {i : Nat} (h : i ≤ rs.length) (x : Int) : (insAt rs i x).length = rs.length + 1 := by
  unfold insAt
  simp
  omega

theorem zero_size (n : Nat) : (Builtin.zeroCells (Value.int .i64 0).cells n).size = n := by
  unfold Builtin.zeroCells
  simp [Value.cells]

end Go.Proofs.YtdfbfcglacalmaaGreat.Lo1
end

section
namespace Go.Proofs.YtdfbfcglacalmaaGreat.Lo1
open Go.RowKit Go.Seg Go.Open Go.Lib Lk

/-- A lock's block. -/
def LockAt (w : World) (b : Nat) (l : L) : Prop := ∃ v, Blk w b #[v, .int .i64 (l.wr.getD 0), .bool l.wr.isSome] 100 ∧ Ints w 0 v l.rs
theorem LockAt.ext {w w' : World} {b : Nat} {l : L} (h : LockAt w b l) (e : Ext w w') : LockAt w' b l := by
  obtain ⟨v, h1, h2⟩ := h
  exact ⟨v, h1.ext e, h2.ext e⟩
theorem LockAt.blk {w : World} {b : Nat} {l : L} : LockAt w b l → ∃ cs, Blk w b cs 100 := fun ⟨_, h, _⟩ => ⟨_, h⟩
/-- A lock's cells, written out. -/
theorem LockAt.cells {w : World} {b : Nat} {l : L} (h : LockAt w b l) : ∃ a cap, Blk w b #[.slice a l.rs.length cap, .int .i64 (l.wr.getD 0), .bool l.wr.isSome] 100 ∧ Ints w 0 (.slice a l.rs.length cap) l.rs := by
  obtain ⟨v, h1, h2⟩ := h
  obtain ⟨a, cap, _, rfl, _⟩ := h2.openI
  exact ⟨a, cap, h1, h2⟩

theorem New_any (w : World) : Calls Tryz.prog 60 #[] w fun e w' => ∃ b, e = .returned (.pointer (some ⟨b, 0, none⟩)) ∧ w.heap.size ≤ b ∧ LockAt w' b ⟨[], none⟩ ∧ Ext w w' := by
  go_enter Tryz.func60, Tryz.ntmps60
  go_wp2_with fail
  go_ret
  exact ⟨_, rfl, Nat.le_refl _, ⟨_, Blk.new _ _ _, World.ownsRow_nil _ _ _ _⟩, (Below.refl _ _).alloc (Nat.le_refl _) _⟩

theorem reads_any (b : Nat) (l : L) (hi : Inv l) (hl : l.rs.length ≤ 1000000) (id : Int) (w : World) (h : LockAt w b l) :
    Calls Tryz.prog 64 #[.pointer (some ⟨b, 0, none⟩), .int .i64 id] w fun e w' => e = .returned (.tuple #[.int .i64 (cnt l.rs id), .bool (has l.rs id)]) ∧ Ext w w' := by
  obtain ⟨a, cap, hB, hR⟩ := h.cells
  have b0 := hB.cell (i := 0) rfl
  have HR := Lib.hid hR
  clear hB hR h
  go_enter Tryz.func64, Tryz.ntmps64
  go_wp2_with fail
  refine (search_any _ _ _ hi.up _ _ HR.out hl).mono ?_
  rintro e w' ⟨rfl, hE⟩
  go_wp2_with fail
  go_ret2
  exact ⟨rfl, hE⟩

theorem Idle_any (b : Nat) (l : L) (w : World) (h : LockAt w b l) : Calls Tryz.prog 55 #[.pointer (some ⟨b, 0, none⟩)] w fun e w' => e = .returned (.bool l.idle) ∧ w = w' := by
  obtain ⟨a, cap, hB, hR⟩ := h.cells
  have b0 := hB.cell (i := 0) rfl
  have b2 := hB.cell (i := 2) rfl
  clear hB hR h
  obtain ⟨rs, wr⟩ := l
  cases wr with
  | some x =>
    cases rs
    all_goals
      go_enter Tryz.func55, Tryz.ntmps55
      go_wp2_with fail
      go_ret
      exact ⟨rfl, rfl⟩
  | none =>
    cases rs with
    | nil =>
      go_enter Tryz.func55, Tryz.ntmps55
      go_wp2_with fail
      go_ret
      exact ⟨rfl, rfl⟩
    | cons x rs =>
      obtain ⟨n, hn⟩ : ∃ n, (x :: rs).length = n := ⟨_, rfl⟩
      have hn0 : 0 < n := by rw [← hn]; simp
      have hne : ((n : Int) == 0) = false := beq_eq_false_iff_ne.2 (by omega)
      change w.cell? ⟨b, 0, none⟩ = some (.slice a (x :: rs).length cap) at b0
      rw [hn] at b0
      clear hn
      go_enter Tryz.func55, Tryz.ntmps55
      go_wp2_with fail
      go_ret
      exact ⟨rfl, rfl⟩
theorem Idle_nil (w : World) : Calls Tryz.prog 55 #[.pointer none] w fun e w' => e = .returned (.bool true) ∧ w = w' := by
  go_enter Tryz.func55, Tryz.ntmps55
  go_wp2_with fail
  go_ret
  exact ⟨rfl, rfl⟩

theorem MayRead_any (b : Nat) (l : L) (w : World) (h : LockAt w b l) : Calls Tryz.prog 26 #[.pointer (some ⟨b, 0, none⟩)] w fun e w' => e = .returned (.bool l.wr.isNone) ∧ w = w' := by
  obtain ⟨a, cap, hB, hR⟩ := h.cells
  have b2 := hB.cell (i := 2) rfl
  clear hB hR h
  obtain ⟨rs, wr⟩ := l
  cases wr
  all_goals
    go_enter Tryz.func26, Tryz.ntmps26
    go_wp2_with fail
    go_ret
    exact ⟨rfl, rfl⟩
theorem MayRead_nil (w : World) : Calls Tryz.prog 26 #[.pointer none] w fun e w' => e = .returned (.bool false) ∧ w = w' := by
  go_enter Tryz.func26, Tryz.ntmps26
  go_wp2_with fail
  go_ret
  exact ⟨rfl, rfl⟩
theorem MayWrite_any (b : Nat) (l : L) (w : World) (h : LockAt w b l) : Calls Tryz.prog 62 #[.pointer (some ⟨b, 0, none⟩)] w fun e w' => e = .returned (.bool l.idle) ∧ w = w' := by
  have H := Lib.hid h
  clear h
  go_enter Tryz.func62, Tryz.ntmps62
  go_wp2_with fail
  refine (Idle_any _ _ _ H.out).mono ?_
  rintro e w' ⟨rfl, rfl⟩
  go_wp2_with fail
  go_ret
  exact ⟨rfl, rfl⟩
theorem MayWrite_nil (w : World) : Calls Tryz.prog 62 #[.pointer none] w fun e w' => e = .returned (.bool false) ∧ w = w' := by
  go_enter Tryz.func62, Tryz.ntmps62
  go_wp2_with fail
  go_ret
  exact ⟨rfl, rfl⟩

theorem Holds_any (b : Nat) (l : L) (hi : Inv l) (hl : l.rs.length ≤ 1000000) (id : Int) (w : World) (h : LockAt w b l) :
    Calls Tryz.prog 63 #[.pointer (some ⟨b, 0, none⟩), .int .i64 id] w fun e w' => e = .returned (.bool (l.holds id)) ∧ Ext w w' := by
  have H := Lib.hid h
  obtain ⟨a, cap, hB, hR⟩ := h.cells
  have HB := Lib.hid hB
  clear h hB hR
  by_cases hc : has l.rs id = true
  · have e0 : l.holds id = true := by unfold L.holds; unfold has at hc; rw [hc]; rfl
    rw [e0]
    have HC := Lib.hid hc
    clear e0 hc
    go_enter Tryz.func63, Tryz.ntmps63
    go_wp2_with fail
    refine (reads_any _ _ hi hl _ _ H.out).mono ?_
    rw [HC.out]
    rintro e w1 ⟨rfl, hE⟩
    go_wp2_with fail
    go_ret
    exact ⟨rfl, hE⟩
  · have hc' : has l.rs id = false := by simpa using hc
    have HC := Lib.hid hc'
    cases hw : l.wr with
    | none =>
      have e0 : l.holds id = false := by unfold L.holds; unfold has at hc'; rw [hc', hw]; simp
      rw [e0]
      have HW := Lib.hid hw
      clear e0 hc hc' hw
      go_enter Tryz.func63, Tryz.ntmps63
      go_wp2_with fail
      refine (reads_any _ _ hi hl _ _ H.out).mono ?_
      rw [HC.out]
      rintro e w1 ⟨rfl, hE⟩
      have hB1 := HB.out.ext hE
      rw [HW.out] at hB1
      have c1 : w1.cell? ⟨b, 1, none⟩ = some (.int .i64 0) := hB1.cell (i := 1) rfl
      have c2 : w1.cell? ⟨b, 2, none⟩ = some (.bool false) := hB1.cell (i := 2) rfl
      clear hB1
      go_wp2_with fail
      go_ret
      exact ⟨rfl, hE⟩
    | some x =>
      have e0 : l.holds id = (x == id) := by
        unfold L.holds
        unfold has at hc'
        rw [hc', hw, Bool.false_or]
        by_cases hx : x = id <;> simp [hx]
      rw [e0]
      have HW := Lib.hid hw
      clear e0 hc hc' hw
      by_cases hx : x = id
      · subst hx
        go_enter Tryz.func63, Tryz.ntmps63
        go_wp2_with fail
        refine (reads_any _ _ hi hl _ _ H.out).mono ?_
        rw [HC.out]
        rintro e w1 ⟨rfl, hE⟩
        have hB1 := HB.out.ext hE
        rw [HW.out] at hB1
        have c1 : w1.cell? ⟨b, 1, none⟩ = some (.int .i64 x) := hB1.cell (i := 1) rfl
        have c2 : w1.cell? ⟨b, 2, none⟩ = some (.bool true) := hB1.cell (i := 2) rfl
        clear hB1
        go_wp2_with fail
        go_ret
        exact ⟨by simp, hE⟩
      · have hx' : (x == id) = false := beq_eq_false_iff_ne.2 hx
        rw [hx']
        go_enter Tryz.func63, Tryz.ntmps63
        go_wp2_with fail
        refine (reads_any _ _ hi hl _ _ H.out).mono ?_
        rw [HC.out]
        rintro e w1 ⟨rfl, hE⟩
        have hB1 := HB.out.ext hE
        rw [HW.out] at hB1
        have c1 : w1.cell? ⟨b, 1, none⟩ = some (.int .i64 x) := hB1.cell (i := 1) rfl
        have c2 : w1.cell? ⟨b, 2, none⟩ = some (.bool true) := hB1.cell (i := 2) rfl
        clear hB1 hx
        go_wp2_with fail
        go_ret
        exact ⟨rfl, hE⟩
theorem Holds_nil (id : Int) (w : World) : Calls Tryz.prog 63 #[.pointer none, .int .i64 id] w fun e w' => e = .returned (.bool false) ∧ w = w' := by
  go_enter Tryz.func63, Tryz.ntmps63
  go_wp2_with fail
  go_ret
  exact ⟨rfl, rfl⟩

/-- may, at a bound method whose answer is known. -/
theorem may_any (g : Nat) (p : Value) (r h : Bool) (w : World) (eg : ∀ args w, (callFunc g args).run Tryz.prog w = .ok (.enter g args) w) (hg : Calls Tryz.prog g #[p] w fun e w' => e = .returned (.bool r) ∧ w = w') :
    Calls Tryz.prog 61 #[.func (.func g) #[p] #[], .bool h] w fun e w' => e = .returned (.bool (r && !h)) ∧ w = w' := by
  have HG := Lib.hid hg
  clear hg
  cases r
  all_goals
    go_enter Tryz.func61, Tryz.ntmps61
    go_wp2_with fail
    refine HG.out.mono ?_
    rintro e w' ⟨rfl, rfl⟩
    go_wp2_with fail
    go_ret
    exact ⟨rfl, rfl⟩

end Go.Proofs.YtdfbfcglacalmaaGreat.Lo1
end

section
namespace Go.Proofs.YtdfbfcglacalmaaGreat.Lo1
open Go.RowKit Go.Seg Go.Open Go.Lib Go.Shelf Lk

def delAt (rs : List Int) (i : Nat) : List Int := rs.take i ++ rs.drop (i + 1)
theorem delete_any (B : Nat) (v : Value) (rs : List Int) (i : Nat) (w : World) (h : Ints w B v rs) (hl : rs.length ≤ 1000000) (hi : i < rs.length) :
    Calls Tryz.prog 65 #[v, .int .i64 i, .int .i64 ((i : Int) + 1)] w fun e w' => ∃ v', e = .returned v' ∧ Ints w' B v' (delAt rs i) ∧ Chg (fun k => v.ownBlock = some k) w w' := by
  have h0 := h
  obtain ⟨a, cap, b, rfl, h1, h2, h3, h4, h5⟩ := h0.openI
  obtain rfl := h3 (by omega)
  obtain ⟨hlen, hrow⟩ := h
  rcases hrow with ⟨hv, _⟩ | ⟨g, cap', cur, hv, hg, hh, hn, hm, hs, ht⟩
  · cases hv
  · obtain ⟨rfl, rfl⟩ : b = g ∧ cap = cap' := by simpa using hv
    have hfz : ∀ j, w.frozen? ⟨b, j, none⟩ = false := fun j => Blk.frozen (cs := cur) (E := 3) hh j
    have hmm := hm
    unfold maxLen at hmm
    have := Any.slices_Delete_int_cells Tryz.laysDelete b 0 rs.length cap i (i + 1) rs w (Nat.le_refl _) hn (by omega) (by omega) (by omega) (h5 w (Ext.refl _)) (fun j _ => hfz _)
    rw [show (((i + 1 : Nat)) : Int) = (i : Int) + 1 from by omega] at this
    refine this.mono ?_
    rintro e w' ⟨rfl, q, rfl⟩
    rw [Nat.mul_one] at ht hs
    rw [List.take_length]
    have hh' : (w.drewN q).heap[b]? = some (.cells cur 3 (0, 0)) := hh
    have hlL : ((rs.take i ++ rs.drop (i + 1) ++ List.replicate (i + 1 - i) 0).map (Value.int .i64)).length = rs.length := by simp; omega
    obtain ⟨c1, k1, k2⟩ := heap_setCells b 3 ((rs.take i ++ rs.drop (i + 1) ++ List.replicate (i + 1 - i) 0).map (Value.int .i64)) 0 _ cur hh' (by rw [hlL]; omega)
    have hc1 : c1.toList.length = cur.toList.length := by rw [k2]; exact over_length (by rw [hlL]; simp; omega)
    have hL : (delAt rs i).length = rs.length - (i + 1 - i) := by unfold delAt; simp; omega
    refine ⟨_, rfl, ?_, (chg_ext (ext_drewN w q) (chg_setCells b _ 0 _)).mono (fun k hk => by subst hk; rfl)⟩
    rw [← hL]
    refine ints_new (cur := c1) k1 hg (by omega) hm (by simp at hc1; omega) ?_
    rw [k2]
    unfold over
    rw [List.take_zero, List.nil_append, List.map_append, List.append_assoc]
    have e : (rs.take i ++ rs.drop (i + 1)).map (Value.int .i64) = ints (delAt rs i) := rfl
    rw [e, List.take_append_of_le_length (by unfold ints; simp), List.take_of_length_le (by unfold ints; simp)]

theorem may_at (g : Nat) (p : Value) (r h v : Bool) (hv : (r && !h) = v) (w : World) (eg : ∀ args w, (callFunc g args).run Tryz.prog w = .ok (.enter g args) w) (hg : Calls Tryz.prog g #[p] w fun e w' => e = .returned (.bool r) ∧ w = w') :
    Calls Tryz.prog 61 #[.func (.func g) #[p] #[], .bool h] w fun e w' => e = .returned (.bool v) ∧ w = w' := by rw [← hv]; exact may_any g p r h w eg hg
theorem eR : ∀ args w, (callFunc 26 args).run Tryz.prog w = .ok (.enter 26 args) w := enters_of Tryz.func26 (by kernel_rfl) rfl
theorem eW : ∀ args w, (callFunc 62 args).run Tryz.prog w = .ok (.enter 62 args) w := enters_of Tryz.func62 (by kernel_rfl) rfl

/-- A value put into a lock's field of readers. -/
theorem LockAt.putReaders {w : World} {b : Nat} {l : L} {v : Value} {rs' : List Int} (h : LockAt w b l) (hv : Ints w 0 v rs') : LockAt (w.setCell ⟨b, 0, none⟩ v) b { l with rs := rs' } := by
  obtain ⟨a, cap, hB, _⟩ := h.cells
  exact ⟨v, hB.set 0 v rfl, hv.chg (Chg.set w b 0 v) (.one hB (by decide))⟩
theorem LockAt.putWriter {w : World} {b : Nat} {l : L} (h : LockAt w b l) (wr' : Option Int) : LockAt ((w.setCell ⟨b, 1, none⟩ (.int .i64 (wr'.getD 0))).setCell ⟨b, 2, none⟩ (.bool wr'.isSome)) b { l with wr := wr' } := by
  obtain ⟨a, cap, hB, hR⟩ := h.cells
  have h1 := hB.set 1 (.int .i64 (wr'.getD 0)) rfl
  have h2 := h1.set 2 (.bool wr'.isSome) rfl
  refine ⟨_, h2, ?_⟩
  have k1 := hR.chg (Chg.set w b 1 (.int .i64 (wr'.getD 0))) (.one hB (by decide))
  exact k1.chg (Chg.set _ b 2 (.bool wr'.isSome)) (.one h1 (by decide))

set_option maxHeartbeats 1000000 in
theorem Write_any (b : Nat) (l : L) (hi : Inv l) (hl : l.rs.length ≤ 1000000) (id : Int) (w : World) (h : LockAt w b l) :
    Calls Tryz.prog 25 #[.pointer (some ⟨b, 0, none⟩), .int .i64 id] w fun e w' => e = .returned (.bool (l.mayWrite id)) ∧ LockAt w' b (l.write id) ∧ Chg (· = b) w w' := by
  have H := Lib.hid h
  clear h
  cases hm : l.mayWrite id with
  | false =>
    have e1 : l.write id = l := by unfold L.write; rw [hm]; simp
    rw [e1]
    have HM := Lib.hid (show (l.idle && !l.holds id) = false from hm)
    clear e1 hm
    go_enter Tryz.func25, Tryz.ntmps25
    go_wp2_with fail
    refine (Holds_any _ _ hi hl _ _ H.out).mono ?_
    rintro e w1 ⟨rfl, hE⟩
    have H1 := Lib.hid (H.out.ext hE)
    go_wp2_with fail
    refine (may_at _ _ _ _ _ HM.out _ eW (MayWrite_any _ _ _ H1.out)).mono ?_
    rintro e w' ⟨rfl, rfl⟩
    go_wp2_with fail
    go_ret
    exact ⟨rfl, H1.out, Chg.of_below hE⟩
  | true =>
    have e1 : l.write id = { l with wr := some id } := by unfold L.write; rw [hm]; simp
    rw [e1]
    have HM := Lib.hid (show (l.idle && !l.holds id) = true from hm)
    clear e1 hm
    go_enter Tryz.func25, Tryz.ntmps25
    go_wp2_with fail
    refine (Holds_any _ _ hi hl _ _ H.out).mono ?_
    rintro e w1 ⟨rfl, hE1⟩
    have H1 := Lib.hid (H.out.ext hE1)
    go_wp2_with fail
    refine (may_at _ _ _ _ _ HM.out _ eW (MayWrite_any _ _ _ H1.out)).mono ?_
    rintro e w' ⟨rfl, rfl⟩
    obtain ⟨a, cap, hB, _⟩ := H1.out.cells
    have b1 := hB.cell (i := 1) rfl
    have b2 := hB.cell (i := 2) rfl
    have f1 := hB.frozen 1
    have f2 := hB.frozen 2
    clear hB
    go_wp2_with fail
    go_ret
    exact ⟨rfl, H1.out.putWriter (some id), chg_ext hE1 ((Chg.set _ _ _ _).trans (Chg.set _ _ _ _))⟩
theorem Write_nil (id : Int) (w : World) : Calls Tryz.prog 25 #[.pointer none, .int .i64 id] w fun e w' => e = .returned (.bool false) ∧ w = w' := by
  go_enter Tryz.func25, Tryz.ntmps25
  go_wp2_with fail
  refine (Holds_nil _ _).mono ?_
  rintro e w' ⟨rfl, rfl⟩
  go_wp2_with fail
  refine (may_at _ _ false false false rfl _ eW (MayWrite_nil _)).mono ?_
  rintro e w' ⟨rfl, rfl⟩
  go_wp2_with fail
  go_ret
  exact ⟨rfl, rfl⟩

set_option maxHeartbeats 1000000 in
theorem Free_any (b : Nat) (l : L) (hi : Inv l) (hl : l.rs.length ≤ 1000000) (id : Int) (w : World) (h : LockAt w b l) :
    Calls Tryz.prog 27 #[.pointer (some ⟨b, 0, none⟩), .int .i64 id] w fun e w' => e = .returned (.bool (l.holds id)) ∧ LockAt w' b (l.free id) ∧ Chg (· = b) w w' := by
  have H := Lib.hid h
  clear h
  cases hm : l.holds id with
  | false =>
    have e1 : l.free id = l := by unfold L.free; rw [hm]; simp
    rw [e1]
    have HM := Lib.hid hm
    clear e1 hm
    go_enter Tryz.func27, Tryz.ntmps27
    go_wp2_with fail
    refine (Holds_any _ _ hi hl _ _ H.out).mono ?_
    rw [HM.out]
    rintro e w1 ⟨rfl, hE⟩
    have H1 := Lib.hid (H.out.ext hE)
    go_wp2_with fail
    go_ret
    exact ⟨rfl, H1.out, Chg.of_below hE⟩
  | true =>
    have HM := Lib.hid hm
    cases hw : l.wr with
    | some x =>
      have e1 : l.free id = { l with wr := none } := by unfold L.free; rw [hm, hw]; simp
      rw [e1]
      have HW := Lib.hid hw
      clear e1 hm hw
      go_enter Tryz.func27, Tryz.ntmps27
      go_wp2_with fail
      refine (Holds_any _ _ hi hl _ _ H.out).mono ?_
      rw [HM.out]
      rintro e w1 ⟨rfl, hE⟩
      have H1 := Lib.hid (H.out.ext hE)
      obtain ⟨a, cap, hB, _⟩ := H1.out.cells
      rw [HW.out] at hB
      have b1 : w1.cell? ⟨b, 1, none⟩ = some (.int .i64 x) := hB.cell (i := 1) rfl
      have b2 : w1.cell? ⟨b, 2, none⟩ = some (.bool true) := hB.cell (i := 2) rfl
      have f1 := hB.frozen 1
      have f2 := hB.frozen 2
      clear hB
      go_wp2_with fail
      go_ret
      exact ⟨rfl, H1.out.putWriter none, chg_ext hE ((Chg.set _ _ _ _).trans (Chg.set _ _ _ _))⟩
    | none =>
      have hmem : id ∈ l.rs := by simpa [L.holds, hw] using hm
      have e1 : l.free id = { l with rs := delI l.rs id } := by unfold L.free; rw [hm, hw]; simp
      rw [e1]
      have HW := Lib.hid hw
      have hcl := cnt_lt hi.up hmem
      clear e1 hm hw hmem
      go_enter Tryz.func27, Tryz.ntmps27
      go_wp2_with fail
      refine (Holds_any _ _ hi hl _ _ H.out).mono ?_
      rw [HM.out]
      rintro e w1 ⟨rfl, hE1⟩
      have H1 := Lib.hid (H.out.ext hE1)
      obtain ⟨a, cap, hB, hR⟩ := H1.out.cells
      rw [HW.out] at hB
      have b2 : w1.cell? ⟨b, 2, none⟩ = some (.bool false) := hB.cell (i := 2) rfl
      clear hB hR
      go_wp2_with fail
      refine (reads_any _ _ hi hl _ _ H1.out).mono ?_
      rintro e w2 ⟨rfl, hE2⟩
      have H2 := Lib.hid (H1.out.ext hE2)
      obtain ⟨a, cap, hB, hR⟩ := H2.out.cells
      have b0 := hB.cell (i := 0) rfl
      have HR := Lib.hid hR
      clear hB hR b2
      go_wp2_with fail
      refine (clone_any _ _ _ _ HR.out hl).mono ?_
      rintro e w3 ⟨v3, rfl, hV, hE3⟩
      obtain ⟨a3, cap3, _, rfl, _⟩ := hV.openI
      have hlt := World.ownsRow.lt hV
      have HV := Lib.hid hV
      have HLT := Lib.hid hlt
      have hE0 : Ext w w3 := Ext.trans (Ext.trans hE1 hE2) hE3
      have HE := Lib.hid hE0
      have HZ := Lib.hid (show w.heap.size ≤ w2.heap.size from Nat.le_trans hE1.size hE2.size)
      clear hV hlt hE1 hE2 hE3 hE0 b0
      go_wp2_with fail
      refine (delete_any w2.heap.size _ l.rs (cnt l.rs id) _ HV.out hl hcl).mono ?_
      rintro e w4 ⟨v4, rfl, hV4, hC4⟩
      obtain ⟨a4, cap4, _, rfl, _⟩ := hV4.openI
      have hE4 : Ext w w4 := below_chg HE.out hC4 (fun k hk => by have := (HLT.out _ hk).1; have := HZ.out; omega)
      have H4 := Lib.hid (H.out.ext hE4)
      have HV4 := Lib.hid (hV4.base (Nat.zero_le _))
      have HE4 := Lib.hid hE4
      obtain ⟨ax, cx, hB4, _⟩ := H4.out.cells
      have b0 := hB4.cell (i := 0) rfl
      have b1 := hB4.frozen 0
      clear hV4 hC4 hE4 hB4
      go_wp2_with fail
      go_ret
      exact ⟨rfl, H4.out.putReaders HV4.out, chg_ext HE4.out (Chg.set _ _ _ _)⟩
theorem Free_nil (id : Int) (w : World) : Calls Tryz.prog 27 #[.pointer none, .int .i64 id] w fun e w' => e = .returned (.bool false) ∧ w = w' := by
  go_enter Tryz.func27, Tryz.ntmps27
  go_wp2_with fail
  refine (Holds_nil _ _).mono ?_
  rintro e w' ⟨rfl, rfl⟩
  go_wp2_with fail
  go_ret
  exact ⟨rfl, rfl⟩

end Go.Proofs.YtdfbfcglacalmaaGreat.Lo1
end

section
namespace Go.Proofs.YtdfbfcglacalmaaGreat.Sto
open Go.RowKit Go.Seg Go.Open Go.Lib Rk Ex St

section
variable {n b : Nat} {te : Nat → T Int ShI.Ent} {tw : Nat → T Int (Int × Int)} {lk : Nat → Option Addr} {y : List (Int × Int)}
def updL (lk : Nat → Option Addr) (i : Nat) (a : Option Addr) : Nat → Option Addr := fun j => if j = i then a else lk j
theorem StoC.lock {w w2 : World} {bx : Nat} {s : Sto} {cs : Array Value} (h : StoC w b bx s cs) (e : Ext w w2) {i : Nat} (hi : i < 256) (a : Option Addr) :
    StoC (w2.setCell ⟨b, 256 + i, Option.none⟩ (.pointer a)) b bx { s with lk := updL s.lk i a } (cs.setIfInBounds (256 + i) (.pointer a)) := by
  have h2 := h.ext e
  have hc := Chg.set w2 b (256 + i) (.pointer a)
  refine ⟨h2.blk.set (256 + i) _ rfl, by simp [h2.size], fun j hj => ?_, fun j hj => ?_, ?_, idx_one h2.idx hc h2.blk (by decide), fun j m hj => (h2.has j m hj).one hc h2.blk (by decide), h.none, h.inj, h.low, h.lows⟩
  · rw [set_get (h2.sh j hj), if_neg (by omega)]
  · rw [set_get (h2.lk j hj)]
    by_cases e3 : i = j
    · subst e3; simp [updL]
    · rw [if_neg (by omega)]
      show _ = some (Value.pointer (if j = i then a else s.lk j))
      rw [if_neg (Ne.symm e3)]
  · rw [set_get h2.ix, if_neg (by omega)]
/-- Another block changes. -/
theorem lock_chg {w w' : World} {p k : Nat} {l : Lk.L} {c : Array Value} {E : TypeId} (h : Lo1.LockAt w p l) (hc : Chg (· = k) w w') (hk : Blk w k c E) (h1 : E ≠ 100) (h2 : E ≠ 3) : Lo1.LockAt w' p l := by
  obtain ⟨v, hB, hI⟩ := h
  exact ⟨v, hB.chg hc (.one hk h1), hI.chg hc (.one hk h2)⟩
set_option maxRecDepth 100000 in
set_option maxHeartbeats 2000000 in
theorem Lock_old (h : Int) {w : World} (hS : Has n w b te tw lk y) (h0 : 0 ≤ h) (h1 : h ≤ 18446744073709551615) {a : Addr} (ha : lk (shd h) = some a) :
    Calls Tryz.prog 24 #[.pointer (some ⟨b, 0, none⟩), .int .u64 h] w fun e w' => e = .returned (.pointer (some a)) ∧ w = w' := by
  obtain ⟨ps, bx, cs, hC⟩ := hS
  obtain ⟨i, hii⟩ : ∃ i, shd h = i := ⟨_, rfl⟩
  have hi : i < 256 := by rw [← hii]; exact shd_lt h
  rw [hii] at ha
  have HI := Lib.hid hii
  have b0 : (0 : Int) ≤ (i : Int) := by omega
  have b1 : (i : Int) < 256 := by omega
  have c1 := (Blk.cells hC.blk (256 + i)).trans (hC.lk i hi)
  dsimp only at c1
  rw [ha] at c1
  have HK := Lib.hid (Shard_key h h0 h1 w)
  clear hC hii ha
  go_enter Tryz.func24, Tryz.ntmps24
  go_wp2_with fail
  refine HK.out.mono ?_
  rintro e w' ⟨rfl, rfl⟩
  rw [HI.out]
  go_wp2_with fail
  go_ret
  exact ⟨rfl, rfl⟩
set_option maxRecDepth 100000 in
set_option maxHeartbeats 2000000 in
theorem Lock_new (h : Int) {w : World} (hS : Has n w b te tw lk y) (h0 : 0 ≤ h) (h1 : h ≤ 18446744073709551615) (ha : lk (shd h) = none) :
    Calls Tryz.prog 24 #[.pointer (some ⟨b, 0, none⟩), .int .u64 h] w fun e w' => ∃ p, e = .returned (.pointer (some ⟨p, 0, none⟩)) ∧ w.heap.size ≤ p ∧ Lo1.LockAt w' p ⟨[], none⟩ ∧ Has n w' b te tw (updL lk (shd h) (some ⟨p, 0, none⟩)) y ∧ Chg (· = b) w w' := by
  obtain ⟨ps, bx, cs, hC⟩ := hS
  obtain ⟨i, hii⟩ : ∃ i, shd h = i := ⟨_, rfl⟩
  have hi : i < 256 := by rw [← hii]; exact shd_lt h
  rw [hii] at ha ⊢
  have HI := Lib.hid hii
  have HC := Lib.hid hC
  have b0 : (0 : Int) ≤ (i : Int) := by omega
  have b1 : (i : Int) < 256 := by omega
  have c1 := (Blk.cells hC.blk (256 + i)).trans (hC.lk i hi)
  dsimp only at c1
  rw [ha] at c1
  have HK := Lib.hid (Shard_key h h0 h1 w)
  clear hC hii
  have HA := Lib.hid ha
  clear ha
  go_enter Tryz.func24, Tryz.ntmps24
  go_wp2_with fail
  refine HK.out.mono ?_
  rintro e w' ⟨rfl, rfl⟩
  rw [HI.out]
  go_wp2_with fail
  clear c1
  refine wp_region_segsK [([2, 1, 2, 2], 0, 0), ([1, 2], 1, 0), ([1, 1], 0, 0), ([1], 1, 0)] (by kernel_rfl) (by kernel_rfl) ?_
  apply segsK_pure
  · intro W
    simp only [runsT, runsF, rep, pick]
    go_wp2_with fail
    exact ⟨rfl, rfl⟩
  simp only [runsT, runsF, rep, left]
  apply segsK_op
  go_wp2_with fail
  refine (Lo1.New_any _).mono ?_
  rintro e w2 ⟨p, rfl, hp, hL, hE⟩
  have HN := Lib.hid (And.intro (show w.heap.size ≤ p from hp) (And.intro hL (Ext.trans (Ext.drew _) hE)))
  have cb := (HC.out.ext HN.out.2.2).blk
  have c2 := (Blk.cells cb (256 + i)).trans (HC.out.lk i hi)
  have f2 := cb.frozen (256 + i)
  dsimp only at c2
  rw [HA.out] at c2
  clear hp hL hE cb
  go_wp2_with fail
  refine ⟨fun h => (by cases h), ?_⟩
  apply segsK_pure
  · intro W
    simp only [runsT, runsF, rep, pick]
    go_wp2_with fail
    exact ⟨rfl, rfl⟩
  simp only [runsT, runsF, rep, left]
  apply segsK_op
  go_wp2_with fail
  refine ⟨fun h => (by cases h), ?_⟩
  apply segsK_nil
  go_upto_region 6 with fail
  obtain ⟨w3, hw3⟩ : ∃ w3, w2.setCell ⟨b, 256 + i, Option.none⟩ (.pointer (some ⟨p, 0, Option.none⟩)) = w3 := ⟨_, rfl⟩
  rw [hw3]
  have hL := HC.out.lock HN.out.2.2 hi (some ⟨p, 0, Option.none⟩)
  have hG : Chg (· = b) w w3 := by rw [← hw3]; exact (Chg.of_below HN.out.2.2).trans (Chg.set _ _ _ _)
  obtain ⟨q0, hB0⟩ := HN.out.2.1.blk
  have hne : b ≠ p := by
    have := HC.out.blk.lt
    have := HN.out.1
    omega
  have hK : Lo1.LockAt w3 p ⟨[], Option.none⟩ := by
    rw [← hw3]
    exact lock_chg HN.out.2.1 (Chg.set _ _ _ _) (HC.out.ext HN.out.2.2).blk (by decide) (by decide)
  rw [hw3] at hL
  have c3 : w3.cell? ⟨b, 256 + i, Option.none⟩ = some (.pointer (some ⟨p, 0, Option.none⟩)) := by
    have h3 := (Blk.cells hL.blk (256 + i)).trans (hL.lk i hi)
    simpa [updL] using h3
  have HL := Lib.hid (And.intro hL (And.intro hG (And.intro hK HN.out.1)))
  clear c2 f2 hw3 hL hG hK hB0 hne
  go_wp2_with fail
  go_ret
  exact ⟨p, rfl, HL.out.2.2.2, HL.out.2.2.1, ⟨ps, bx, _, HL.out.1⟩, HL.out.2.1⟩
end
end Go.Proofs.YtdfbfcglacalmaaGreat.Sto
end

section
namespace Go.Proofs.YtdfbfcglacalmaaGreat.Sto
open Go.RowKit Go.Seg Go.Open Go.Lib Rk Ex St

theorem agg_L (w : World) : (isAgg 85).run Tryz.prog w = .ok true w := by kernel_rfl
theorem size_L (w : World) : (sizeOf 85).run Tryz.prog w = .ok 256 w := by kernel_rfl
theorem agg_S (w : World) : (isAgg 84).run Tryz.prog w = .ok true w := by kernel_rfl
theorem size_S (w : World) : (sizeOf 84).run Tryz.prog w = .ok 256 w := by kernel_rfl
theorem load256 {W : World} {P : Program} {b o : Nat} {x : List Value} (hx : x.length = 256) (hc : ∀ j, j < 256 → W.cell? ⟨b, o + j, none⟩ = x[j]?) : (loadCellsFrom ⟨b, o, none⟩ 0 256 #[]).run P W = .ok x.toArray W := by
  have := run_loadCells_list (P := P) W ⟨b, o, none⟩ x (fun j v hv => by
    have hadd : (⟨b, o, none⟩ : Addr).add j = ⟨b, o + j, none⟩ := by unfold Addr.add; split <;> simp_all
    have hj : j < x.length := (List.getElem?_eq_some_iff.1 hv).1
    rw [hadd, hc j (by omega)]
    exact hv)
  rw [hx] at this
  simpa [loadCells] using this
/-- A row of 256 pointers. -/
def row256 (g : Nat → Value) : List Value := (List.range 256).map g
theorem row256_len (g : Nat → Value) : (row256 g).length = 256 := by simp [row256]
theorem row256_get (g : Nat → Value) {i : Nat} (h : i < 256) : (row256 g)[i]? = some (g i) := by simp [row256, h]
theorem idxL (g : Nat → Option Addr) (i : Nat) (h : i < 256) (w : World) : (Instr.index 85 (.agg (row256 fun i => .pointer (g i)).toArray) (.int .i64 i)).run Tryz.prog w = .ok (.pointer (g i)) w := by
  have hu : Tryz.prog.underlying 85 = some (.array 256 64) := by kernel_rfl
  have hs : ∀ w, (sizeOf 64).run Tryz.prog w = .ok 1 w := fun w => by kernel_rfl
  have hg : ∀ w, (isAgg 64).run Tryz.prog w = .ok false w := fun w => by kernel_rfl
  have h1 : (0 : Int) ≤ (i : Int) ∧ (i : Int) < 256 := by omega
  have h2 := row256_get (fun i => .pointer (g i)) h
  simp [Instr.index, run_underlying hu, asIntOf, h1, go_sem, hs, part, hg, h2]
  exact fun h3 => absurd h (by omega)
theorem idxS (g : Nat → Option Nat) (i : Nat) (h : i < 256) (w : World) : (Instr.index 84 (.agg (row256 fun i => pA (g i)).toArray) (.int .i64 i)).run Tryz.prog w = .ok (pA (g i)) w := by
  have hu : Tryz.prog.underlying 84 = some (.array 256 67) := by kernel_rfl
  have hs : ∀ w, (sizeOf 67).run Tryz.prog w = .ok 1 w := fun w => by kernel_rfl
  have hg : ∀ w, (isAgg 67).run Tryz.prog w = .ok false w := fun w => by kernel_rfl
  have h1 : (0 : Int) ≤ (i : Int) ∧ (i : Int) < 256 := by omega
  have h2 := row256_get (fun i => pA (g i)) h
  simp [Instr.index, run_underlying hu, asIntOf, h1, go_sem, hs, part, hg, h2]
  exact fun h3 => absurd h (by omega)
/-- What tells of a lock whether it is idle. -/
def IdleAt (w : World) (a : Option Addr) (r : Bool) : Prop := (a = none ∧ r = true) ∨ ∃ p l, a = some ⟨p, 0, none⟩ ∧ Lo1.LockAt w p l ∧ Lk.L.idle l = r
theorem idle_of (a : Option Addr) (r : Bool) (w : World) (h : IdleAt w a r) : Calls Tryz.prog 55 #[.pointer a] w fun e w' => e = .returned (.bool r) ∧ w = w' := by
  rcases h with ⟨rfl, rfl⟩ | ⟨p, l, rfl, h, rfl⟩
  · exact Lo1.Idle_nil w
  · exact Lo1.Idle_any p l w h
section
variable {n b : Nat} {te : Nat → T Int ShI.Ent} {tw : Nat → T Int (Int × Int)} {lk : Nat → Option Addr} {y : List (Int × Int)}
set_option maxRecDepth 100000 in
set_option maxHeartbeats 2000000 in
theorem Idle_yes {w : World} (hS : Has n w b te tw lk y) (hI : ∀ i, i < 256 → IdleAt w (lk i) true) :
    Calls Tryz.prog 20 #[.pointer (some ⟨b, 0, none⟩)] w fun e w' => e = .returned (.bool true) ∧ w = w' := by
  obtain ⟨ps, bx, cs, hC⟩ := hS
  have l1 := Arr.run_loadA (agg_L w) (size_L w) (load256 (P := Tryz.prog) (b := b) (o := 256) (row256_len (fun i => .pointer (lk i))) (fun j hj => by rw [row256_get _ hj]; exact (Blk.cells hC.blk (256 + j)).trans (hC.lk j hj)))
  have HX := Lib.hid (idxL lk)
  have HI := Lib.hid hI
  obtain ⟨A, hA⟩ : ∃ A, (row256 fun i => .pointer (lk i)).toArray = A := ⟨_, rfl⟩
  rw [hA] at l1 HX
  clear hA hC hI
  go_enter Tryz.func20, Tryz.ntmps20
  go_wp2_with (first | refine Arr.wpList_ldA rfl _ _ rfl _ l1 ?_)
  go_loopg [4, 11] 256 (fun g _ i wr => ∃ k : Nat, i = .int .i64 k ∧ k ≤ 256 ∧ wr = w ∧ 256 - k ≤ g)
  case atStart => exact ⟨0, rfl, by omega, rfl, Nat.le_refl _⟩
  case round =>
    obtain ⟨k, rfl, hk, rfl, hg⟩ := hrel
    by_cases hik : k < 256
    · have x1 := HX.out k hik wr
      go_wp2_with fail
      refine (idle_of _ _ _ (HI.out k hik)).mono ?_
      rintro e w' ⟨rfl, rfl⟩
      go_wp2_with fail
      go_roundg (256 - (k + 1))
      case measure => omega
      case rel => exact ⟨k + 1, by go_num, by omega, rfl, Nat.le_refl _⟩
    · go_wp2_with fail
      go_ret
      exact ⟨rfl, rfl⟩
set_option maxRecDepth 100000 in
set_option maxHeartbeats 2000000 in
theorem Idle_no {w : World} (hS : Has n w b te tw lk y) (id : Nat → Bool) (hI : ∀ i, i < 256 → IdleAt w (lk i) (id i)) (i0 : Nat) (h0 : i0 < 256) (hn : id i0 = false) :
    Calls Tryz.prog 20 #[.pointer (some ⟨b, 0, none⟩)] w fun e w' => e = .returned (.bool false) ∧ w = w' := by
  obtain ⟨ps, bx, cs, hC⟩ := hS
  have l1 := Arr.run_loadA (agg_L w) (size_L w) (load256 (P := Tryz.prog) (b := b) (o := 256) (row256_len (fun i => .pointer (lk i))) (fun j hj => by rw [row256_get _ hj]; exact (Blk.cells hC.blk (256 + j)).trans (hC.lk j hj)))
  have HX := Lib.hid (idxL lk)
  have HI := Lib.hid hI
  have HN := Lib.hid hn
  obtain ⟨A, hA⟩ : ∃ A, (row256 fun i => .pointer (lk i)).toArray = A := ⟨_, rfl⟩
  rw [hA] at l1 HX
  clear hA hC hI hn
  go_enter Tryz.func20, Tryz.ntmps20
  go_wp2_with (first | refine Arr.wpList_ldA rfl _ _ rfl _ l1 ?_)
  go_loopg [4, 11] 256 (fun g _ i wr => ∃ k : Nat, i = .int .i64 k ∧ k ≤ i0 ∧ wr = w ∧ 256 - k ≤ g)
  case atStart => exact ⟨0, rfl, by omega, rfl, Nat.le_refl _⟩
  case round =>
    obtain ⟨k, rfl, hk, rfl, hg⟩ := hrel
    have hik : k < 256 := by omega
    have x1 := HX.out k hik wr
    have hr := HI.out k hik
    go_wp2_with fail
    refine (idle_of _ _ _ hr).mono ?_
    rintro e w' ⟨rfl, rfl⟩
    clear hr
    cases hid : id k with
    | true =>
      have hne : k ≠ i0 := fun e => by rw [e, HN.out] at hid; cases hid
      go_wp2_with fail
      go_roundg (256 - (k + 1))
      case measure => omega
      case rel => exact ⟨k + 1, by go_num, by omega, rfl, Nat.le_refl _⟩
    | false =>
      go_wp2_with fail
      go_ret
      exact ⟨rfl, rfl⟩
/-- How many are there in the first shards. -/
def sumN (te : Nat → T Int ShI.Ent) (n : Nat) : Int := ((List.range n).map fun i => (te i).sz).sum
theorem sumN_succ (te : Nat → T Int ShI.Ent) (n : Nat) : sumN te (n + 1) = sumN te n + (te n).sz := by
  unfold sumN
  rw [List.range_succ, List.map_append, List.sum_append]
  simp
theorem sumN_nn (te : Nat → T Int ShI.Ent) (n : Nat) : 0 ≤ sumN te n := by
  rw [show sumN te n = _ from (rows_len te n).symm]
  omega
theorem sumN_le (te : Nat → T Int ShI.Ent) : ∀ n m, sumN te n ≤ sumN te (n + m)
  | n, 0 => Int.le_refl _
  | n, m + 1 => by
    have := sumN_le te n m
    have h1 := sumN_succ te (n + m)
    have h2 := T.sz_nn (te (n + m))
    rw [show n + (m + 1) = (n + m) + 1 by omega, h1]
    omega
theorem slen_of (p : Option Nat) (te : T Int ShI.Ent) (tw : T Int (Int × Int)) (w : World) (hs : ∀ k, p = some k → ShI.ShardAt w k te tw) (hn : p = none → te = .nil) : Calls Tryz.prog 51 #[pA p] w fun e w' => e = .returned (.int .i64 te.sz) ∧ w = w' := by
  cases p with
  | none =>
    rw [hn rfl]
    exact ShI.SLen_nil w
  | some k => exact ShI.SLen_any k te tw w (hs k rfl)
set_option maxRecDepth 100000 in
set_option maxHeartbeats 2000000 in
theorem Len_any {w : World} (hS : Has n w b te tw lk y) (hl : (rows te).length ≤ 1000000) :
    Calls Tryz.prog 15 #[.pointer (some ⟨b, 0, none⟩)] w fun e w' => e = .returned (.int .i64 (rows te).length) ∧ w = w' := by
  obtain ⟨ps, bx, cs, hC⟩ := hS
  have l1 := Arr.run_loadA (agg_S w) (size_S w) (load256 (P := Tryz.prog) (b := b) (o := 0) (row256_len (fun i => pA (ps i))) (fun j hj => by rw [row256_get _ hj, Nat.zero_add]; exact (Blk.cells hC.blk j).trans (hC.sh j hj)))
  have HX := Lib.hid (idxS ps)
  have hsum : sumN te 256 = ((rows te).length : Nat) := (rows_len te 256).symm
  have HS := Lib.hid hsum
  have HC := Lib.hid hC
  obtain ⟨A, hA⟩ : ∃ A, (row256 fun i => pA (ps i)).toArray = A := ⟨_, rfl⟩
  rw [hA] at l1 HX
  have hl : sumN te 256 ≤ 1000000 := by rw [hsum]; omega
  rw [← hsum]
  have HL := Lib.hid hl
  clear hA hC hsum hl
  go_enter Tryz.func15, Tryz.ntmps15
  go_wp2_with (first | refine Arr.wpList_ldA rfl _ _ rfl _ l1 ?_)
  go_loopg [2, 4, 11] 256 (fun g s _ i wr => ∃ (k : Nat) (m : Int), i = .int .i64 k ∧ k ≤ 256 ∧ s = .int .i64 m ∧ Hid (sumN te k = m) ∧ wr = w ∧ 256 - k ≤ g)
  case atStart => exact ⟨0, 0, rfl, by omega, rfl, Lib.hid rfl, rfl, Nat.le_refl _⟩
  case round =>
    obtain ⟨k, m, rfl, hk, rfl, HM, rfl, hg⟩ := hrel
    by_cases hik : k < 256
    · have x1 := HX.out k hik wr
      have h1 := sumN_succ te k
      have h2 := sumN_nn te k
      have h3 := sumN_le te (k + 1) (256 - (k + 1))
      have h4 := sumN_nn te (k + 1)
      have h5 := HL.out
      rw [show k + 1 + (256 - (k + 1)) = 256 by omega] at h3
      rw [HM.out] at h1 h2
      have hw : wrap64 (m + (te k).sz) = sumN te (k + 1) := by unfold wrap64; omega
      have HW := Lib.hid hw
      clear h1 h2 h3 h4 h5 hw
      go_wp2_with fail
      refine (slen_of _ (te k) (tw k) _ (fun q hq => HC.out.has k q hq) (fun hq => (HC.out.none k hq).1)).mono ?_
      rintro e w' ⟨rfl, rfl⟩
      go_wp2_with fail
      go_roundg (256 - (k + 1))
      case measure => omega
      case rel => exact ⟨k + 1, sumN te (k + 1), by go_num, by omega, by (first | rw [← HW.out]; rfl | (rw [HW.out])), Lib.hid rfl, rfl, Nat.le_refl _⟩
    · obtain rfl : k = 256 := by omega
      go_wp2_with fail
      go_ret
      exact ⟨by rw [HM.out]; rfl, rfl⟩
end
end Go.Proofs.YtdfbfcglacalmaaGreat.Sto
end

section
namespace Go.Proofs.YtdfbfcglacalmaaGreat.Sto
open Go.RowKit Go.Seg Go.Open Go.Lib Rk Ex St

theorem Frm.toExt {n : Nat} {w w' : World} (h : Frm n w w') (hn : w.heap.size ≤ n) : Ext w w' := Chg.ext h (fun _ hk => Nat.le_trans hn hk.1)
def vA : ShI.Ent := (4, 8, 5, 0, 0, 0)
def teA : Nat → T Int ShI.Ent := updT (fun _ => .nil) (shd 3) (T.put cint 3 vA .nil)
theorem find_a : findO (teA (shd 3)) 3 4 = some vA := by decide
theorem rows_a : (rows teA).length = 1 := by
  have h := rows_put (te := fun _ => .nil) Ok.nil (k := 3) (by decide) vA
  rw [rows_nil] at h
  show (rows (updT (fun _ => .nil) (shd 3) (T.put cint 3 vA .nil))).length = 1
  rw [h]
  rfl
theorem awake_any (w : World) : Calls Tryz.prog 5 #[] w fun e w' => e = .returned (.bool true) ∧ Ext w w' := by
  obtain ⟨n, hn⟩ : ∃ n, w.heap.size = n := ⟨_, rfl⟩
  have HN := Lib.hid hn
  clear hn
  go_enter Tryz.func5, Tryz.ntmps5
  go_wp2_with fail
  refine (New_store n _ (by rw [HN.out]; exact Nat.le_refl _)).mono ?_
  rintro e w1 ⟨b, rfl, hS, hE⟩
  have HS1 := Lib.hid (show Has n w1 b (fun _ => .nil) (fun _ => .nil) (fun _ => none) [] from ⟨_, hS⟩)
  have HF1 := Lib.hid (Frm.ext (n := n) hE)
  clear hS hE
  go_wp2_with fail
  refine (Put_any 3 vA HS1.out (by decide) (by decide) (by decide) (by decide)).mono ?_
  rintro e w2 ⟨rfl, hS2, hF2⟩
  have HS2 := Lib.hid (show Has n w2 b teA (fun _ => .nil) (fun _ => none) (refPut [] 3 5) from hS2)
  have HF2 := Lib.hid (HF1.out.trans hF2)
  clear hS2 hF2
  go_wp2_with fail
  refine (Get_any 3 4 0 4 HS2.out (by decide) (by decide) (by decide)).mono ?_
  rintro e w3 ⟨rfl, hS3, hC3⟩
  rw [find_a, show gotV (some vA) 0 4 = .tuple #[.int .i64 8, .bool true] from rfl]
  have HS3 := Lib.hid hS3
  have HF3 := Lib.hid (HF2.out.trans (HS2.out.frm hC3))
  clear hS3 hC3
  go_wp2_with fail
  refine (Get_any 3 4 0 5 HS3.out (by decide) (by decide) (by decide)).mono ?_
  rintro e w4 ⟨rfl, hS4, hC4⟩
  rw [find_a, show gotV (some vA) 0 5 = .tuple #[.int .i64 0, .bool false] from rfl]
  have HS4 := Lib.hid hS4
  have HF4 := Lib.hid (HF3.out.trans (HS3.out.frm hC4))
  clear hS4 hC4
  go_wp2_with fail
  refine (Len_any HS4.out (by rw [rows_a]; decide)).mono ?_
  rintro e w5 ⟨rfl, rfl⟩
  rw [rows_a]
  go_wp2_with fail
  go_ret
  exact ⟨rfl, HF4.out.toExt (by rw [HN.out]; exact Nat.le_refl _)⟩
end Go.Proofs.YtdfbfcglacalmaaGreat.Sto
end

section
namespace Go.Proofs.YtdfbfcglacalmaaGreat.Sto
open Go.RowKit Go.Seg Go.Open Go.Lib

theorem agg_s (w : World) : (isAgg 74).run Tryz.prog w = .ok true w := by kernel_rfl
theorem size_s (w : World) : (sizeOf 74).run Tryz.prog w = .ok 6 w := by kernel_rfl
theorem ldS {w : World} {k : Nat} (h : Blk w k #[.int .u64 0, .string ⟨#[]⟩, .int .i64 0, .int .i64 0, .int .i64 0, .int .i64 0] 74) : (Instr.loadAt 74 (.pointer (some ⟨k, 0, none⟩))).run Tryz.prog w = .ok (.agg #[.int .u64 0, .string ⟨#[]⟩, .int .i64 0, .int .i64 0, .int .i64 0, .int .i64 0]) w :=
  Arr.run_loadA (agg_s w) (size_s w) (struct_load h 6 rfl)
theorem stS {w : World} {k : Nat} (h : Blk w k #[.int .u64 0, .string ⟨#[]⟩, .int .i64 0, .int .i64 0, .int .i64 0, .int .i64 0] 74) :
    ∃ W, (Instr.storeAt 74 (.pointer (some ⟨k, 0, none⟩)) (.agg #[.int .u64 0, .string ⟨#[]⟩, .int .i64 0, .int .i64 0, .int .i64 0, .int .i64 0])).run Tryz.prog w = .ok () W ∧ Blk W k #[.int .u64 0, .string ⟨#[]⟩, .int .i64 0, .int .i64 0, .int .i64 0, .int .i64 0] 74 ∧ Chg (· = k) w W := by
  obtain ⟨W, h1, h2, h3⟩ := struct_store (P := Tryz.prog) #[.int .u64 0, .string ⟨#[]⟩, .int .i64 0, .int .i64 0, .int .i64 0, .int .i64 0] h (by kernel_rfl) rfl (by simp [Value.oneCell'])
  exact ⟨W, Arr.run_storeA (size_s w) rfl h1, h2, h3⟩
/-- A block that is new changes. -/
theorem ext_new {w0 w1 w2 : World} {k : Nat} (h : Ext w0 w1) (hc : Chg (· = k) w1 w2) (hk : w0.heap.size ≤ k) : Ext w0 w2 :=
  ((Chg.of_below (S := fun _ => False) h).onNew hc hk).ext (fun _ h => h.elim)
abbrev tupS : Value := .tuple #[.agg #[.int .u64 0, .string ⟨#[]⟩, .int .i64 0, .int .i64 0, .int .i64 0, .int .i64 0], .bool false]
theorem nWays (h : Int) (w : World) : Calls Tryz.prog 38 #[.pointer none, .int .u64 h] w fun e w' => e = .returned (.pointer none) ∧ w = w' := by
  go_enter Tryz.func38, Tryz.ntmps38
  go_wp2_with fail
  go_ret
  exact ⟨rfl, rfl⟩
theorem nLock (h : Int) (w : World) : Calls Tryz.prog 37 #[.pointer none, .int .u64 h] w fun e w' => e = .returned (.pointer none) ∧ w = w' := by
  go_enter Tryz.func37, Tryz.ntmps37
  go_wp2_with fail
  go_ret
  exact ⟨rfl, rfl⟩
theorem nLen (w : World) : Calls Tryz.prog 36 #[.pointer none] w fun e w' => e = .returned (.int .i64 0) ∧ w = w' := by
  go_enter Tryz.func36, Tryz.ntmps36
  go_wp2_with fail
  go_ret
  exact ⟨rfl, rfl⟩
theorem nIdle (w : World) : Calls Tryz.prog 35 #[.pointer none] w fun e w' => e = .returned (.bool true) ∧ w = w' := by
  go_enter Tryz.func35, Tryz.ntmps35
  go_wp2_with fail
  go_ret
  exact ⟨rfl, rfl⟩
theorem nFirst (now : Int) (w : World) : Calls Tryz.prog 32 #[.pointer none, .int .i64 now] w fun e w' => e = .returned (.tuple #[.int .u64 0, .bool false]) ∧ w = w' := by
  go_enter Tryz.func32, Tryz.ntmps32
  go_wp2_with fail
  go_ret2
  exact ⟨rfl, rfl⟩
theorem nPut (h : Int) (w : World) : Calls Tryz.prog 33 #[.pointer none, .int .u64 h, .agg #[.int .u64 0, .string ⟨#[]⟩, .int .i64 0, .int .i64 0, .int .i64 0, .int .i64 0]] w fun e w' => e = .returned (.tuple #[]) ∧ Ext w w' := by
  go_enter Tryz.func33, Tryz.ntmps33
  go_wp2_with fail
  go_end0
  exact ⟨rfl, (Below.refl _ _).alloc (Nat.le_refl _) _⟩
set_option maxRecDepth 100000 in
set_option maxHeartbeats 2000000 in
theorem nLookS (h : Int) (w : World) : Calls Tryz.prog 99 #[.pointer none, .int .u64 h] w fun e w' => e = .returned tupS ∧ Ext w w' := by
  have hR := Blk.new w #[.int .u64 0, .string ⟨#[]⟩, .int .i64 0, .int .i64 0, .int .i64 0, .int .i64 0] 74
  have hA : Ext w (w.alloc (Obj.cells #[.int .u64 0, .string ⟨#[]⟩, .int .i64 0, .int .i64 0, .int .i64 0, .int .i64 0] 74)) := (Below.refl _ _).alloc (Nat.le_refl _) _
  have l1 := ldS hR
  obtain ⟨w3, s1, hR3, hX⟩ := stS hR
  have HH := Lib.hid (And.intro hR3 (ext_new hA hX (Nat.le_refl _)))
  clear hR hA hR3 hX
  go_enter Tryz.func99, Tryz.ntmps99
  go_wp2_with (first | refine Arr.wpList_ldA rfl _ _ rfl _ l1 ?_ | refine Arr.wpList_stA rfl _ _ _ rfl rfl s1 ?_)
  (try simp only [Exit.inBlock, Exit.then])
  refine bodyPost_ret (results_struct (ty := 74) rfl rfl rfl (c := #[.int .u64 0, .string ⟨#[]⟩, .int .i64 0, .int .i64 0, .int .i64 0, .int .i64 0]) HH.out.1 (by kernel_rfl) (by kernel_rfl)) rfl ?_
  exact ⟨rfl, HH.out.2⟩
set_option maxRecDepth 100000 in
set_option maxHeartbeats 2000000 in
theorem nFindS (h c : Int) (w : World) : Calls Tryz.prog 98 #[.pointer none, .agg #[.int .u64 h, .int .u64 c]] w fun e w' => e = .returned tupS ∧ Ext w w' := by
  have hA : Ext w ((w.alloc (Obj.cells #[.int .u64 h, .int .u64 c] 39)).alloc (Obj.cells #[.int .u64 0, .string ⟨#[]⟩, .int .i64 0, .int .i64 0, .int .i64 0, .int .i64 0] 74)) := ((Below.refl _ _).alloc (Nat.le_refl _) _).alloc (by simp) _
  have HA := Lib.hid hA
  have HR := Lib.hid (show Blk ((w.alloc (Obj.cells #[.int .u64 h, .int .u64 c] 39)).alloc (Obj.cells #[.int .u64 0, .string ⟨#[]⟩, .int .i64 0, .int .i64 0, .int .i64 0, .int .i64 0] 74)) (w.heap.size + 1) #[.int .u64 0, .string ⟨#[]⟩, .int .i64 0, .int .i64 0, .int .i64 0, .int .i64 0] 74 from ShI.blk_at (by simp))
  clear hA
  go_enter Tryz.func98, Tryz.ntmps98
  go_wp2_with fail
  refine (nLookS h _).mono ?_
  rintro e w2 ⟨rfl, hE2⟩
  have e1 : Ext w2 (w2.alloc (Obj.cells #[.int .u64 0, .string ⟨#[]⟩, .int .i64 0, .int .i64 0, .int .i64 0, .int .i64 0] 74)) := (Below.refl _ _).alloc (Nat.le_refl _) _
  have hs : w.heap.size ≤ w2.heap.size := (HA.out.trans hE2).size
  obtain ⟨w3, s1, hR3, hX⟩ := stS (Blk.new w2 #[.int .u64 0, .string ⟨#[]⟩, .int .i64 0, .int .i64 0, .int .i64 0, .int .i64 0] 74)
  have HE3 := Lib.hid (ext_new ((HA.out.trans hE2).trans e1) hX hs)
  have hr2 := HR.out.ext hE2
  obtain ⟨w4, s2, hR4, hX4⟩ := stS (blk_ne' (hr2.ext e1) hX (Nat.ne_of_lt hr2.lt))
  have HR4 := Lib.hid hR4
  have HE4 := Lib.hid (ext_new HE3.out hX4 (Nat.le_succ _))
  clear hE2 e1 hs hR3 hX hr2 hR4 hX4
  unfold tupS
  go_wp2_with (first | refine Arr.wpList_stA rfl _ _ _ rfl rfl s1 ?_ | refine Arr.wpList_stA rfl _ _ _ rfl rfl s2 ?_)
  (try simp only [Exit.inBlock, Exit.then])
  refine bodyPost_ret (results_struct (ty := 74) rfl rfl rfl (c := #[.int .u64 0, .string ⟨#[]⟩, .int .i64 0, .int .i64 0, .int .i64 0, .int .i64 0]) HR4.out (by kernel_rfl) (by kernel_rfl)) rfl ?_
  exact ⟨rfl, HE4.out⟩
set_option maxRecDepth 100000 in
set_option maxHeartbeats 2000000 in
theorem nFind (h c : Int) (w : World) : Calls Tryz.prog 70 #[.pointer none, .agg #[.int .u64 h, .int .u64 c]] w fun e w' => e = .returned tupS ∧ Ext w w' := by
  have hA : Ext w ((w.alloc (Obj.cells #[.int .u64 h, .int .u64 c] 39)).alloc (Obj.cells #[.int .u64 0, .string ⟨#[]⟩, .int .i64 0, .int .i64 0, .int .i64 0, .int .i64 0] 74)) := ((Below.refl _ _).alloc (Nat.le_refl _) _).alloc (by simp) _
  have HA := Lib.hid hA
  have HP := Lib.hid (show Blk ((w.alloc (Obj.cells #[.int .u64 h, .int .u64 c] 39)).alloc (Obj.cells #[.int .u64 0, .string ⟨#[]⟩, .int .i64 0, .int .i64 0, .int .i64 0, .int .i64 0] 74)) w.heap.size #[.int .u64 h, .int .u64 c] 39 from (Blk.new _ _ _).ext ((Below.refl _ _).alloc (Nat.le_refl _) _))
  have HR := Lib.hid (show Blk ((w.alloc (Obj.cells #[.int .u64 h, .int .u64 c] 39)).alloc (Obj.cells #[.int .u64 0, .string ⟨#[]⟩, .int .i64 0, .int .i64 0, .int .i64 0, .int .i64 0] 74)) (w.heap.size + 1) #[.int .u64 0, .string ⟨#[]⟩, .int .i64 0, .int .i64 0, .int .i64 0, .int .i64 0] 74 from ShI.blk_at (by simp))
  clear hA
  unfold tupS
  go_enter Tryz.func70, Tryz.ntmps70
  go_wp2_with fail
  refine wp_region_segsE (fun W => Blk W w.heap.size #[.int .u64 h, .int .u64 c] 39) (.quiet [3, 1, 1, 5] (.alt 0 (.alt 0 (.quiet [2, 2] (.alt 0 (.quiet [1] .done) .stop)) .stop) .stop)) (by kernel_rfl) (by kernel_rfl) (HP.out.ext (Ext.drew _)) ?_
  apply segE_quiet
  · intro W hW
    have cp : ∀ i, W.cell? ⟨w.heap.size, i, none⟩ = (#[.int .u64 h, .int .u64 c] : Array Value)[i]? := fun i => hW.cells i
    simp only [runsT, runsF, rep, pick]
    go_wp2_with fail
    exact ⟨rfl, rfl⟩
  simp only [runsT, runsF, rep, left]
  refine segE_alt _ rfl ?_ ?_
  · skip
    go_wp2_with fail
    refine (nWays _ _).mono ?_
    rintro e w1 ⟨rfl, rfl⟩
    go_wp2_with fail
    refine ⟨HP.out.ext (Ext.drew _), ?_⟩
    try dsimp only [List.eraseIdx]
    refine segE_alt _ rfl ?_ ?_
    · skip
      go_wp2_with fail
      refine (nFindS h c _).mono ?_
      rintro e w2 ⟨rfl, hE2⟩
      have HE2 := Lib.hid ((Ext.drew _).trans hE2)
      have HP2 := Lib.hid (HP.out.ext HE2.out)
      have HR2 := Lib.hid (HR.out.ext HE2.out)
      obtain ⟨w3, s1, hR3, hX⟩ := stS HR2.out
      have HR3 := Lib.hid hR3
      have HX := Lib.hid hX
      have HP3 := Lib.hid (HP2.out.chg hX (.one HR2.out (by decide)))
      clear hE2 hR3 hX
      go_wp2_with fail
      refine ⟨HP2.out, ?_⟩
      try dsimp only [List.eraseIdx]
      apply segE_quiet
      · intro W hW
        have cp : ∀ i, W.cell? ⟨w.heap.size, i, none⟩ = (#[.int .u64 h, .int .u64 c] : Array Value)[i]? := fun i => hW.cells i
        simp only [runsT, runsF, rep, pick]
        go_wp2_with fail
        exact ⟨rfl, rfl⟩
      simp only [runsT, runsF, rep, left]
      refine segE_alt _ rfl ?_ ?_
      · skip
        go_wp2_with (first | refine Arr.wpList_stA rfl _ _ _ rfl rfl s1 ?_)
        refine ⟨HP3.out, ?_⟩
        try dsimp only [List.eraseIdx]
        apply segE_quiet
        · intro W hW
          have cp : ∀ i, W.cell? ⟨w.heap.size, i, none⟩ = (#[.int .u64 h, .int .u64 c] : Array Value)[i]? := fun i => hW.cells i
          simp only [runsT, runsF, rep, pick]
          go_wp2_with fail
          exact ⟨rfl, rfl⟩
        simp only [runsT, runsF, rep, left]
        apply segE_done
        go_wp2_with fail
        (try simp only [Exit.inBlock, Exit.then])
        refine bodyPost_ret (results_struct (ty := 74) rfl rfl rfl (c := #[.int .u64 0, .string ⟨#[]⟩, .int .i64 0, .int .i64 0, .int .i64 0, .int .i64 0]) HR3.out (by kernel_rfl) (by kernel_rfl)) rfl ?_
        exact ⟨rfl, ext_new (HA.out.trans HE2.out) HX.out (Nat.le_succ _)⟩
      exact segE_stop
    exact segE_stop
  exact segE_stop
set_option maxRecDepth 100000 in
set_option maxHeartbeats 2000000 in
theorem nGet (h c ep now : Int) (w : World) : Calls Tryz.prog 30 #[.pointer none, .agg #[.int .u64 h, .int .u64 c], .int .i64 ep, .int .i64 now] w fun e w' => e = .returned (.tuple #[.string ⟨#[]⟩, .bool false]) ∧ Ext w w' := by
  have hA : Ext w (w.alloc (Obj.cells #[.int .u64 h, .int .u64 c] 39)) := (Below.refl _ _).alloc (Nat.le_refl _) _
  have HA := Lib.hid hA
  have l1 := ldP (Blk.new w #[.int .u64 h, .int .u64 c] 39) rfl
  clear hA
  go_enter Tryz.func30, Tryz.ntmps30
  go_wp2_with (first | refine Arr.wpList_ldA rfl _ _ rfl _ l1 ?_)
  refine (nFind h c _).mono ?_
  rintro e w2 ⟨rfl, hE2⟩
  have e1 : Ext w2 (w2.alloc (Obj.cells #[.int .u64 0, .string ⟨#[]⟩, .int .i64 0, .int .i64 0, .int .i64 0, .int .i64 0] 74)) := (Below.refl _ _).alloc (Nat.le_refl _) _
  have hs : w.heap.size ≤ w2.heap.size := (HA.out.trans hE2).size
  obtain ⟨w3, s1, hR3, hX⟩ := stS (Blk.new w2 #[.int .u64 0, .string ⟨#[]⟩, .int .i64 0, .int .i64 0, .int .i64 0, .int .i64 0] 74)
  have HE3 := Lib.hid (ext_new ((HA.out.trans hE2).trans e1) hX hs)
  clear hE2 e1 hs hR3 hX l1
  unfold tupS
  go_wp2_with (first | refine Arr.wpList_stA rfl _ _ _ rfl rfl s1 ?_)
  go_ret2
  exact ⟨rfl, HE3.out⟩
set_option maxRecDepth 100000 in
set_option maxHeartbeats 2000000 in
theorem nRemoveS (h : Int) (w : World) : Calls Tryz.prog 72 #[.pointer none, .int .u64 h] w fun e w' => e = .returned tupS ∧ Ext w w' := by
  have hA : Ext w (w.alloc (Obj.cells #[.int .u64 0, .string ⟨#[]⟩, .int .i64 0, .int .i64 0, .int .i64 0, .int .i64 0] 74)) := (Below.refl _ _).alloc (Nat.le_refl _) _
  have HA := Lib.hid hA
  have HR := Lib.hid (Blk.new w #[.int .u64 0, .string ⟨#[]⟩, .int .i64 0, .int .i64 0, .int .i64 0, .int .i64 0] 74)
  clear hA
  go_enter Tryz.func72, Tryz.ntmps72
  go_wp2_with fail
  refine (nLookS h _).mono ?_
  rintro e w2 ⟨rfl, hE2⟩
  have e1 : Ext w2 (w2.alloc (Obj.cells #[.int .u64 0, .string ⟨#[]⟩, .int .i64 0, .int .i64 0, .int .i64 0, .int .i64 0] 74)) := (Below.refl _ _).alloc (Nat.le_refl _) _
  have hs : w.heap.size ≤ w2.heap.size := (HA.out.trans hE2).size
  obtain ⟨w3, s1, hR3, hX⟩ := stS (Blk.new w2 #[.int .u64 0, .string ⟨#[]⟩, .int .i64 0, .int .i64 0, .int .i64 0, .int .i64 0] 74)
  have HE3 := Lib.hid (ext_new ((HA.out.trans hE2).trans e1) hX hs)
  have l2 := ldS hR3
  have hr2 := HR.out.ext hE2
  obtain ⟨w4, s2, hR4, hX4⟩ := stS (blk_ne' (hr2.ext e1) hX (Nat.ne_of_lt hr2.lt))
  have HR4 := Lib.hid hR4
  have HE4 := Lib.hid (ext_new HE3.out hX4 (Nat.le_refl _))
  clear hE2 e1 hs hR3 hX hr2 hR4 hX4
  unfold tupS
  go_wp2_with (first | refine Arr.wpList_stA rfl _ _ _ rfl rfl s1 ?_ | refine Arr.wpList_ldA rfl _ _ rfl _ l2 ?_ | refine Arr.wpList_stA rfl _ _ _ rfl rfl s2 ?_)
  (try simp only [Exit.inBlock, Exit.then])
  refine bodyPost_ret (results_struct (ty := 74) rfl rfl rfl (c := #[.int .u64 0, .string ⟨#[]⟩, .int .i64 0, .int .i64 0, .int .i64 0, .int .i64 0]) HR4.out (by kernel_rfl) (by kernel_rfl)) rfl ?_
  exact ⟨rfl, HE4.out⟩
set_option maxRecDepth 100000 in
set_option maxHeartbeats 2000000 in
theorem nRemove (h : Int) (w : World) : Calls Tryz.prog 31 #[.pointer none, .int .u64 h] w fun e w' => e = .returned tupS ∧ Ext w w' := by
  have hA : Ext w (w.alloc (Obj.cells #[.int .u64 0, .string ⟨#[]⟩, .int .i64 0, .int .i64 0, .int .i64 0, .int .i64 0] 74)) := (Below.refl _ _).alloc (Nat.le_refl _) _
  have HA := Lib.hid hA
  have HR := Lib.hid (Blk.new w #[.int .u64 0, .string ⟨#[]⟩, .int .i64 0, .int .i64 0, .int .i64 0, .int .i64 0] 74)
  clear hA
  go_enter Tryz.func31, Tryz.ntmps31
  go_wp2_with fail
  refine (nWays _ _).mono ?_
  rintro e w1 ⟨rfl, rfl⟩
  go_wp2_with fail
  refine (nRemoveS h _).mono ?_
  rintro e w2 ⟨rfl, hE2⟩
  have e1 : Ext w2 (w2.alloc (Obj.cells #[.int .u64 0, .string ⟨#[]⟩, .int .i64 0, .int .i64 0, .int .i64 0, .int .i64 0] 74)) := (Below.refl _ _).alloc (Nat.le_refl _) _
  have hs : w.heap.size ≤ w2.heap.size := (HA.out.trans hE2).size
  obtain ⟨w3, s1, hR3, hX⟩ := stS (Blk.new w2 #[.int .u64 0, .string ⟨#[]⟩, .int .i64 0, .int .i64 0, .int .i64 0, .int .i64 0] 74)
  have HE3 := Lib.hid (ext_new ((HA.out.trans hE2).trans e1) hX hs)
  have l2 := ldS hR3
  have hr2 := HR.out.ext hE2
  obtain ⟨w4, s2, hR4, hX4⟩ := stS (blk_ne' (hr2.ext e1) hX (Nat.ne_of_lt hr2.lt))
  have HR4 := Lib.hid hR4
  have HE4 := Lib.hid (ext_new HE3.out hX4 (Nat.le_refl _))
  clear hE2 e1 hs hR3 hX hr2 hR4 hX4
  unfold tupS
  go_wp2_with (first | refine Arr.wpList_stA rfl _ _ _ rfl rfl s1 ?_ | refine Arr.wpList_ldA rfl _ _ rfl _ l2 ?_ | refine Arr.wpList_stA rfl _ _ _ rfl rfl s2 ?_)
  (try simp only [Exit.inBlock, Exit.then])
  refine bodyPost_ret (results_struct (ty := 74) rfl rfl rfl (c := #[.int .u64 0, .string ⟨#[]⟩, .int .i64 0, .int .i64 0, .int .i64 0, .int .i64 0]) HR4.out (by kernel_rfl) (by kernel_rfl)) rfl ?_
  exact ⟨rfl, HE4.out⟩
end Go.Proofs.YtdfbfcglacalmaaGreat.Sto
end

section
namespace St
open Rk Ex

theorem insX_len (x : Int × Int) : ∀ (l : List (Int × Int)), (insX x l).length = l.length + 1
  | [] => rfl
  | y :: l => by
    simp only [insX]
    split <;> simp [insX_len x l]
theorem refPut_len (y : List (Int × Int)) (h e : Int) : (refPut y h e).length ≤ y.length + 1 := by
  unfold refPut
  have : (Ex.rest y h).length ≤ y.length := List.length_filter_le _ _
  split
  · omega
  · rw [insX_len]; omega
/-- What is kept: k entries at most. -/
structure SI (te : Nat → T Int Ent) (y : List (Int × Int)) (k : Nat) : Prop where
  ok : Ok te
  ix : Ix y (rows te)
  len : (rows te).length ≤ k
  ylen : y.length ≤ k
  key : ∀ x ∈ rows te, 0 ≤ x.1 ∧ x.1 ≤ 18446744073709551615
theorem SI.nil : SI (fun _ => .nil) [] 0 := ⟨Ok.nil, by rw [rows_nil]; exact Ix.nil, by rw [rows_nil]; exact Nat.le_refl _, Nat.le_refl _, fun x hx => by rw [rows_nil] at hx; cases hx⟩
theorem SI.put {te : Nat → T Int Ent} {y : List (Int × Int)} {k : Nat} (h : SI te y k) {x : Int} (h0 : 0 ≤ x) (h1 : x ≤ 18446744073709551615) (v : Ent) :
    SI (updT te (shd x) (T.put cint x v (te (shd x)))) (refPut y x v.2.2.1) (k + 1) := by
  have hr := rows_put h.ok h0 v
  refine ⟨h.ok.put h0 v, ?_, ?_, ?_, fun z hz => ?_⟩
  · rw [hr]; exact h.ix.put (x, v)
  · rw [hr]
    have := putA_len (rows te) (x, v)
    have := h.len
    omega
  · have := refPut_len y x v.2.2.1
    have := h.ylen
    omega
  · rw [hr] at hz
    unfold putA at hz
    rcases mem_insA.1 hz with rfl | hz
    · exact ⟨h0, h1⟩
    · exact h.key z (mem_restA.1 hz).1
theorem SI.sz {te : Nat → T Int Ent} {y : List (Int × Int)} {k : Nat} (h : SI te y k) (hk : k < 1000000) (x : Int) : (te (shd x)).sz < 1000000 := by
  have h1 := rows_len te 256
  have h2 := h.len
  have h3 : (te (shd x)).sz ≤ ((rows te).length : Nat) := by
    rw [show ((rows te).length : Int) = _ from h1]
    have hm : (te (shd x)).sz ∈ (List.range 256).map fun i => (te i).sz := List.mem_map.2 ⟨shd x, List.mem_range.2 (shd_lt x), rfl⟩
    have hn : ∀ z ∈ (List.range 256).map fun i => (te i).sz, 0 ≤ z := fun z hz => by
      obtain ⟨i, _, rfl⟩ := List.mem_map.1 hz
      exact T.sz_nn _
    generalize (List.range 256).map (fun i => (te i).sz) = l at hm hn
    induction l with
    | nil => cases hm
    | cons a l ih =>
      rw [List.sum_cons]
      have hnl : 0 ≤ l.sum := by
        clear ih hm
        induction l with
        | nil => exact Int.le_refl _
        | cons c l ih2 =>
          rw [List.sum_cons]
          have := hn c (by simp)
          have := ih2 (fun z hz => hn z (by rcases List.mem_cons.1 hz with rfl | hz <;> simp [*]))
          omega
      rcases List.mem_cons.1 hm with e | hm
      · rw [e]; omega
      · have := ih hm (fun z hz => hn z (List.mem_cons_of_mem _ hz))
        have := hn a (by simp)
        omega
  omega
/-- What is due first is there, and over. -/
theorem SI.due {te : Nat → T Int Ent} {y : List (Int × Int)} {k : Nat} (h : SI te y k) {now : Int} {x : Int × Int} {l : List (Int × Int)} (hd : dueL now y = x :: l) :
    (0 ≤ x.1 ∧ x.1 ≤ 18446744073709551615) ∧ ∃ v, T.get cint x.1 (te (shd x.1)) = some v ∧ (0 ≤ now → now ≤ 1099511627776 → 0 < v.2.2.1 ∧ v.2.2.1 ≤ now) := by
  have hb := best_head h.ix now
  rw [hd] at hb
  simp only [List.head?_cons, Option.map_eq_some_iff] at hb
  obtain ⟨z, hz, rfl⟩ := hb
  obtain ⟨h1, h2, _⟩ := (bestR_some now _ z hz)
  refine ⟨h.key z h1, z.2, (get_iff (h.ok.up _) _ _).2 ((mem_rows h.ok).1 h1), fun n0 n1 => ?_⟩
  unfold dueE at h2
  simp only [Bool.and_eq_true, decide_eq_true_eq] at h2
  obtain ⟨e1, e2, e3⟩ := h2
  unfold endE bkt dueB at *
  split at e3 <;> simp only [decide_eq_true_eq] at e3 <;> omega
end St
namespace Go.Proofs.YtdfbfcglacalmaaGreat.Sto
open Go.RowKit Go.Seg Go.Open Go.Lib Rk Ex St

theorem results_struct1 {P : Program} {fn : Func} {p : Tmp} {ty : TypeId} (h : fn.results = #[.cell p ty]) {tmps : Array Value} {k : Nat} {c : Array Value} {W : World}
    (hp : tmps.getD p undef = .pointer (some ⟨k, 0, none⟩)) (hB : Blk W k c ty)
    (hd : (match P.underlying ty with | some (.struct _) | some (.array _ _) => true | _ => false) = true) (hi : (P.info? ty).map (·.size) = some c.size) :
    (results fn tmps).run P W = .ok (.agg c) W := by
  simp only [results, h]
  simp [Sem.run_bind, Result.andThen]
  rw [show tmps[p]?.getD undef = .pointer (some ⟨k, 0, none⟩) by simpa using hp]
  simp only [asAddr, Sem.run_pure]
  cases hu : P.underlying ty with
  | none => simp [hu] at hd
  | some d =>
  rw [run_loadVar_row W k ty ty c (0, 0) d hB hu (by rw [hu] at hd; cases d <;> first | rfl | exact hd) hi]
set_option maxRecDepth 100000 in
set_option maxHeartbeats 2000000 in
theorem of_any (h : Int) (v : ShI.Ent) (w : World) : Calls Tryz.prog 17 #[.agg #[.int .u64 h, .int .u64 v.1, .int .i64 v.2.1, .int .i64 v.2.2.1, .int .i64 v.2.2.2.1, .int .i64 v.2.2.2.2.1, .int .i64 v.2.2.2.2.2]] w fun e w' => e = .returned (.agg #[.int .u64 v.1, .int .i64 v.2.1, .int .i64 v.2.2.1, .int .i64 v.2.2.2.1, .int .i64 v.2.2.2.2.1, .int .i64 v.2.2.2.2.2]) ∧ Ext w w' := by
  have hA : Ext w ((w.alloc (Obj.cells #[.int .u64 h, .int .u64 v.1, .int .i64 v.2.1, .int .i64 v.2.2.1, .int .i64 v.2.2.2.1, .int .i64 v.2.2.2.2.1, .int .i64 v.2.2.2.2.2] 35)).alloc (Obj.cells #[.int .u64 0, .int .i64 0, .int .i64 0, .int .i64 0, .int .i64 0, .int .i64 0] 41)) := ((Below.refl _ _).alloc (Nat.le_refl _) _).alloc (by simp) _
  have hR : Blk ((w.alloc (Obj.cells #[.int .u64 h, .int .u64 v.1, .int .i64 v.2.1, .int .i64 v.2.2.1, .int .i64 v.2.2.2.1, .int .i64 v.2.2.2.2.1, .int .i64 v.2.2.2.2.2] 35)).alloc (Obj.cells #[.int .u64 0, .int .i64 0, .int .i64 0, .int .i64 0, .int .i64 0, .int .i64 0] 41)) (w.heap.size + 1) #[.int .u64 0, .int .i64 0, .int .i64 0, .int .i64 0, .int .i64 0, .int .i64 0] 41 := ShI.blk_at (by simp)
  obtain ⟨w3, s1, hR3, hX⟩ := stE hR rfl v
  have HH := Lib.hid (And.intro hR3 (ext_new hA hX (Nat.le_succ _)))
  clear hR hA hR3 hX
  go_enter Tryz.func17, Tryz.ntmps17
  go_wp2_with (first | refine Arr.wpList_stA rfl _ _ _ rfl rfl s1 ?_)
  (try simp only [Exit.inBlock, Exit.then])
  refine bodyPost_ret (results_struct1 (ty := 41) (k := w.heap.size + 1) rfl rfl (c := #[.int .u64 v.1, .int .i64 v.2.1, .int .i64 v.2.2.1, .int .i64 v.2.2.2.1, .int .i64 v.2.2.2.2.1, .int .i64 v.2.2.2.2.2]) HH.out.1 (by kernel_rfl) (by kernel_rfl)) rfl ?_
  exact ⟨rfl, HH.out.2⟩
end Go.Proofs.YtdfbfcglacalmaaGreat.Sto
end

section
namespace Go.Proofs.YtdfbfcglacalmaaGreat.Sto
open Go.RowKit Go.Seg Go.Open Go.Lib Rk Ex St

def tw0 : Nat → T Int (Int × Int) := fun _ => .nil
def lk0 : Nat → Option Addr := fun _ => none
theorem rOver_any (e now : Int) (w : World) : Calls Tryz.prog 23 #[.int .i64 e, .int .i64 now] w fun v w' => v = .returned (.bool (decide (0 < e ∧ e ≤ now))) ∧ w = w' := by
  by_cases h : 0 < e
  · go_enter Tryz.func23, Tryz.ntmps23
    go_wp2_with fail
    go_ret
    exact ⟨by simp [h], rfl⟩
  · go_enter Tryz.func23, Tryz.ntmps23
    go_wp2_with fail
    go_ret
    exact ⟨by simp; omega, rfl⟩
theorem stP {w : World} {k : Nat} {c : Array Value} (h : Blk w k c 39) (hn : c.size = 2) (x y : Int) :
    ∃ W, (Instr.storeAt 39 (.pointer (some ⟨k, 0, none⟩)) (.agg #[.int .u64 x, .int .u64 y])).run Tryz.prog w = .ok () W ∧ Blk W k #[.int .u64 x, .int .u64 y] 39 ∧ Chg (· = k) w W := by
  obtain ⟨W, h1, h2, h3⟩ := struct_store (P := Tryz.prog) #[.int .u64 x, .int .u64 y] h (by kernel_rfl) hn (by simp [Value.oneCell'])
  exact ⟨W, Arr.run_storeA (size_p w) rfl h1, h2, h3⟩
theorem lock_other {w w' : World} {p q : Nat} {l l' : Lk.L} (h : Lo1.LockAt w p l) (hc : Chg (· = q) w w') (hq : Lo1.LockAt w q l') (hne : p ≠ q) : Lo1.LockAt w' p l := by
  obtain ⟨v, hB, hI⟩ := h
  obtain ⟨c, hq⟩ := hq.blk
  exact ⟨v, blk_ne' hB hc hne, hI.chg hc (.one hq (by decide))⟩
theorem lock_has {n : Nat} {w w' : World} {p b : Nat} {l : Lk.L} {te tw lk y} (h : Lo1.LockAt w p l) (hc : Chg (· = b) w w') (hb : Has n w b te tw lk y) : Lo1.LockAt w' p l := by
  obtain ⟨c, hb⟩ := hb.blk
  exact lock_chg h hc hb (by decide) (by decide)
theorem has_lock {n : Nat} {w w' : World} {p b : Nat} {l : Lk.L} {te tw lk y} (h : Has n w b te tw lk y) (hc : Chg (· = p) w w') (hq : Lo1.LockAt w p l) : Has n w' b te tw lk y := by
  obtain ⟨c, hq⟩ := hq.blk
  exact h.one hc hq (by decide)
theorem lock_lt {w : World} {p : Nat} {l : Lk.L} (h : Lo1.LockAt w p l) : p < w.heap.size := by
  obtain ⟨c, hq⟩ := h.blk
  exact hq.lt
def l0 : Lk.L := ⟨[], none⟩
def l1 : Lk.L := ⟨[], some 1⟩
theorem inv1 : Lk.Inv l1 := ⟨List.Pairwise.nil, fun _ => rfl⟩
theorem Write_l0 (p : Nat) (w : World) (h : Lo1.LockAt w p l0) : Calls Tryz.prog 25 #[.pointer (some ⟨p, 0, none⟩), .int .i64 1] w fun e w' => e = .returned (.bool true) ∧ Lo1.LockAt w' p l1 ∧ Chg (· = p) w w' := Lo1.Write_any p l0 Lk.Inv.nil (by decide) 1 w h
theorem Free_l1 (p : Nat) (w : World) (h : Lo1.LockAt w p l1) : Calls Tryz.prog 27 #[.pointer (some ⟨p, 0, none⟩), .int .i64 1] w fun e w' => e = .returned (.bool true) ∧ Lo1.LockAt w' p l0 ∧ Chg (· = p) w w' := Lo1.Free_any p l1 inv1 (by decide) 1 w h
theorem MayRead_l1 (p : Nat) (w : World) (h : Lo1.LockAt w p l1) : Calls Tryz.prog 26 #[.pointer (some ⟨p, 0, none⟩)] w fun e w' => e = .returned (.bool false) ∧ w = w' := Lo1.MayRead_any p l1 w h
def lk1 (p5 : Nat) : Nat → Option Addr := updL lk0 (shd 5) (some ⟨p5, 0, none⟩)
def lk2 (p5 p6 : Nat) : Nat → Option Addr := updL (lk1 p5) (shd 6) (some ⟨p6, 0, none⟩)
theorem idle2 {w : World} {p5 p6 : Nat} {a c : Lk.L} (h5 : Lo1.LockAt w p5 a) (h6 : Lo1.LockAt w p6 c) (i : Nat) : IdleAt w (lk2 p5 p6 i) (if i = 6 then c.idle else if i = 5 then a.idle else true) := by
  have e5 : shd 5 = 5 := by decide
  have e6 : shd 6 = 6 := by decide
  unfold lk2 lk1 updL lk0
  rw [e5, e6]
  split
  · exact .inr ⟨p6, c, rfl, h6, rfl⟩
  · split
    · exact .inr ⟨p5, a, rfl, h5, rfl⟩
    · exact .inl ⟨rfl, rfl⟩
theorem shds : shd 5 = 5 ∧ shd 6 = 6 ∧ shd 261 = 5 := by decide
theorem lk_a (p5 : Nat) : lk1 p5 (shd 261) = some ⟨p5, 0, none⟩ := by simp [lk1, updL, shds]
theorem lk_b (p5 : Nat) : lk1 p5 (shd 6) = none := by simp [lk1, updL, lk0, shds]
theorem lk_c (p5 p6 : Nat) : lk2 p5 p6 (shd 5) = some ⟨p5, 0, none⟩ := by simp [lk2, lk1, updL, shds]
theorem lk_d (p5 p6 : Nat) : lk2 p5 p6 (shd 6) = some ⟨p6, 0, none⟩ := by simp [lk2, updL, shds]
/-- What waits at a shard changes. -/
theorem StoAt.wait {w w' : World} {n b i k : Nat} {ps : Nat → Option Nat} {te : Nat → T Int ShI.Ent} {tw : Nat → T Int (Int × Int)} {lk : Nat → Option Addr} {y : List (Int × Int)} {t : T Int (Int × Int)}
    (h : StoAt w b ⟨ps, te, tw, lk, y, n⟩) (hk : ps i = some k) (hc : Chg (· = k) w w') (hS : ShI.ShardAt w' k (te i) t) : StoAt w' b ⟨ps, te, fun j => if j = i then t else tw j, lk, y, n⟩ ∧ Frm n w w' ∧ ∃ c, Blk w k c 108 := by
  obtain ⟨bx, cs, h⟩ := h
  obtain ⟨c0, hB⟩ := (h.has i k hk).blk
  have h2 := h.shard hk hc hS
  refine ⟨⟨bx, cs, ?_⟩, .of hc hB (h.lows i k hk) (.inr (.inl rfl)), ⟨c0, hB⟩⟩
  dsimp only at h2
  rw [updT_id] at h2
  exact h2
def tw7 : Nat → T Int (Int × Int) := fun j => if j = shd 7 then T.put cint 7 (0 + 1, 1) .nil else tw0 j
/-- What is due first, if something is. -/
theorem first_of {te : Nat → T Int ShI.Ent} {y : List (Int × Int)} {k : Nat} (h : SI te y k) (now : Int) : ∃ (hx : Int) (due : Bool), dueV (dueL now y) = .tuple #[.int .u64 hx, .bool due] ∧ 0 ≤ hx ∧ hx ≤ 18446744073709551615 ∧
    (due = true → ∃ v, T.get cint hx (te (shd hx)) = some v ∧ (0 ≤ now → now ≤ 1099511627776 → 0 < v.2.2.1 ∧ v.2.2.1 ≤ now)) := by
  cases hd : dueL now y with
  | nil => exact ⟨0, false, rfl, by decide, by decide, fun h => by cases h⟩
  | cons x l =>
    obtain ⟨⟨h0, h1⟩, h2⟩ := h.due hd
    exact ⟨x.1, true, rfl, h0, h1, fun _ => h2⟩
/-- What lies there. -/
def At2 (n : Nat) (w : World) (b k : Nat) (te : Nat → T Int ShI.Ent) (y : List (Int × Int)) (wr : World) : Prop := SI te y k ∧ Has n wr b te tw0 lk0 y ∧ Frm n w wr
set_option maxRecDepth 100000 in
set_option maxHeartbeats 8000000 in
theorem seen_walk (a : Option Addr) (len cap b0 off : Nat) (F : Nat → Int × ShI.Ent) (ep now : Int) (w : World) (ha : 0 < len → a = some ⟨b0, off, none⟩) (hl : len ≤ maxLen) (hF0 : ∀ i, i < len → 0 ≤ (F i).1 ∧ (F i).1 ≤ 18446744073709551615)
    (hF : ∀ W, Below w.heap.size w W → ∀ i, i < len → W.cell? ⟨b0, off + i * 7, none⟩ = some (.int .u64 (F i).1) ∧ W.cell? ⟨b0, off + i * 7 + 1, none⟩ = some (.int .u64 (F i).2.1) ∧ W.cell? ⟨b0, off + i * 7 + 2, none⟩ = some (.int .i64 (F i).2.2.1) ∧ W.cell? ⟨b0, off + i * 7 + 3, none⟩ = some (.int .i64 (F i).2.2.2.1) ∧ W.cell? ⟨b0, off + i * 7 + 4, none⟩ = some (.int .i64 (F i).2.2.2.2.1) ∧ W.cell? ⟨b0, off + i * 7 + 5, none⟩ = some (.int .i64 (F i).2.2.2.2.2.1) ∧ W.cell? ⟨b0, off + i * 7 + 6, none⟩ = some (.int .i64 (F i).2.2.2.2.2.2)) :
    Calls Tryz.prog 4 #[.slice a len cap, .int .i64 ep, .int .i64 now] w fun e w' => e = .returned (.bool true) ∧ Below w.heap.size w w' := by
  have HA := Lib.hid ha
  have HF := Lib.hid hF
  have HF0 := Lib.hid hF0
  clear ha hF hF0
  unfold maxLen at hl
  obtain ⟨n, hn⟩ : ∃ n, w.heap.size = n := ⟨_, rfl⟩
  have HN := Lib.hid (show w.heap.size ≤ n by omega)
  have HN2 := Lib.hid (show n ≤ w.heap.size by omega)
  clear hn
  by_cases h30 : (30 : Int) < (len : Int)
  · go_enter Tryz.func4, Tryz.ntmps4
    go_wp2_with fail
    refine (awake_any _).mono ?_
    rintro e w1 ⟨rfl, hE⟩
    have HE := Lib.hid hE
    clear hE
    go_wp2_with fail
    go_ret
    exact ⟨rfl, HE.out⟩
  have HL := Lib.hid (show len ≤ 30 by omega)
  go_enter Tryz.func4, Tryz.ntmps4
  go_wp2_with fail
  refine (New_store n _ HN2.out).mono ?_
  rintro e w1 ⟨b, rfl, hS, hE⟩
  have HS1 := Lib.hid (show At2 n w b 0 (fun _ => .nil) [] w1 from ⟨SI.nil, ⟨_, hS⟩, Frm.ext (n := n) hE⟩)
  clear hS hE
  go_wp2_with fail
  go_loopg [8] len (fun g i wr => ∃ (k : Nat) (te : Nat → T Int ShI.Ent) (y : List (Int × Int)), i = .int .i64 k ∧ k ≤ len ∧ Hid (At2 n w b k te y wr) ∧ len - k ≤ g)
  case atStart => exact ⟨0, _, _, rfl, Nat.zero_le _, HS1, Nat.le_refl _⟩
  case round =>
    obtain ⟨k, te, y, rfl, hk, HS, hg⟩ := hrel
    by_cases hik : k < len
    · obtain rfl := HA.out (by omega)
      have HK := Lib.hid (fun W (h : Ext w W) => HF.out W h k hik)
      have HE := Lib.hid (HS.out.2.2.toExt HN.out)
      have HK0 := Lib.hid (HF0.out k hik)
      go_wp2_with fail
      refine wp_region_segsK [([5, 1, 3, 3], 0, 0), ([2, 2], 3, 11), ([1], 1, 0)] (by kernel_rfl) (by kernel_rfl) ?_
      apply segsK_pure
      · intro W
        simp only [runsT, runsF, rep, pick]
        go_wp2_with fail
        exact ⟨rfl, rfl⟩
      simp only [runsT, runsF, rep, left]
      apply segsK_class
      · intro W hW
        obtain ⟨x0, x1, x2, x3, x4, x5, x6⟩ := HK.out _ ((HE.out.trans (Ext.drew _)).trans hW)
        simp only [runsT, runsF, rep, pick]
        go_wp2_with fail
        exact ⟨rfl, rfl⟩
      simp only [runsT, runsF, rep, left]
      go_wp2_with fail
      refine (of_any (F k).1 (F k).2 _).mono ?_
      rintro e w2 ⟨rfl, hE2⟩
      have HE2 := Lib.hid (And.intro hE2 ((Ext.drew wr).trans hE2))
      clear hE2
      go_wp2_with fail
      refine ⟨fun _ => HE2.out.1, ?_⟩
      apply segsK_op
      go_wp2_with fail
      refine (Put_any (F k).1 (F k).2 (HS.out.2.1.ext HE2.out.2) HK0.out.1 HK0.out.2 (HS.out.1.sz (by omega) _) (by have := HS.out.1.ylen; omega)).mono ?_
      rintro e w3 ⟨rfl, hS3, hF3⟩
      have HS3 := Lib.hid (show At2 n w b (k + 1) _ _ w3 from ⟨HS.out.1.put HK0.out.1 HK0.out.2 (F k).2, hS3, (HS.out.2.2.trans (Frm.ext HE2.out.2)).trans hF3⟩)
      clear hS3 hF3
      go_wp2_with fail
      refine ⟨fun h => (by cases h), ?_⟩
      apply segsK_nil
      go_wp2_with fail
      go_roundg (len - (k + 1))
      case measure => omega
      case rel => exact ⟨k + 1, _, _, by go_num, by omega, HS3, Nat.le_refl _⟩
    · obtain rfl : k = len := by omega
      have HS2 := HS
      clear hk hg hik
      go_wp2_with fail
      go_loopg [9, 10, 11, 12, 13, 14] k (fun g i _ _ _ _ _ wr => ∃ (j : Nat), i = .int .i64 j ∧ j ≤ k ∧ Hid (At2 n w b k te y wr) ∧ k - j ≤ g)
      case atStart => exact ⟨0, rfl, Nat.zero_le _, HS2, Nat.le_refl _⟩
      case round =>
        obtain ⟨j, rfl, hj, HS, hg⟩ := hrel
        by_cases hik : j < k
        · obtain rfl := HA.out (by omega)
          have HK := Lib.hid (fun W (h : Ext w W) => HF.out W h j hik)
          have HE := Lib.hid (HS.out.2.2.toExt HN.out)
          have HK0 := Lib.hid (HF0.out j hik)
          obtain ⟨w2, s1, hP2, hX2⟩ := stP (Blk.new wr.drew #[.int .u64 0, .int .u64 0] 39) rfl (F j).1 (F j).2.1
          have hA : Ext wr (wr.drew.alloc (.cells #[.int .u64 0, .int .u64 0] 39)) := (Ext.drew wr).trans ((Below.refl _ _).alloc (Nat.le_refl _) _)
          have HP2 := Lib.hid (show Blk w2 wr.heap.size #[.int .u64 (F j).1, .int .u64 (F j).2.1] 39 from hP2)
          have HS2 := Lib.hid ((HS.out.2.1.ext hA).one hX2 (Blk.new wr.drew #[.int .u64 0, .int .u64 0] 39) (by decide))
          have HF2 := Lib.hid ((HS.out.2.2.trans (.ext hA)).new hX2 (show w.heap.size ≤ wr.heap.size from HE.out.size))
          have l2 := ldP HP2.out rfl
          have HZ := Lib.hid (HS.out.1.sz (by omega) (F j).1)
          clear hP2 hX2 hA
          go_wp2_with fail
          refine wp_region_segsK [([4, 1, 4, 4], 0, 0), ([3, 2], 3, 12), ([1], 1, 0)] (by kernel_rfl) (by kernel_rfl) ?_
          apply segsK_pure
          · intro W
            simp only [runsT, runsF, rep, pick]
            go_wp2_with fail
            exact ⟨rfl, rfl⟩
          simp only [runsT, runsF, rep, left]
          apply segsK_class
          · intro W hW
            obtain ⟨x0, x1, x2, x3, x4, x5, x6⟩ := HK.out _ ((HE.out.trans (Ext.drew _)).trans hW)
            simp only [runsT, runsF, rep, pick]
            go_wp2_with fail
            exact ⟨rfl, rfl⟩
          simp only [runsT, runsF, rep, left]
          go_wp2_with fail
          refine ⟨fun _ => (Below.refl _ _).alloc (Nat.le_refl _) _, ?_⟩
          apply segsK_op
          go_wp2_with (first | refine Arr.wpList_stA rfl _ _ _ rfl rfl s1 ?_)
          go_wp2_with fail
          refine ⟨fun h => (by cases h), ?_⟩
          apply segsK_nil
          go_wp2_with (first | refine Arr.wpList_ldA rfl _ _ rfl _ l2 ?_)
          clear l2 s1
          obtain ⟨o, ho⟩ : ∃ o, findO (te (shd (F j).1)) (F j).1 (F j).2.1 = o := ⟨_, rfl⟩
          obtain ⟨v, hv⟩ : ∃ v, ev o = v := ⟨_, rfl⟩
          obtain ⟨r, hr⟩ : ∃ r, o.isSome = r := ⟨_, rfl⟩
          refine (Find_any (F j).1 (F j).2.1 HS2.out HK0.out.1 HK0.out.2 HZ.out).mono ?_
          rintro e w3 ⟨rfl, hS3, hC3⟩
          rw [ho, hv, hr]
          unfold tup
          have hF3 := HS2.out.frm hC3
          have hP3 := blk_frm HP2.out hF3 (by decide) (by decide) (by decide)
          have hA : Ext w3 (w3.alloc (.cells #[.int .u64 0, .int .i64 0, .int .i64 0, .int .i64 0, .int .i64 0, .int .i64 0] 41)) := (Below.refl _ _).alloc (Nat.le_refl _) _
          obtain ⟨w4, s2, hB4, hX4⟩ := stE (Blk.new w3 #[.int .u64 0, .int .i64 0, .int .i64 0, .int .i64 0, .int .i64 0, .int .i64 0] 41) rfl v
          have hP4 := blk_ne' (hP3.ext hA) hX4 (Nat.ne_of_lt hP3.lt)
          have l3 := ldP hP4 rfl
          have HB4 := Lib.hid hB4
          have HS4 := Lib.hid ((hS3.ext hA).one hX4 (Blk.new w3 #[.int .u64 0, .int .i64 0, .int .i64 0, .int .i64 0, .int .i64 0, .int .i64 0] 41) (by decide))
          have HF4 := Lib.hid (((HF2.out.trans hF3).trans (.ext hA)).new hX4 ((HF2.out.trans hF3).size))
          have HO := Lib.hid ho
          have HV := Lib.hid hv
          have HR := Lib.hid hr
          clear hS3 hC3 hF3 hP3 hA hB4 hX4 hP4 ho hv hr
          go_wp2_with (first | refine Arr.wpList_stA rfl _ _ _ rfl rfl s2 ?_ | refine Arr.wpList_ldA rfl _ _ rfl _ l3 ?_)
          refine (Get_any (F j).1 (F j).2.1 ep now HS4.out HK0.out.1 HK0.out.2 HZ.out).mono ?_
          rintro e w5 ⟨rfl, hS5, hC5⟩
          rw [HO.out]
          have hF5 := HS4.out.frm hC5
          have hB5 := blk_frm HB4.out hF5 (by decide) (by decide) (by decide)
          have hcv : ∀ i, w5.cell? ⟨w3.heap.size, i, none⟩ = (#[.int .u64 v.1, .int .i64 v.2.1, .int .i64 v.2.2.1, .int .i64 v.2.2.2.1, .int .i64 v.2.2.2.2.1, .int .i64 v.2.2.2.2.2] : Array Value)[i]? := fun i => hB5.cells i
          have HS5 := Lib.hid (show At2 n w b k te y w5 from ⟨HS.out.1, hS5, HF4.out.trans hF5⟩)
          clear hS5 hC5 hF5 hB5 s2 l3
          cases o with
          | none =>
            obtain rfl : r = false := HR.out.symm
            unfold gotV
            go_wp2_with fail
            go_roundg (k - (j + 1))
            case measure => omega
            case rel => exact ⟨j + 1, by go_num, by omega, HS5, Nat.le_refl _⟩
          | some u =>
            obtain rfl : r = true := HR.out.symm
            obtain rfl : v = u := HV.out.symm
            have d3 : (v.2.1 != v.2.1) = false := by simp
            by_cases h1 : v.2.2.2.1 = ep
            · have d1 : (v.2.2.2.1 == ep) = true := by simp [h1]
              by_cases h2 : 0 < v.2.2.1 ∧ v.2.2.1 ≤ now
              · have D2 := Lib.hid (show decide (0 < v.2.2.1 ∧ v.2.2.1 ≤ now) = true from decide_eq_true h2)
                rw [show gotV (some v) ep now = .tuple #[.int .i64 0, .bool false] by unfold gotV seenB; simp [D2.out, h1]]
                clear h1 h2
                go_wp2_with fail
                refine (rOver_any _ _ _).mono ?_
                rintro e w6 ⟨rfl, rfl⟩
                rw [D2.out]
                go_wp2_with fail
                go_roundg (k - (j + 1))
                case measure => omega
                case rel => exact ⟨j + 1, by go_num, by omega, HS5, Nat.le_refl _⟩
              · have D2 := Lib.hid (show decide (0 < v.2.2.1 ∧ v.2.2.1 ≤ now) = false from decide_eq_false h2)
                rw [show gotV (some v) ep now = .tuple #[.int .i64 v.2.1, .bool true] by unfold gotV seenB; simp only [D2.out, h1]; simp]
                clear h1 h2
                go_wp2_with fail
                refine (rOver_any _ _ _).mono ?_
                rintro e w6 ⟨rfl, rfl⟩
                rw [D2.out]
                go_wp2_with fail
                go_roundg (k - (j + 1))
                case measure => omega
                case rel => exact ⟨j + 1, by go_num, by omega, HS5, Nat.le_refl _⟩
            · have d1 : (v.2.2.2.1 == ep) = false := by simp [h1]
              rw [show gotV (some v) ep now = .tuple #[.int .i64 0, .bool false] by unfold gotV seenB; simp [h1]]
              clear h1
              go_wp2_with fail
              go_roundg (k - (j + 1))
              case measure => omega
              case rel => exact ⟨j + 1, by go_num, by omega, HS5, Nat.le_refl _⟩
        · obtain rfl : j = k := by omega
          clear hj hg hik
          have HE := Lib.hid (HS.out.2.2.toExt HN.out)
          go_wp2_with fail
          refine (First_any now HS.out.2.1).mono ?_
          rintro e w2 ⟨rfl, hE2⟩
          obtain ⟨hx, due, hres, hx0, hx1, hdue⟩ := first_of HS.out.1 now
          rw [hres]
          have HD := Lib.hid hdue
          have HX := Lib.hid (And.intro hx0 hx1)
          have HS2 := Lib.hid (show At2 n w b j te y w2 from ⟨HS.out.1, HS.out.2.1.ext hE2, HS.out.2.2.trans (.ext hE2)⟩)
          clear hE2 hres hdue hx0 hx1
          go_wp2_with fail
          refine (Look_any hx HS2.out.2.1 HX.out.1 HX.out.2 (HS2.out.1.sz (by omega) hx)).mono ?_
          rintro e w3 ⟨rfl, hS3, hC3⟩
          obtain ⟨o, ho⟩ : ∃ o, T.get cint hx (te (shd hx)) = o := ⟨_, rfl⟩
          obtain ⟨v, hv⟩ : ∃ v, ev o = v := ⟨_, rfl⟩
          obtain ⟨r, hr⟩ : ∃ r, o.isSome = r := ⟨_, rfl⟩
          rw [ho, hv, hr]
          unfold tup
          have hF3 := HS2.out.2.2.trans (HS2.out.2.1.frm hC3)
          have hA : Ext w3 (w3.alloc (.cells #[.int .u64 0, .int .i64 0, .int .i64 0, .int .i64 0, .int .i64 0, .int .i64 0] 41)) := (Below.refl _ _).alloc (Nat.le_refl _) _
          obtain ⟨w4, s2, hB4, hX4⟩ := stE (Blk.new w3 #[.int .u64 0, .int .i64 0, .int .i64 0, .int .i64 0, .int .i64 0, .int .i64 0] 41) rfl v
          have hcv : ∀ i, w4.cell? ⟨w3.heap.size, i, none⟩ = (#[.int .u64 v.1, .int .i64 v.2.1, .int .i64 v.2.2.1, .int .i64 v.2.2.2.1, .int .i64 v.2.2.2.2.1, .int .i64 v.2.2.2.2.2] : Array Value)[i]? := fun i => hB4.cells i
          have HS4 := Lib.hid (show At2 n w b j te y w4 from ⟨HS2.out.1, (hS3.ext hA).one hX4 (Blk.new w3 #[.int .u64 0, .int .i64 0, .int .i64 0, .int .i64 0, .int .i64 0, .int .i64 0] 41) (by decide), (hF3.trans (.ext hA)).new hX4 hF3.size⟩)
          have HO := Lib.hid (And.intro ho (And.intro hv hr))
          clear hS3 hC3 hF3 hA hB4 hX4 ho hv hr
          go_upto_region 18 with (first | refine Arr.wpList_stA rfl _ _ _ rfl rfl s2 ?_)
          clear s2
          go_cut [144] (fun s wx => s = .bool false ∧ Hid (At2 n w b j te y wx))
          case first =>
            cases due with
            | false =>
              go_wp2_with fail
              go_meet
              exact ⟨rfl, HS4⟩
            | true =>
              obtain ⟨u, hu, hou⟩ := HD.out rfl
              have h1 := HO.out.1
              rw [hu] at h1
              subst h1
              obtain rfl : r = true := HO.out.2.2.symm
              obtain rfl : v = u := HO.out.2.1.symm
              by_cases n0 : 0 ≤ now
              · have d0 : decide (now ≥ 0) = true := decide_eq_true n0
                by_cases n1 : now ≤ 1099511627776
                · have d1 : decide (now ≤ 1099511627776) = true := decide_eq_true n1
                  have D2 := Lib.hid (show decide (0 < v.2.2.1 ∧ v.2.2.1 ≤ now) = true from decide_eq_true (hou n0 n1))
                  clear hou hu n0 n1
                  go_wp2_with fail
                  refine (rOver_any _ _ _).mono ?_
                  rintro e w6 ⟨rfl, rfl⟩
                  rw [D2.out]
                  go_wp2_with fail
                  go_meet
                  exact ⟨rfl, HS4⟩
                · have d1 : decide (now ≤ 1099511627776) = false := decide_eq_false n1
                  clear hou hu n0 n1
                  go_wp2_with fail
                  go_meet
                  exact ⟨rfl, HS4⟩
              · have d0 : decide (now ≥ 0) = false := decide_eq_false (by omega)
                clear hou hu n0
                go_wp2_with fail
                go_meet
                exact ⟨rfl, HS4⟩
          case rest =>
          obtain ⟨rfl, HS5⟩ := hcut
          clear HD HX HO hcv HS HS2 HE HS4
          go_wp2_with fail
          refine (Lock_new 5 HS5.out.2.1 (by decide) (by decide) rfl).mono ?_
          rintro e w2 ⟨p5, rfl, hp, hL, hS, hC⟩
          have HL5 := Lib.hid (show Lo1.LockAt w2 p5 l0 from hL)
          have HP5 := Lib.hid (Nat.le_trans HS5.out.2.2.size hp)
          have HS6 := Lib.hid (show Has n w2 b te tw0 (lk1 p5) y ∧ Frm n w w2 from ⟨hS, HS5.out.2.2.trans (HS5.out.2.1.frm hC)⟩)
          clear hp hL hS hC
          go_wp2_with fail
          refine (Write_l0 p5 _ HL5.out).mono ?_
          rintro e w3 ⟨rfl, hL, hC⟩
          have HS7 := Lib.hid (show Has n w3 b te tw0 (lk1 p5) y ∧ Frm n w w3 from ⟨has_lock HS6.out.1 hC HL5.out, HS6.out.2.new hC HP5.out⟩)
          have HL7 := Lib.hid hL
          clear hL hC
          go_wp2_with fail
          refine (Lock_old 261 HS7.out.1 (by decide) (by decide) (lk_a p5)).mono ?_
          rintro e w' ⟨rfl, rfl⟩
          go_wp2_with fail
          refine (MayRead_l1 p5 _ HL7.out).mono ?_
          rintro e w' ⟨rfl, rfl⟩
          go_wp2_with fail
          refine (Lock_new 6 HS7.out.1 (by decide) (by decide) (lk_b p5)).mono ?_
          rintro e w4 ⟨p6, rfl, hp, hL, hS, hC⟩
          have HNE := Lib.hid (show p5 ≠ p6 by have := lock_lt HL7.out; omega)
          have HP6 := Lib.hid (Nat.le_trans HS7.out.2.size hp)
          have HL8 := Lib.hid (And.intro (lock_has HL7.out hC HS7.out.1) (show Lo1.LockAt w4 p6 l0 from hL))
          have HS8 := Lib.hid (show Has n w4 b te tw0 (lk2 p5 p6) y ∧ Frm n w w4 from ⟨hS, HS7.out.2.trans (HS7.out.1.frm hC)⟩)
          clear hp hL hS hC
          go_wp2_with fail
          refine (Write_l0 p6 _ HL8.out.2).mono ?_
          rintro e w5 ⟨rfl, hL, hC⟩
          have HS9 := Lib.hid (show Has n w5 b te tw0 (lk2 p5 p6) y ∧ Frm n w w5 from ⟨has_lock HS8.out.1 hC HL8.out.2, HS8.out.2.new hC HP6.out⟩)
          have HL9 := Lib.hid (And.intro (lock_other HL8.out.1 hC HL8.out.2 HNE.out) hL)
          clear hL hC
          go_wp2_with fail
          refine (Idle_no HS9.out.1 _ (fun i _ => idle2 HL9.out.1 HL9.out.2 i) 5 (by decide) (by decide)).mono ?_
          rintro e w' ⟨rfl, rfl⟩
          go_wp2_with fail
          refine (Lock_old 5 HS9.out.1 (by decide) (by decide) (lk_c p5 p6)).mono ?_
          rintro e w' ⟨rfl, rfl⟩
          go_wp2_with fail
          refine (Free_l1 p5 _ HL9.out.1).mono ?_
          rintro e w6 ⟨rfl, hL, hC⟩
          have HSA := Lib.hid (show Has n w6 b te tw0 (lk2 p5 p6) y ∧ Frm n w w6 from ⟨has_lock HS9.out.1 hC HL9.out.1, HS9.out.2.new hC HP5.out⟩)
          have HLA := Lib.hid (And.intro hL (lock_other HL9.out.2 hC HL9.out.1 HNE.out.symm))
          clear hL hC
          go_wp2_with fail
          refine (Lock_old 6 HSA.out.1 (by decide) (by decide) (lk_d p5 p6)).mono ?_
          rintro e w' ⟨rfl, rfl⟩
          go_wp2_with fail
          refine (Free_l1 p6 _ HLA.out.2).mono ?_
          rintro e w7 ⟨rfl, hL, hC⟩
          have HSB := Lib.hid (show Has n w7 b te tw0 (lk2 p5 p6) y ∧ Frm n w w7 from ⟨has_lock HSA.out.1 hC HLA.out.2, HSA.out.2.new hC HP6.out⟩)
          have HLB := Lib.hid (And.intro (lock_other HLA.out.1 hC HLA.out.2 HNE.out) hL)
          clear hL hC HL5 HS6 HS7 HL7 HL8 HS8 HS9 HL9 HSA HLA
          go_wp2_with fail
          refine (Ways_has 7 HSB.out.1 (by decide) (by decide)).mono ?_
          rintro e w8 ⟨ps, k7, rfl, hS, hk, hC⟩
          have HF := Lib.hid (HSB.out.2.trans (HSB.out.1.frm hC))
          have HLC := Lib.hid (And.intro (lock_has HLB.out.1 hC HSB.out.1) (lock_has HLB.out.2 hC HSB.out.1))
          have HK7 := Lib.hid (And.intro hS (And.intro hk (hS.shardAt hk)))
          clear hS hk hC
          go_wp2_with fail
          refine (ShI.Wait_any k7 _ _ 7 1 0 _ HK7.out.2.2 (by decide) (by decide) (by decide) (by decide)).mono ?_
          rintro e w9 ⟨rfl, hS, hC⟩
          obtain ⟨hS9, hF9, c9, hB9⟩ := HK7.out.1.wait HK7.out.2.1 hC hS
          have HSC := Lib.hid (show Has n w9 b te tw7 (lk2 p5 p6) y ∧ Frm n w w9 from ⟨⟨ps, hS9⟩, HF.out.trans hF9⟩)
          have HLD := Lib.hid (And.intro (lock_chg HLC.out.1 hC hB9 (by decide) (by decide)) (lock_chg HLC.out.2 hC hB9 (by decide) (by decide)))
          clear hS hC hS9 hF9 hB9 HF HLC HK7
          go_wp2_with fail
          refine (nGet 0 0 0 0 _).mono ?_
          rintro e wA ⟨rfl, hE⟩
          have HSD := Lib.hid (show Has n wA b te tw7 (lk2 p5 p6) y ∧ Frm n w wA from ⟨HSC.out.1.ext hE, HSC.out.2.trans (.ext hE)⟩)
          have HLE := Lib.hid (And.intro (HLD.out.1.ext hE) (HLD.out.2.ext hE))
          clear hE
          go_wp2_with fail
          refine (nRemove 1 _).mono ?_
          rintro e wB ⟨rfl, hE⟩
          have hA : Ext wB (wB.alloc (.cells #[.int .u64 0, .string ⟨#[]⟩, .int .i64 0, .int .i64 0, .int .i64 0, .int .i64 0] 74)) := (Below.refl _ _).alloc (Nat.le_refl _) _
          obtain ⟨wC, s2, hB4, hX4⟩ := stS (Blk.new wB #[.int .u64 0, .string ⟨#[]⟩, .int .i64 0, .int .i64 0, .int .i64 0, .int .i64 0] 74)
          have hE2 : Ext wA wC := ext_new (hE.trans hA) hX4 hE.size
          have HSE := Lib.hid (show Has n wC b te tw7 (lk2 p5 p6) y ∧ Frm n w wC from ⟨HSD.out.1.ext hE2, HSD.out.2.trans (.ext hE2)⟩)
          have HLF := Lib.hid (And.intro (HLE.out.1.ext hE2) (HLE.out.2.ext hE2))
          clear hE hA hB4 hX4 hE2
          unfold tupS
          go_wp2_with (first | refine Arr.wpList_stA rfl _ _ _ rfl rfl s2 ?_)
          refine (nFirst now _).mono ?_
          rintro e w' ⟨rfl, rfl⟩
          clear s2
          go_wp2_with fail
          refine (nPut 1 _).mono ?_
          rintro e wD ⟨rfl, hE⟩
          have HSG := Lib.hid (show Has n wD b te tw7 (lk2 p5 p6) y ∧ Frm n w wD from ⟨HSE.out.1.ext hE, HSE.out.2.trans (.ext hE)⟩)
          have HLG := Lib.hid (And.intro (HLF.out.1.ext hE) (HLF.out.2.ext hE))
          clear hE HSC HLD HSD HLE HSE HLF
          go_wp2_with fail
          refine (Ways_has 7 HSG.out.1 (by decide) (by decide)).mono ?_
          rintro e wE ⟨ps, k7, rfl, hS, hk, hC⟩
          have HSH := Lib.hid (show Has n wE b te tw7 (lk2 p5 p6) y ∧ Frm n w wE from ⟨⟨ps, hS⟩, HSG.out.2.trans (HSG.out.1.frm hC)⟩)
          have HLH := Lib.hid (And.intro (lock_has HLG.out.1 hC HSG.out.1) (lock_has HLG.out.2 hC HSG.out.1))
          have HK := Lib.hid (hS.shardAt hk)
          clear hS hk hC
          go_wp2_with fail
          refine (ShI.Pending_any k7 _ _ 7 _ HK.out (by decide)).mono ?_
          rintro e wF ⟨rfl, hE⟩
          rw [show (ShI.wayOf (tw7 (shd 7)) 7).1 = 1 by decide]
          have HSI := Lib.hid (show Has n wF b te tw7 (lk2 p5 p6) y ∧ Frm n w wF from ⟨HSH.out.1.ext hE, HSH.out.2.trans (.ext hE)⟩)
          have HLI := Lib.hid (And.intro (HLH.out.1.ext hE) (HLH.out.2.ext hE))
          clear hE HK
          go_wp2_with fail
          refine (Ways_has 8 HSI.out.1 (by decide) (by decide)).mono ?_
          rintro e wG ⟨ps, k8, rfl, hS, hk, hC⟩
          have HSJ := Lib.hid (show Has n wG b te tw7 (lk2 p5 p6) y ∧ Frm n w wG from ⟨⟨ps, hS⟩, HSI.out.2.trans (HSI.out.1.frm hC)⟩)
          have HLJ := Lib.hid (And.intro (lock_has HLI.out.1 hC HSI.out.1) (lock_has HLI.out.2 hC HSI.out.1))
          have HK := Lib.hid (hS.shardAt hk)
          clear hS hk hC
          go_wp2_with fail
          refine (ShI.Pending_any k8 _ _ 7 _ HK.out (by decide)).mono ?_
          rintro e wH ⟨rfl, hE⟩
          rw [show (ShI.wayOf (tw7 (shd 8)) 7).1 = 0 by decide]
          have HSK := Lib.hid (show Has n wH b te tw7 (lk2 p5 p6) y ∧ Frm n w wH from ⟨HSJ.out.1.ext hE, HSJ.out.2.trans (.ext hE)⟩)
          have HLK := Lib.hid (And.intro (HLJ.out.1.ext hE) (HLJ.out.2.ext hE))
          clear hE HK
          go_wp2_with fail
          refine (Idle_yes HSK.out.1 (fun i _ => by have h := idle2 HLK.out.1 HLK.out.2 i; rw [show (if i = 6 then l0.idle else if i = 5 then l0.idle else true) = true by split; rfl; split <;> rfl] at h; exact h)).mono ?_
          rintro e w' ⟨rfl, rfl⟩
          go_wp2_with fail
          refine (nIdle _).mono ?_
          rintro e w' ⟨rfl, rfl⟩
          go_wp2_with fail
          refine (nLen _).mono ?_
          rintro e w' ⟨rfl, rfl⟩
          go_wp2_with fail
          refine (nLock 1 _).mono ?_
          rintro e w' ⟨rfl, rfl⟩
          go_wp2_with fail
          refine (nWays 1 _).mono ?_
          rintro e w' ⟨rfl, rfl⟩
          go_wp2_with fail
          refine (awake_any _).mono ?_
          rintro e wZ ⟨rfl, hE⟩
          have HZ := Lib.hid ((HSK.out.2.toExt HN.out).trans hE)
          clear hE
          go_wp2_with fail
          go_ret
          exact ⟨rfl, HZ.out⟩
end Go.Proofs.YtdfbfcglacalmaaGreat.Sto
end
