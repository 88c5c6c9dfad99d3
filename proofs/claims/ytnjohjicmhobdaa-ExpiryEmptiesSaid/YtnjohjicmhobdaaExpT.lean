/-
  PLAIN LAW: an index of hashes by their ends: all of them, and those of each bucket; the rows that are told, in order.
  No program in sight; no condition.
-/
import Derived.Test.YtnjohjicmhobdaaRankG
namespace Ex
open Rk

/-- The bucket of an end (of 1 or later). -/
def bkt (e : Int) : Int := e / 4
/-- A pair stands ahead: by its bucket, then by its hash. -/
def Lt2 (a b : Int × Int) : Prop := bkt a.2 < bkt b.2 ∨ (bkt a.2 = bkt b.2 ∧ a.1 < b.1)
instance (a b : Int × Int) : Decidable (Lt2 a b) := inferInstanceAs (Decidable (_ ∨ _))
def Srt (l : List (Int × Int)) : Prop := l.Pairwise Lt2

theorem lt2_asymm {a b : Int × Int} (h : Lt2 a b) : ¬ Lt2 b a := by unfold Lt2 at *; omega
theorem lt2_irrefl (a : Int × Int) : ¬ Lt2 a a := by unfold Lt2; omega
theorem lt2_trans {a b c : Int × Int} (h : Lt2 a b) (k : Lt2 b c) : Lt2 a c := by unfold Lt2 at *; omega

theorem srt_uniq : ∀ {a b : List (Int × Int)}, Srt a → Srt b → (∀ x, x ∈ a ↔ x ∈ b) → a = b
  | [], [], _, _, _ => rfl
  | [], y :: b, _, _, h => by have := (h y).2 (by simp); simp at this
  | x :: a, [], _, _, h => by have := (h x).1 (by simp); simp at this
  | x :: a, y :: b, ha, hb, h => by
    obtain ⟨hx, ha'⟩ := List.pairwise_cons.1 ha
    obtain ⟨hy, hb'⟩ := List.pairwise_cons.1 hb
    have e : x = y := by
      rcases List.mem_cons.1 ((h x).1 (by simp)) with e | h1
      · exact e
      · rcases List.mem_cons.1 ((h y).2 (by simp)) with e | h2
        · exact e.symm
        · exact absurd (hy x h1) (lt2_asymm (hx y h2))
    subst e
    congr 1
    refine srt_uniq ha' hb' (fun z => ?_)
    constructor
    · intro hz
      rcases List.mem_cons.1 ((h z).1 (List.mem_cons_of_mem _ hz)) with e | h1
      · exact absurd (hx z hz) (by rw [e]; exact lt2_irrefl _)
      · exact h1
    · intro hz
      rcases List.mem_cons.1 ((h z).2 (List.mem_cons_of_mem _ hz)) with e | h1
      · exact absurd (hy z hz) (by rw [e]; exact lt2_irrefl _)
      · exact h1

/-- The document's rows. -/
def rest (y : List (Int × Int)) (h : Int) : List (Int × Int) := y.filter fun x => decide (x.1 ≠ h)
def insX (x : Int × Int) : List (Int × Int) → List (Int × Int)
  | [] => [x]
  | y :: l => if Lt2 x y then x :: y :: l else y :: insX x l
def refPut (y : List (Int × Int)) (h e : Int) : List (Int × Int) := if e < 1 ∨ e > 1099511627776 then rest y h else insX (h, e) (rest y h)
def endOf (y : List (Int × Int)) (h : Int) : Int := match y.find? (fun x => decide (x.1 = h)) with | some x => x.2 | none => 0

theorem mem_rest {y : List (Int × Int)} {h : Int} {x : Int × Int} : x ∈ rest y h ↔ x ∈ y ∧ x.1 ≠ h := by simp [rest]
theorem mem_insX {x z : Int × Int} : ∀ {l : List (Int × Int)}, z ∈ insX x l ↔ z = x ∨ z ∈ l
  | [] => by simp [insX]
  | y :: l => by
    simp only [insX]
    split
    · simp
    · rw [List.mem_cons, mem_insX (l := l), List.mem_cons]
      constructor
      · rintro (h | h | h)
        · exact .inr (.inl h)
        · exact .inl h
        · exact .inr (.inr h)
      · rintro (h | h | h)
        · exact .inr (.inl h)
        · exact .inl h
        · exact .inr (.inr h)
theorem srt_insX {x : Int × Int} : ∀ {l : List (Int × Int)}, Srt l → (∀ y ∈ l, y.1 ≠ x.1) → Srt (insX x l)
  | [], _, _ => by simp [insX, Srt]
  | y :: l, h, hn => by
    obtain ⟨hy, hl⟩ := List.pairwise_cons.1 h
    simp only [insX]
    split
    · rename_i hlt
      refine List.pairwise_cons.2 ⟨fun z hz => ?_, h⟩
      rcases List.mem_cons.1 hz with rfl | hz
      · exact hlt
      · exact lt2_trans hlt (hy z hz)
    · rename_i hlt
      refine List.pairwise_cons.2 ⟨fun z hz => ?_, srt_insX hl (fun z hz => hn z (List.mem_cons_of_mem _ hz))⟩
      rcases mem_insX.1 hz with rfl | hz
      · have := hn y (by simp)
        unfold Lt2 at *
        omega
      · exact hy z hz
theorem srt_rest {y : List (Int × Int)} (h : Srt y) (k : Int) : Srt (rest y k) := h.filter _

/-- An index: all ends, the buckets (as they lie), and what each holds. -/
structure Inv {β : Type} (te : T Int Int) (tp : T Int β) (tt : Int → T Int Int) : Prop where
  ue : Up cint te.toL
  up : Up cint tp.toL
  ut : ∀ x ∈ tp.toL, Up cint (tt x.1).toL
  ends : ∀ x ∈ te.toL, 1 ≤ x.2 ∧ x.2 ≤ 1099511627776
  mem : ∀ (n : Int) (y : Int × Int), (∃ p, (n, p) ∈ tp.toL ∧ y ∈ (tt n).toL) ↔ (y ∈ te.toL ∧ bkt y.2 = n)
  ne : ∀ x ∈ tp.toL, (tt x.1).toL ≠ []

theorem cint_neg (a b : Int) : cint a b < 0 ↔ a < b := by unfold cint; repeat' split <;> omega
/-- The rows, in the order in which they are told. -/
def ordL {β : Type} (tp : List (Int × β)) (tt : Int → T Int Int) : List (Int × Int) := tp.flatMap fun x => (tt x.1).toL

section
variable {β : Type} {te : T Int Int} {tp : T Int β} {tt : Int → T Int Int}
theorem mem_ordL (h : Inv te tp tt) (y : Int × Int) : y ∈ ordL tp.toL tt ↔ y ∈ te.toL := by
  unfold ordL
  rw [List.mem_flatMap]
  constructor
  · rintro ⟨x, hx, hy⟩
    exact ((h.mem x.1 y).1 ⟨x.2, hx, hy⟩).1
  · intro hy
    obtain ⟨p, hp, hy'⟩ := (h.mem (bkt y.2) y).2 ⟨hy, rfl⟩
    exact ⟨_, hp, hy'⟩
theorem srt_ordL (h : Inv te tp tt) : Srt (ordL tp.toL tt) := by
  unfold Srt ordL
  rw [List.pairwise_flatMap]
  refine ⟨fun x hx => ?_, ?_⟩
  · refine List.Pairwise.imp_of_mem ?_ (h.ut x hx)
    intro a b ha hb hab
    have h1 := ((h.mem x.1 a).1 ⟨x.2, hx, ha⟩).2
    have h2 := ((h.mem x.1 b).1 ⟨x.2, hx, hb⟩).2
    rw [cint_neg] at hab
    exact .inr ⟨by omega, hab⟩
  · refine List.Pairwise.imp_of_mem ?_ h.up
    intro x y hx hy hxy a ha b hb
    have h1 := ((h.mem x.1 a).1 ⟨x.2, hx, ha⟩).2
    have h2 := ((h.mem y.1 b).1 ⟨y.2, hy, hb⟩).2
    rw [cint_neg] at hxy
    exact .inl (by omega)
/-- Whatever sorted rows hold the same pairs are these. -/
theorem ordL_eq (h : Inv te tp tt) {y : List (Int × Int)} (hs : Srt y) (hm : ∀ x, x ∈ y ↔ x ∈ te.toL) : ordL tp.toL tt = y :=
  srt_uniq (srt_ordL h) hs (fun x => (mem_ordL h x).trans (hm x).symm)

theorem up_nodup {α : Type} {l : List (Int × α)} (h : Up cint l) : l.Nodup := by
  unfold List.Nodup
  refine List.Pairwise.imp ?_ h
  intro a b hab e
  rw [e, cint_neg] at hab
  omega
theorem srt_nodup {l : List (Int × Int)} (h : Srt l) : l.Nodup := by
  unfold List.Nodup
  refine List.Pairwise.imp ?_ h
  intro a b hab e
  rw [e] at hab
  exact lt2_irrefl _ hab
theorem up_key {α : Type} {l : List (Int × α)} (h : Up cint l) {a b : Int × α} (ha : a ∈ l) (hb : b ∈ l) (e : a.1 = b.1) : a = b := by
  obtain ⟨i, hi, rfl⟩ := List.mem_iff_getElem.1 ha
  obtain ⟨j, hj, rfl⟩ := List.mem_iff_getElem.1 hb
  rcases Nat.lt_trichotomy i j with h1 | h1 | h1
  · have := List.pairwise_iff_getElem.1 h i j hi hj h1
    rw [cint_neg] at this
    omega
  · subst h1; rfl
  · have := List.pairwise_iff_getElem.1 h j i hj hi h1
    rw [cint_neg] at this
    omega
theorem look_iff {α : Type} {l : List (Int × α)} (h : Up cint l) (k : Int) (v : α) : look cint k l = some v ↔ (k, v) ∈ l := by
  induction l with
  | nil => simp [look]
  | cons x l ih =>
    obtain ⟨hx, hl⟩ := List.pairwise_cons.1 h
    simp only [look]
    by_cases e : cint k x.1 = 0
    · have e' := (cint_lawful.eq _ _).1 e
      rw [if_pos e]
      constructor
      · intro hv
        have : x.2 = v := by simpa using hv
        rw [List.mem_cons]
        exact .inl (by rw [e', ← this])
      · intro hm
        have := up_key (a := (k, v)) (b := x) h hm List.mem_cons_self e'
        rw [← this]
    · rw [if_neg e, ih hl, List.mem_cons]
      have hne : k ≠ x.1 := fun h => e ((cint_lawful.eq _ _).2 h)
      constructor
      · exact .inr
      · rintro (h1 | h1)
        · exact absurd (by rw [← h1]) hne
        · exact h1
theorem get_iff {α : Type} {t : T Int α} (h : Up cint t.toL) (k : Int) (v : α) : T.get cint k t = some v ↔ (k, v) ∈ t.toL := by rw [get_toL cint_lawful k t h, look_iff h]
theorem mem_ins' {α : Type} (k : Int) (v : α) (y : Int × α) : ∀ {l : List (Int × α)}, Up cint l → (y ∈ ins cint k v l ↔ y = (k, v) ∨ (y ∈ l ∧ y.1 ≠ k))
  | [], _ => by simp [ins]
  | x :: l, h => by
    obtain ⟨hx, hl⟩ := List.pairwise_cons.1 h
    simp only [ins]
    by_cases h1 : cint k x.1 < 0
    · rw [if_pos h1]
      rw [cint_neg] at h1
      have hne : ∀ z ∈ x :: l, z.1 ≠ k := by
        intro z hz
        rcases List.mem_cons.1 hz with rfl | hz
        · omega
        · have := hx z hz; rw [cint_neg] at this; omega
      rw [List.mem_cons]
      exact ⟨fun h => h.imp id (fun h => ⟨h, hne _ h⟩), fun h => h.imp id (fun h => h.1)⟩
    · rw [if_neg h1]
      by_cases h2 : cint k x.1 > 0
      · rw [if_pos h2, List.mem_cons, mem_ins' k v y hl, List.mem_cons]
        have hxk : x.1 ≠ k := fun e => by rw [e, (cint_lawful.eq _ _).2 rfl] at h2; omega
        constructor
        · rintro (h | h | ⟨h, hk⟩)
          · exact .inr ⟨.inl h, by rw [h]; exact hxk⟩
          · exact .inl h
          · exact .inr ⟨.inr h, hk⟩
        · rintro (h | ⟨h | h, hk⟩)
          · exact .inr (.inl h)
          · exact .inl h
          · exact .inr (.inr ⟨h, hk⟩)
      · rw [if_neg h2]
        have e := (cint_lawful.eq _ _).1 (by omega : cint k x.1 = 0)
        rw [List.mem_cons, List.mem_cons]
        constructor
        · rintro (h | h)
          · exact .inl h
          · have := hx y h
            rw [cint_neg] at this
            exact .inr ⟨.inr h, by omega⟩
        · rintro (h | ⟨h | h, hk⟩)
          · exact .inl h
          · exact absurd (by rw [h, e]) hk
          · exact .inr h
theorem mem_del' {α : Type} (k : Int) (y : Int × α) : ∀ {l : List (Int × α)}, Up cint l → (y ∈ del cint k l ↔ y ∈ l ∧ y.1 ≠ k)
  | [], _ => by simp [del]
  | x :: l, h => by
    obtain ⟨hx, hl⟩ := List.pairwise_cons.1 h
    simp only [del]
    by_cases e : cint k x.1 = 0
    · have e' := (cint_lawful.eq _ _).1 e
      rw [if_pos e, List.mem_cons]
      constructor
      · intro hy
        have := hx y hy
        rw [cint_neg] at this
        exact ⟨.inr hy, by omega⟩
      · rintro ⟨h1 | h1, hk⟩
        · exact absurd (by rw [h1, e']) hk
        · exact h1
    · rw [if_neg e, List.mem_cons, mem_del' k y hl, List.mem_cons]
      have hxk : x.1 ≠ k := fun h => e ((cint_lawful.eq _ _).2 h.symm)
      constructor
      · rintro (h1 | ⟨h1, hk⟩)
        · exact ⟨.inl h1, by rw [h1]; exact hxk⟩
        · exact ⟨.inr h1, hk⟩
      · rintro ⟨h1 | h1, hk⟩
        · exact .inl h1
        · exact .inr ⟨h1, hk⟩
theorem mem_put {α : Type} {t : T Int α} (h : Up cint t.toL) (k : Int) (v : α) (y : Int × α) : y ∈ (T.put cint k v t).toL ↔ y = (k, v) ∨ (y ∈ t.toL ∧ y.1 ≠ k) := by rw [toL_put cint_lawful k v t h, mem_ins' k v y h]
theorem mem_drop {α : Type} {t : T Int α} (h : Up cint t.toL) (k : Int) (y : Int × α) : y ∈ (T.drop cint k t).toL ↔ y ∈ t.toL ∧ y.1 ≠ k := by rw [toL_drop cint_lawful k t h, mem_del' k y h]

/-- One bucket turned. -/
def upd (tt : Int → T Int Int) (n : Int) (t : T Int Int) : Int → T Int Int := fun m => if m = n then t else tt m
theorem upd_self (tt : Int → T Int Int) (n : Int) (t : T Int Int) : upd tt n t n = t := if_pos rfl
theorem upd_other (tt : Int → T Int Int) {n m : Int} (t : T Int Int) (h : m ≠ n) : upd tt n t m = tt m := if_neg h

theorem Inv.nil : Inv (T.nil : T Int Int) (T.nil : T Int β) tt := ⟨List.Pairwise.nil, List.Pairwise.nil, fun x h => by simp [T.toL] at h, fun x h => by simp [T.toL] at h, fun n y => by simp [T.toL], fun x h => by simp [T.toL] at h⟩

/-- A hash that is there lies in its bucket. -/
theorem Inv.there (h : Inv te tp tt) {k e : Int} (hg : T.get cint k te = some e) : 1 ≤ e ∧ e ≤ 1099511627776 ∧ ∃ p, T.get cint (bkt e) tp = some p ∧ (k, e) ∈ (tt (bkt e)).toL := by
  have hm := (get_iff h.ue k e).1 hg
  obtain ⟨p, hp, hy⟩ := (h.mem (bkt e) (k, e)).2 ⟨hm, rfl⟩
  have := h.ends _ hm
  exact ⟨this.1, this.2, p, (get_iff h.up _ _).2 hp, hy⟩
/-- Gone, and its bucket with it. -/
theorem Inv.dropLast (h : Inv te tp tt) {k e : Int} (hg : T.get cint k te = some e) (hz : (T.drop cint k (tt (bkt e))).toL = []) : Inv (T.drop cint k te) (T.drop cint (bkt e) tp) tt := by
  obtain ⟨_, _, p, hp, hy⟩ := h.there hg
  have hm := (get_iff h.ue k e).1 hg
  have hpm := (get_iff h.up _ _).1 hp
  refine ⟨up_drop cint_lawful _ h.ue, up_drop cint_lawful _ h.up, fun x hx => h.ut x ((mem_drop h.up _ _).1 hx).1, fun x hx => h.ends x ((mem_drop h.ue _ _).1 hx).1, fun n y => ?_, fun x hx => h.ne x ((mem_drop h.up _ _).1 hx).1⟩
  constructor
  · rintro ⟨q, hq, hy'⟩
    obtain ⟨hq1, hq2⟩ := (mem_drop h.up _ _).1 hq
    obtain ⟨h1, h2⟩ := (h.mem n y).1 ⟨q, hq1, hy'⟩
    refine ⟨(mem_drop h.ue _ _).2 ⟨h1, fun e1 => hq2 ?_⟩, h2⟩
    have := up_key h.ue h1 hm e1
    rw [← h2, this]
  · rintro ⟨h1, h2⟩
    obtain ⟨h3, h4⟩ := (mem_drop h.ue _ _).1 h1
    obtain ⟨q, hq, hy'⟩ := (h.mem n y).2 ⟨h3, h2⟩
    refine ⟨q, (mem_drop h.up _ _).2 ⟨hq, fun e1 => ?_⟩, hy'⟩
    dsimp only at e1
    subst e1
    have : y ∈ (T.drop cint k (tt (bkt e))).toL := (mem_drop (h.ut _ hpm) _ _).2 ⟨hy', h4⟩
    rw [hz] at this
    simp at this
/-- Gone, with others left in its bucket. -/
theorem Inv.dropOne (h : Inv te tp tt) {k e : Int} (hg : T.get cint k te = some e) (hz : (T.drop cint k (tt (bkt e))).toL ≠ []) (q : β) : Inv (T.drop cint k te) (T.put cint (bkt e) q tp) (upd tt (bkt e) (T.drop cint k (tt (bkt e)))) := by
  obtain ⟨_, _, p, hp, hy⟩ := h.there hg
  have hm := (get_iff h.ue k e).1 hg
  have hpm := (get_iff h.up _ _).1 hp
  refine ⟨up_drop cint_lawful _ h.ue, up_put cint_lawful _ _ h.up, fun x hx => ?_, fun x hx => h.ends x ((mem_drop h.ue _ _).1 hx).1, fun n y => ?_, fun x hx => ?_⟩
  · rcases (mem_put h.up _ _ _).1 hx with rfl | ⟨hx, hne⟩
    · rw [upd_self]; exact up_drop cint_lawful _ (h.ut _ hpm)
    · rw [upd_other _ _ hne]; exact h.ut x hx
  · by_cases hn : n = bkt e
    · subst hn
      rw [upd_self]
      constructor
      · rintro ⟨_, _, hy'⟩
        obtain ⟨h1, h2⟩ := (mem_drop (h.ut _ hpm) _ _).1 hy'
        obtain ⟨h3, h4⟩ := (h.mem _ y).1 ⟨p, hpm, h1⟩
        exact ⟨(mem_drop h.ue _ _).2 ⟨h3, h2⟩, h4⟩
      · rintro ⟨h1, h2⟩
        obtain ⟨h3, h4⟩ := (mem_drop h.ue _ _).1 h1
        obtain ⟨p', hp', hy'⟩ := (h.mem _ y).2 ⟨h3, h2⟩
        exact ⟨q, (mem_put h.up _ _ _).2 (.inl rfl), (mem_drop (h.ut _ hpm) _ _).2 ⟨hy', h4⟩⟩
    · rw [upd_other _ _ hn]
      constructor
      · rintro ⟨p', hp', hy'⟩
        rcases (mem_put h.up _ _ _).1 hp' with e1 | ⟨e1, _⟩
        · exact absurd (congrArg Prod.fst e1) hn
        · obtain ⟨h3, h4⟩ := (h.mem n y).1 ⟨p', e1, hy'⟩
          refine ⟨(mem_drop h.ue _ _).2 ⟨h3, fun e2 => hn ?_⟩, h4⟩
          have := up_key h.ue h3 hm e2
          rw [← h4, this]
      · rintro ⟨h1, h2⟩
        obtain ⟨h3, h4⟩ := (mem_drop h.ue _ _).1 h1
        obtain ⟨p', hp', hy'⟩ := (h.mem n y).2 ⟨h3, h2⟩
        exact ⟨p', (mem_put h.up _ _ _).2 (.inr ⟨hp', hn⟩), hy'⟩
  · rcases (mem_put h.up _ _ _).1 hx with rfl | ⟨hx, hne⟩
    · rw [upd_self]; exact hz
    · rw [upd_other _ _ hne]; exact h.ne x hx
/-- A new hash; t0: what its bucket held. -/
theorem Inv.put (h : Inv te tp tt) {k e : Int} (hg : T.get cint k te = none) (h1 : 1 ≤ e) (h2 : e ≤ 1099511627776) (t0 : T Int Int) (ht : (∃ p, T.get cint (bkt e) tp = some p ∧ t0 = tt (bkt e)) ∨ (T.get cint (bkt e) tp = none ∧ t0 = .nil)) (q : β) :
    Inv (T.put cint k e te) (T.put cint (bkt e) q tp) (upd tt (bkt e) (T.put cint k e t0)) := by
  have hno : ∀ v, (k, v) ∉ te.toL := fun v hv => by have := (get_iff h.ue k v).2 hv; rw [hg] at this; cases this
  have hu0 : Up cint t0.toL := by
    rcases ht with ⟨p, hp, rfl⟩ | ⟨_, rfl⟩
    · exact h.ut _ ((get_iff h.up _ _).1 hp)
    · exact List.Pairwise.nil
  have hm0 : ∀ y, y ∈ t0.toL ↔ (y ∈ te.toL ∧ bkt y.2 = bkt e) := by
    intro y
    rcases ht with ⟨p, hp, rfl⟩ | ⟨hp, rfl⟩
    · constructor
      · exact fun hy => (h.mem _ y).1 ⟨p, (get_iff h.up _ _).1 hp, hy⟩
      · exact fun hy => ((h.mem _ y).2 hy).elim fun _ h => h.2
    · constructor
      · intro hy; simp [T.toL] at hy
      · intro hy
        obtain ⟨p, hp', _⟩ := (h.mem _ y).2 hy
        have := (get_iff h.up _ _).2 hp'
        rw [hp] at this
        cases this
  refine ⟨up_put cint_lawful _ _ h.ue, up_put cint_lawful _ _ h.up, fun x hx => ?_, fun x hx => ?_, fun n y => ?_, fun x hx => ?_⟩
  · rcases (mem_put h.up _ _ _).1 hx with rfl | ⟨hx, hne⟩
    · rw [upd_self]; exact up_put cint_lawful _ _ hu0
    · rw [upd_other _ _ hne]; exact h.ut x hx
  · rcases (mem_put h.ue _ _ _).1 hx with rfl | ⟨hx, _⟩
    · exact ⟨h1, h2⟩
    · exact h.ends x hx
  · by_cases hn : n = bkt e
    · subst hn
      rw [upd_self]
      constructor
      · rintro ⟨_, _, hy⟩
        rcases (mem_put hu0 _ _ _).1 hy with rfl | ⟨hy, hk⟩
        · exact ⟨(mem_put h.ue _ _ _).2 (.inl rfl), rfl⟩
        · obtain ⟨h3, h4⟩ := (hm0 y).1 hy
          exact ⟨(mem_put h.ue _ _ _).2 (.inr ⟨h3, hk⟩), h4⟩
      · rintro ⟨hy, hb⟩
        refine ⟨q, (mem_put h.up _ _ _).2 (.inl rfl), ?_⟩
        rcases (mem_put h.ue _ _ _).1 hy with rfl | ⟨hy, hk⟩
        · exact (mem_put hu0 _ _ _).2 (.inl rfl)
        · exact (mem_put hu0 _ _ _).2 (.inr ⟨(hm0 y).2 ⟨hy, hb⟩, hk⟩)
    · rw [upd_other _ _ hn]
      constructor
      · rintro ⟨p', hp', hy⟩
        rcases (mem_put h.up _ _ _).1 hp' with e1 | ⟨e1, _⟩
        · exact absurd (congrArg Prod.fst e1) hn
        · obtain ⟨h3, h4⟩ := (h.mem n y).1 ⟨p', e1, hy⟩
          exact ⟨(mem_put h.ue _ _ _).2 (.inr ⟨h3, fun e2 => hno y.2 (by rw [← e2]; exact h3)⟩), h4⟩
      · rintro ⟨hy, hb⟩
        rcases (mem_put h.ue _ _ _).1 hy with rfl | ⟨hy, hk⟩
        · exact absurd hb.symm hn
        · obtain ⟨p', hp', hy'⟩ := (h.mem n y).2 ⟨hy, hb⟩
          exact ⟨p', (mem_put h.up _ _ _).2 (.inr ⟨hp', hn⟩), hy'⟩
  · rcases (mem_put h.up _ _ _).1 hx with rfl | ⟨hx, hne⟩
    · rw [upd_self]
      intro hz
      have : (k, e) ∈ (T.put cint k e t0).toL := (mem_put hu0 _ _ _).2 (.inl rfl)
      rw [hz] at this
      simp at this
    · rw [upd_other _ _ hne]; exact h.ne x hx
end
end Ex
