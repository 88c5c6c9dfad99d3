/-
  PLAIN LAW: a store's rows: shards' trees one behind the other; what ends when; the first one that is due. No walk; no condition.
  Package shard, at things that are ints: removing, cutting, renewing. Fewer than 1,000,000 entries and ways; no other condition.
  The contracts of the ranked tree at uint64,int: each function of package rank comes to the plain tree's. Trees of fewer than 800,000,000 keys; no other condition.
-/
import Derived.Test.YtdfbfcglacalmaaGreatM5
import Derived.WalkKit
import Derived.KernelRfl
import Derived.Deep.RegionWith
import Derived.Deep.LoopGhost
import Derived.Lib.Hide
import Derived.Laws.ResultCell
import Derived.Test.YtdfbfcglacalmaaGreatM1
import Derived.Test.YtdfbfcglacalmaaGreatM2
import Derived.Test.YtdfbfcglacalmaaGreatProg
section
namespace St
open Rk Ex

abbrev Ent := Int × Int × Int × Int × Int × Int
abbrev Row := List (Int × Ent)
def endE (x : Int × Ent) : Int := x.2.2.2.1
def aheadB (a b : Int) : Bool := if a % 256 ≠ b % 256 then decide (a % 256 < b % 256) else decide (a < b)
def shd (h : Int) : Nat := (h % 256).toNat
def LtA (x y : Int × Ent) : Prop := aheadB x.1 y.1 = true
theorem ltA_iff (x y : Int × Ent) : LtA x y ↔ x.1 % 256 < y.1 % 256 ∨ (x.1 % 256 = y.1 % 256 ∧ x.1 < y.1) := by
  unfold LtA aheadB
  split <;> simp <;> omega
theorem ltA_asymm {x y : Int × Ent} (h : LtA x y) : ¬ LtA y x := by rw [ltA_iff] at *; omega
theorem ltA_irrefl (x : Int × Ent) : ¬ LtA x x := by rw [ltA_iff]; omega
theorem ltA_trans {x y z : Int × Ent} (h : LtA x y) (k : LtA y z) : LtA x z := by rw [ltA_iff] at *; omega
theorem ltA_of_ne {x y : Int × Ent} (h : ¬ LtA x y) (hn : x.1 ≠ y.1) : LtA y x := by rw [ltA_iff] at *; omega
/-- Rows in a strict order are told by what they hold. -/
theorem uniq_of {α : Type} {lt : α → α → Prop} (ha : ∀ {x y : α}, lt x y → ¬ lt y x) : ∀ {a b : List α}, a.Pairwise lt → b.Pairwise lt → (∀ x, x ∈ a ↔ x ∈ b) → a = b
  | [], [], _, _, _ => rfl
  | [], y :: b, _, _, h => by have := (h y).2 (by simp); simp at this
  | x :: a, [], _, _, h => by have := (h x).1 (by simp); simp at this
  | x :: a, y :: b, h1, h2, h => by
    obtain ⟨hx, ha'⟩ := List.pairwise_cons.1 h1
    obtain ⟨hy, hb'⟩ := List.pairwise_cons.1 h2
    have irr : ∀ z : α, ¬ lt z z := fun z hz => ha hz hz
    have e : x = y := by
      rcases List.mem_cons.1 ((h x).1 (by simp)) with e | h3
      · exact e
      · rcases List.mem_cons.1 ((h y).2 (by simp)) with e | h4
        · exact e.symm
        · exact absurd (hy x h3) (ha (hx y h4))
    subst e
    congr 1
    refine uniq_of ha ha' hb' (fun z => ?_)
    constructor
    · intro hz
      rcases List.mem_cons.1 ((h z).1 (List.mem_cons_of_mem _ hz)) with e | h3
      · exact absurd (hx z hz) (by rw [e]; exact irr _)
      · exact h3
    · intro hz
      rcases List.mem_cons.1 ((h z).2 (List.mem_cons_of_mem _ hz)) with e | h3
      · exact absurd (hy z hz) (by rw [e]; exact irr _)
      · exact h3
/-- The document's rows. -/
def restA (L : Row) (h : Int) : Row := L.filter fun x => decide (x.1 ≠ h)
def insA (x : Int × Ent) : Row → Row
  | [] => [x]
  | y :: l => if aheadB x.1 y.1 = true then x :: y :: l else y :: insA x l
def putA (L : Row) (x : Int × Ent) : Row := insA x (restA L x.1)
theorem mem_restA {L : Row} {h : Int} {x : Int × Ent} : x ∈ restA L h ↔ x ∈ L ∧ x.1 ≠ h := by simp [restA]
theorem mem_insA {x z : Int × Ent} : ∀ {l : Row}, z ∈ insA x l ↔ z = x ∨ z ∈ l
  | [] => by simp [insA]
  | y :: l => by
    simp only [insA]
    split
    · simp
    · simp only [List.mem_cons, mem_insA (l := l)]
      constructor <;> rintro (h | h | h) <;> simp [h]
theorem srt_insA {x : Int × Ent} : ∀ {l : Row}, l.Pairwise LtA → (∀ y ∈ l, y.1 ≠ x.1) → (insA x l).Pairwise LtA
  | [], _, _ => by simp [insA]
  | y :: l, h, hn => by
    obtain ⟨h1, h2⟩ := List.pairwise_cons.1 h
    simp only [insA]
    split
    · rename_i hlt
      refine List.pairwise_cons.2 ⟨fun z hz => ?_, h⟩
      rcases List.mem_cons.1 hz with rfl | hz
      · exact hlt
      · exact ltA_trans hlt (h1 z hz)
    · rename_i hlt
      refine List.pairwise_cons.2 ⟨fun z hz => ?_, srt_insA h2 (fun y hy => hn y (List.mem_cons_of_mem _ hy))⟩
      rcases mem_insA.1 hz with rfl | hz
      · exact ltA_of_ne hlt (Ne.symm (hn y (by simp)))
      · exact h1 z hz
theorem insA_len (x : Int × Ent) : ∀ l : Row, (insA x l).length = l.length + 1
  | [] => rfl
  | y :: l => by
    simp only [insA]
    split
    · rfl
    · simp [insA_len x l]
theorem restA_len (L : Row) (h : Int) : (restA L h).length ≤ L.length := List.length_filter_le _ _
theorem putA_len (L : Row) (x : Int × Ent) : (putA L x).length ≤ L.length + 1 := by
  unfold putA
  rw [insA_len]
  have := restA_len L x.1
  omega

/-- The trees of the shards hold hashes of their own. -/
structure Ok (te : Nat → T Int Ent) : Prop where
  up : ∀ i, Up cint (te i).toL
  own : ∀ i, ∀ x ∈ (te i).toL, 0 ≤ x.1 ∧ x.1 % 256 = i
def rows (te : Nat → T Int Ent) : Row := (List.range 256).flatMap fun i => (te i).toL
def updT (te : Nat → T Int Ent) (i : Nat) (t : T Int Ent) : Nat → T Int Ent := fun j => if j = i then t else te j
theorem updT_self (te : Nat → T Int Ent) (i : Nat) (t : T Int Ent) : updT te i t i = t := if_pos rfl
theorem updT_other (te : Nat → T Int Ent) {i j : Nat} (t : T Int Ent) (h : j ≠ i) : updT te i t j = te j := if_neg h
theorem shd_lt (h : Int) : shd h < 256 := by unfold shd; omega
theorem shd_of {h : Int} {i : Nat} (e : h % 256 = i) : shd h = i := by unfold shd; omega
theorem Ok.nil : Ok (fun _ => T.nil) := ⟨fun _ => List.Pairwise.nil, fun _ x hx => by simp [T.toL] at hx⟩
theorem rows_nil : rows (fun _ => T.nil) = [] := by
  unfold rows
  rw [List.flatMap_eq_nil_iff]
  intro i _
  rfl
theorem Ok.put {te : Nat → T Int Ent} (h : Ok te) {k : Int} (h0 : 0 ≤ k) (v : Ent) : Ok (updT te (shd k) (T.put cint k v (te (shd k)))) := by
  refine ⟨fun i => ?_, fun i x hx => ?_⟩
  · by_cases e : i = shd k
    · subst e
      rw [updT_self, toL_put cint_lawful _ _ _ (h.up _)]
      exact up_ins cint_lawful _ _ _ (h.up _)
    · rw [updT_other te _ e]; exact h.up i
  · by_cases e : i = shd k
    · subst e
      rw [updT_self] at hx
      rcases (mem_put (h.up _) k v x).1 hx with rfl | hx
      · exact ⟨h0, by unfold shd; simp only; omega⟩
      · exact h.own _ x hx.1
    · rw [updT_other te _ e] at hx; exact h.own i x hx
theorem Ok.drop {te : Nat → T Int Ent} (h : Ok te) (k : Int) : Ok (updT te (shd k) (T.drop cint k (te (shd k)))) := by
  refine ⟨fun i => ?_, fun i x hx => ?_⟩
  · by_cases e : i = shd k
    · subst e
      rw [updT_self, toL_drop cint_lawful _ _ (h.up _)]
      exact up_del _ _ (h.up _)
    · rw [updT_other te _ e]; exact h.up i
  · by_cases e : i = shd k
    · subst e
      rw [updT_self] at hx
      exact h.own _ x ((mem_drop (h.up _) k x).1 hx).1
    · rw [updT_other te _ e] at hx; exact h.own i x hx
theorem mem_rows {te : Nat → T Int Ent} (h : Ok te) {x : Int × Ent} : x ∈ rows te ↔ x ∈ (te (shd x.1)).toL := by
  unfold rows
  simp only [List.mem_flatMap, List.mem_range]
  constructor
  · rintro ⟨i, _, hx⟩
    rw [shd_of (h.own i x hx).2]
    exact hx
  · exact fun hx => ⟨_, shd_lt _, hx⟩
theorem srt_rows {te : Nat → T Int Ent} (h : Ok te) : (rows te).Pairwise LtA := by
  have key : ∀ n, ((List.range n).flatMap fun i => (te i).toL).Pairwise LtA := by
    intro n
    induction n with
    | zero => exact List.Pairwise.nil
    | succ n ih =>
      rw [List.range_succ, List.flatMap_append, List.flatMap_singleton, List.pairwise_append]
      refine ⟨ih, ?_, fun x hx y hy => ?_⟩
      · refine (h.up n).imp_of_mem (fun {x y} hx hy hlt => ?_)
        rw [ltA_iff]
        have h1 := (h.own n x hx).2
        have h2 := (h.own n y hy).2
        have h3 := (cint_neg x.1 y.1).1 hlt
        omega
      · simp only [List.mem_flatMap, List.mem_range] at hx
        obtain ⟨i, hi, hx⟩ := hx
        rw [ltA_iff]
        have h1 := (h.own i x hx).2
        have h2 := (h.own n y hy).2
        omega
  exact key 256
theorem rows_put {te : Nat → T Int Ent} (h : Ok te) {k : Int} (h0 : 0 ≤ k) (v : Ent) : rows (updT te (shd k) (T.put cint k v (te (shd k)))) = putA (rows te) (k, v) := by
  refine uniq_of (fun h => ltA_asymm h) (srt_rows (h.put h0 v)) (srt_insA ((srt_rows h).filter _) (fun y hy => (mem_restA.1 hy).2)) (fun x => ?_)
  unfold putA
  rw [mem_rows (h.put h0 v), mem_insA, mem_restA, mem_rows h]
  by_cases e : shd x.1 = shd k
  · rw [e, updT_self, mem_put (h.up _)]
  · rw [updT_other te _ e]
    constructor
    · intro hx
      exact .inr ⟨hx, fun e' => e (by rw [e'])⟩
    · rintro (rfl | ⟨hx, _⟩)
      · exact absurd rfl e
      · exact hx
theorem rows_drop {te : Nat → T Int Ent} (h : Ok te) (k : Int) : rows (updT te (shd k) (T.drop cint k (te (shd k)))) = restA (rows te) k := by
  refine uniq_of (fun h => ltA_asymm h) (srt_rows (h.drop k)) ((srt_rows h).filter _) (fun x => ?_)
  rw [mem_rows (h.drop k)]
  show _ ↔ x ∈ restA (rows te) k
  rw [mem_restA, mem_rows h]
  by_cases e : shd x.1 = shd k
  · rw [e, updT_self, mem_drop (h.up _)]
  · rw [updT_other te _ e]
    exact ⟨fun hx => ⟨hx, fun e' => e (by rw [e'])⟩, fun hx => hx.1⟩
theorem keys_rows {te : Nat → T Int Ent} (h : Ok te) {x y : Int × Ent} (hx : x ∈ rows te) (hy : y ∈ rows te) (e : x.1 = y.1) : x = y := by
  rw [mem_rows h] at hx hy
  rw [e] at hx
  exact up_key (h.up _) hx hy e
/-- What is there of a hash. -/
def assocA (L : Row) (h : Int) : Option Ent := (L.find? fun x => decide (x.1 = h)).map (·.2)
theorem assocA_iff {te : Nat → T Int Ent} (h : Ok te) (k : Int) (v : Ent) : assocA (rows te) k = some v ↔ (k, v) ∈ rows te := by
  unfold assocA
  constructor
  · intro e
    rw [Option.map_eq_some_iff] at e
    obtain ⟨x, hx, rfl⟩ := e
    have h1 := List.find?_some hx
    simp only [decide_eq_true_eq] at h1
    rw [← h1]
    exact List.mem_of_find?_eq_some hx
  · intro hm
    cases hf : (rows te).find? fun x => decide (x.1 = k) with
    | none =>
      have := List.find?_eq_none.1 hf _ hm
      simp at this
    | some x =>
      have h1 := List.find?_some hf
      simp only [decide_eq_true_eq] at h1
      have := keys_rows h (List.mem_of_find?_eq_some hf) hm h1
      rw [this]; rfl
theorem assocA_get {te : Nat → T Int Ent} (h : Ok te) (k : Int) : assocA (rows te) k = T.get cint k (te (shd k)) := by
  have key : ∀ v, assocA (rows te) k = some v ↔ T.get cint k (te (shd k)) = some v := fun v => by
    rw [assocA_iff h, mem_rows h, get_iff (h.up _)]
  cases h1 : T.get cint k (te (shd k)) with
  | none =>
    cases h2 : assocA (rows te) k with
    | none => rfl
    | some v => rw [(key v).1 h2] at h1; cases h1
  | some v => exact (key v).2 h1
theorem rows_len (te : Nat → T Int Ent) (n : Nat) : ((((List.range n).flatMap fun i => (te i).toL).length : Nat) : Int) = ((List.range n).map fun i => (te i).sz).sum := by
  induction n with
  | zero => rfl
  | succ n ih =>
    rw [List.range_succ, List.flatMap_append, List.flatMap_singleton, List.length_append, List.map_append, List.sum_append, ← ih]
    simp [T.sz_toL]
/-- The index of ends tells of the rows. -/
structure Ix (y : List (Int × Int)) (L : Row) : Prop where
  srt : Srt y
  mem : ∀ z, z ∈ y ↔ ∃ x ∈ L, z = (x.1, endE x) ∧ 1 ≤ endE x ∧ endE x ≤ 1099511627776
theorem Ix.nil : Ix [] [] := ⟨List.Pairwise.nil, fun z => by simp⟩
theorem Ix.rest {y : List (Int × Int)} {L : Row} (h : Ix y L) (k : Int) : Ix (Ex.rest y k) (restA L k) := by
  refine ⟨srt_rest h.srt k, fun z => ?_⟩
  rw [mem_rest, h.mem]
  constructor
  · rintro ⟨⟨x, hx, rfl, h1⟩, h2⟩
    exact ⟨x, mem_restA.2 ⟨hx, h2⟩, rfl, h1⟩
  · rintro ⟨x, hx, rfl, h1⟩
    exact ⟨⟨x, (mem_restA.1 hx).1, rfl, h1⟩, (mem_restA.1 hx).2⟩
theorem Ix.put {y : List (Int × Int)} {L : Row} (h : Ix y L) (x : Int × Ent) : Ix (refPut y x.1 (endE x)) (putA L x) := by
  have hr := h.rest x.1
  unfold refPut putA
  split
  · rename_i he
    refine ⟨hr.srt, fun z => ?_⟩
    rw [hr.mem]
    constructor
    · rintro ⟨u, hu, h1⟩
      exact ⟨u, mem_insA.2 (.inr hu), h1⟩
    · rintro ⟨u, hu, h1, h2⟩
      rcases mem_insA.1 hu with rfl | hu
      · omega
      · exact ⟨u, hu, h1, h2⟩
  · rename_i he
    refine ⟨srt_insX hr.srt (fun u hu => (mem_rest.1 hu).2), fun z => ?_⟩
    rw [mem_insX, hr.mem]
    constructor
    · rintro (rfl | ⟨u, hu, h1⟩)
      · exact ⟨x, mem_insA.2 (.inl rfl), rfl, by omega⟩
      · exact ⟨u, mem_insA.2 (.inr hu), h1⟩
    · rintro ⟨u, hu, h1, h2⟩
      rcases mem_insA.1 hu with rfl | hu
      · exact .inl h1
      · exact .inr ⟨u, hu, h1, h2⟩
/-- The first one that is due, by the document: entry by entry. -/
def dueE (now : Int) (x : Int × Ent) : Bool := decide (1 ≤ endE x) && (decide (endE x ≤ 1099511627776) && dueB now (bkt (endE x)))
def betterB (x z : Int × Ent) : Bool := decide (bkt (endE x) < bkt (endE z)) || (bkt (endE x) == bkt (endE z) && decide (x.1 < z.1))
def bestStep (now : Int) (best : Option (Int × Ent)) (x : Int × Ent) : Option (Int × Ent) :=
  if dueE now x = true then
    match best with
    | none => some x
    | some z => if betterB x z = true then some x else some z
  else best
def bestR (now : Int) (L : Row) : Option (Int × Ent) := L.foldl (bestStep now) none
theorem better_iff (x z : Int × Ent) : betterB x z = true ↔ Lt2 (x.1, endE x) (z.1, endE z) := by
  unfold betterB Lt2
  simp only [Bool.or_eq_true, decide_eq_true_eq, Bool.and_eq_true, beq_iff_eq]
theorem bestR_snoc (now : Int) (L : Row) (x : Int × Ent) : bestR now (L ++ [x]) = bestStep now (bestR now L) x := by
  unfold bestR
  rw [List.foldl_append]; rfl
theorem snoc_ind {α : Type} {P : List α → Prop} (h0 : P []) (hs : ∀ l x, P l → P (l ++ [x])) : ∀ l, P l := by
  intro l
  have : ∀ n (l : List α), l.length = n → P l := by
    intro n
    induction n with
    | zero => intro l hl; rw [List.eq_nil_of_length_eq_zero hl]; exact h0
    | succ n ih =>
      intro l hl
      have hne : l ≠ [] := fun e => by rw [e] at hl; cases hl
      rw [← List.dropLast_concat_getLast hne]
      exact hs _ _ (ih _ (by rw [List.length_dropLast]; omega))
  exact this _ l rfl
theorem bestR_none (now : Int) : ∀ L : Row, bestR now L = none ↔ ∀ x ∈ L, dueE now x = false := by
  intro L
  induction L using snoc_ind with
  | h0 => simp [bestR]
  | hs l x ih =>
    rw [bestR_snoc]
    unfold bestStep
    split
    · rename_i hd
      constructor
      · intro h
        split at h
        · cases h
        · split at h <;> cases h
      · intro h
        have := h x (by simp)
        rw [hd] at this; cases this
    · rename_i hd
      rw [ih]
      constructor
      · intro h z hz
        rcases List.mem_append.1 hz with hz | hz
        · exact h z hz
        · simp at hz; subst hz; simpa using hd
      · exact fun h z hz => h z (by simp [hz])
theorem bestR_some (now : Int) : ∀ (L : Row) (z : Int × Ent), bestR now L = some z → z ∈ L ∧ dueE now z = true ∧ ∀ x ∈ L, dueE now x = true → ¬ Lt2 (x.1, endE x) (z.1, endE z) := by
  intro L
  induction L using snoc_ind with
  | h0 => intro z h; simp [bestR] at h
  | hs l x ih =>
    intro z h
    rw [bestR_snoc] at h
    unfold bestStep at h
    split at h
    · rename_i hd
      split at h
      · rename_i hb
        cases h
        refine ⟨by simp, hd, fun u hu hdu => ?_⟩
        rcases List.mem_append.1 hu with hu | hu
        · have := (bestR_none now l).1 hb u hu
          rw [hdu] at this; cases this
        · simp at hu; subst hu; exact lt2_irrefl _
      · rename_i z0 hb
        obtain ⟨h1, h2, h3⟩ := ih z0 hb
        split at h
        · rename_i hbt
          cases h
          refine ⟨by simp, hd, fun u hu hdu => ?_⟩
          rcases List.mem_append.1 hu with hu | hu
          · intro hlt
            exact h3 u hu hdu (lt2_trans hlt ((better_iff _ _).1 hbt))
          · simp at hu; subst hu; exact lt2_irrefl _
        · rename_i hbt
          cases h
          refine ⟨by simp [h1], h2, fun u hu hdu => ?_⟩
          rcases List.mem_append.1 hu with hu | hu
          · exact h3 u hu hdu
          · simp at hu; subst hu
            exact fun hlt => hbt ((better_iff _ _).2 hlt)
    · rename_i hd
      obtain ⟨h1, h2, h3⟩ := ih z h
      refine ⟨by simp [h1], h2, fun u hu hdu => ?_⟩
      rcases List.mem_append.1 hu with hu | hu
      · exact h3 u hu hdu
      · simp at hu; subst hu; exact absurd hdu hd
/-- The document's first one is the index's. -/
theorem best_head {y : List (Int × Int)} {L : Row} (h : Ix y L) (now : Int) : (bestR now L).map (fun x => (x.1, endE x)) = (dueL now y).head? := by
  have hmem : ∀ z, z ∈ dueL now y ↔ ∃ x ∈ L, z = (x.1, endE x) ∧ dueE now x = true := fun z => by
    unfold dueL dueE
    rw [List.mem_filter, h.mem]
    constructor
    · rintro ⟨⟨x, hx, rfl, h1, h2⟩, h3⟩
      refine ⟨x, hx, rfl, ?_⟩
      rw [decide_eq_true h1, decide_eq_true h2]
      simpa using h3
    · rintro ⟨x, hx, rfl, h1⟩
      simp only [Bool.and_eq_true, decide_eq_true_eq] at h1
      exact ⟨⟨x, hx, rfl, h1.1, h1.2.1⟩, h1.2.2⟩
  cases hb : bestR now L with
  | none =>
    cases hd : dueL now y with
    | nil => rfl
    | cons z r =>
      obtain ⟨x, hx, _, h1⟩ := (hmem z).1 (by rw [hd]; simp)
      rw [(bestR_none now L).1 hb x hx] at h1
      cases h1
  | some x =>
    obtain ⟨h1, h2, h3⟩ := bestR_some now L x hb
    have hin := (hmem (x.1, endE x)).2 ⟨x, h1, rfl, h2⟩
    cases hd : dueL now y with
    | nil => rw [hd] at hin; cases hin
    | cons z r =>
      have hs : Srt (dueL now y) := h.srt.filter _
      rw [hd] at hs hin
      obtain ⟨hz, _⟩ := List.pairwise_cons.1 hs
      rcases List.mem_cons.1 hin with e | hr
      · rw [← e]; rfl
      · obtain ⟨u, hu, hzu, hdu⟩ := (hmem z).1 (by rw [hd]; simp)
        have := hz _ hr
        rw [hzu] at this
        exact absurd this (h3 u hu hdu)
end St
end

section
namespace Go.Proofs.YtdfbfcglacalmaaGreat.ShI
open Go.RowKit Go.Seg Go.Open Go.Lib Rk
set_option maxRecDepth 100000 in
set_option maxHeartbeats 2000000 in
theorem Remove_none (b : Nat) (te : T Int Ent) (tw : T Int (Int × Int)) (h : Int) (w : World) (hS : ShardAt w b te tw) (hs : te.sz < 1000000) (hg : T.get cint h te = none) :
    Calls Tryz.prog 81 #[.pointer (some ⟨b, 0, none⟩), .int .u64 h] w fun e w' => e = .returned (.tuple #[.agg #[.int .u64 0, .int .i64 0, .int .i64 0, .int .i64 0, .int .i64 0, .int .i64 0], .bool false]) ∧ Ext w w' := by
  have HS := Lib.hid hS
  have HG := Lib.hid hg
  clear hS hg
  have hA : Ext w (w.alloc (Obj.cells #[.int .u64 0, .int .i64 0, .int .i64 0, .int .i64 0, .int .i64 0, .int .i64 0] 41)) := (Below.refl _ _).alloc (Nat.le_refl _) _
  have HR := Lib.hid (show Blk (w.alloc (Obj.cells #[.int .u64 0, .int .i64 0, .int .i64 0, .int .i64 0, .int .i64 0, .int .i64 0] 41)) w.heap.size #[.int .u64 0, .int .i64 0, .int .i64 0, .int .i64 0, .int .i64 0, .int .i64 0] 41 from Blk.new _ _ _)
  go_enter Tryz.func81, Tryz.ntmps81
  go_wp2_with fail
  refine (Look_none _ _ _ _ _ (HS.out.ext hA) hs HG.out).mono ?_
  rintro e w1 ⟨rfl, hE⟩
  have hst := Go.run_storeCells_new (P := Tryz.prog) w1 41 #[.int .u64 0, .int .i64 0, .int .i64 0, .int .i64 0, .int .i64 0, .int .i64 0] #[.int .u64 0, .int .i64 0, .int .i64 0, .int .i64 0, .int .i64 0, .int .i64 0] (by kernel_rfl) rfl (by simp [Value.oneCell'])
  have hld := Go.run_loadCellsFrom_new (P := Tryz.prog) w1 41 #[.int .u64 0, .int .i64 0, .int .i64 0, .int .i64 0, .int .i64 0, .int .i64 0] 6 rfl
  have z0 := (HR.out.ext hE).cell (i := 0) rfl
  have y0 := (HR.out.ext hE).frozen 0
  have z1 := (HR.out.ext hE).cell (i := 1) rfl
  have y1 := (HR.out.ext hE).frozen 1
  have z2 := (HR.out.ext hE).cell (i := 2) rfl
  have y2 := (HR.out.ext hE).frozen 2
  have z3 := (HR.out.ext hE).cell (i := 3) rfl
  have y3 := (HR.out.ext hE).frozen 3
  have z4 := (HR.out.ext hE).cell (i := 4) rfl
  have y4 := (HR.out.ext hE).frozen 4
  have z5 := (HR.out.ext hE).cell (i := 5) rfl
  have y5 := (HR.out.ext hE).frozen 5
  have HR1 := Lib.hid (HR.out.ext hE)
  have HE := Lib.hid (below_ext hA hE)
  have hlt : w.heap.size < w1.heap.size := by have := hE.size; simp at this; omega
  clear hE
  go_wp2_with fail
  (try simp only [Exit.inBlock, Exit.then])
  refine bodyPost_ret (results_struct (ty := 41) rfl rfl rfl (c := #[.int .u64 0, .int .i64 0, .int .i64 0, .int .i64 0, .int .i64 0, .int .i64 0]) ?_ (by kernel_rfl) (by kernel_rfl)) rfl ?_
  · first
    | exact Blk.set6a HR1.out rfl _ _ _ _ _ _ _
    | exact Blk.set6 HR1.out rfl _ _ _ _ _ _
  refine ⟨rfl, ?_⟩
  first | exact Ext.set6a HE.out (by simp) _ _ _ _ _ _ _ | exact Ext.set6 HE.out (by simp) _ _ _ _ _ _

set_option maxRecDepth 100000 in
set_option maxHeartbeats 4000000 in
theorem Remove_some (b : Nat) (te : T Int Ent) (tw : T Int (Int × Int)) (h : Int) (v : Ent) (w : World) (hS : ShardAt w b te tw) (hs : te.sz < 1000000) (hg : T.get cint h te = some v) :
    Calls Tryz.prog 81 #[.pointer (some ⟨b, 0, none⟩), .int .u64 h] w fun e w' => e = .returned (.tuple #[.agg #[.int .u64 v.1, .int .i64 v.2.1, .int .i64 v.2.2.1, .int .i64 v.2.2.2.1, .int .i64 v.2.2.2.2.1, .int .i64 v.2.2.2.2.2], .bool true]) ∧ ShardAt w' b (T.drop cint h te) tw ∧ Chg (· = b) w w' := by
  have HS := Lib.hid hS
  have HG := Lib.hid hg
  clear hS hg
  have hbz : b < w.heap.size := by obtain ⟨cs, hb⟩ := HS.out.blk; exact hb.lt
  have hA : Ext w (w.alloc (Obj.cells #[.int .u64 0, .int .i64 0, .int .i64 0, .int .i64 0, .int .i64 0, .int .i64 0] 41)) := (Below.refl _ _).alloc (Nat.le_refl _) _
  have HR := Lib.hid (show Blk (w.alloc (Obj.cells #[.int .u64 0, .int .i64 0, .int .i64 0, .int .i64 0, .int .i64 0, .int .i64 0] 41)) w.heap.size #[.int .u64 0, .int .i64 0, .int .i64 0, .int .i64 0, .int .i64 0, .int .i64 0] 41 from Blk.new _ _ _)
  go_enter Tryz.func81, Tryz.ntmps81
  go_wp2_with fail
  refine (Look_some _ _ _ _ _ _ (HS.out.ext hA) hs HG.out).mono ?_
  rintro e w1 ⟨rfl, hE⟩
  have hst := Go.run_storeCells_new (P := Tryz.prog) w1 41 #[.int .u64 0, .int .i64 0, .int .i64 0, .int .i64 0, .int .i64 0, .int .i64 0] #[.int .u64 v.1, .int .i64 v.2.1, .int .i64 v.2.2.1, .int .i64 v.2.2.2.1, .int .i64 v.2.2.2.2.1, .int .i64 v.2.2.2.2.2] (by kernel_rfl) rfl (by simp [Value.oneCell'])
  have hR1 := HR.out.ext hE
  have hE1 := below_ext hA hE
  have HS1 := Lib.hid (HS.out.ext hE1)
  obtain ⟨q1, q2, hB, hT, hT2⟩ := HS1.out
  have c0 := hB.cell (i := 0) rfl
  have hlt : w.heap.size < w1.heap.size := hR1.lt
  have hlt0 : b < w1.heap.size := by omega
  have HT := Lib.hid hT
  have HE1 := Lib.hid hE1
  have HR1 := Lib.hid hR1
  clear hE hA hE1 hR1 hB hT hT2
  go_wp2_with fail
  obtain ⟨W2, hW2⟩ : ∃ W, w1.alloc (.cells #[.int .u64 v.1, .int .i64 v.2.1, .int .i64 v.2.2.1, .int .i64 v.2.2.2.1, .int .i64 v.2.2.2.2.1, .int .i64 v.2.2.2.2.2] 41) = W := ⟨_, rfl⟩
  have hE2 : Ext w1 W2 := by rw [← hW2]; exact (Below.refl _ _).alloc (Nat.le_refl _) _
  have hV := (Blk.new w1 #[.int .u64 v.1, .int .i64 v.2.1, .int .i64 v.2.2.1, .int .i64 v.2.2.2.1, .int .i64 v.2.2.2.2.1, .int .i64 v.2.2.2.2.2] 41)
  rw [hW2] at hV ⊢
  refine (TrEi.Drop_any h _ _ _ (HT.out.ext hE2) (by omega)).mono ?_
  rintro e w3 ⟨q, rfl, hq, hE3⟩
  have hE4 := Ext.trans hE2 hE3
  have hV3 := hV.ext hE3
  have hR3 := HR1.out.ext hE4
  have hS3 := HS1.out.ext hE4
  have HQ := Lib.hid hq
  have f0 : w3.frozen? ⟨b, 0, none⟩ = false := by obtain ⟨q1', q2', hB', _⟩ := hS3; exact hB'.frozen 0
  have k0 : ∃ v, w3.cell? ⟨b, 0, none⟩ = some v := by obtain ⟨q1', q2', hB', _⟩ := hS3; exact ⟨_, hB'.cell (i := 0) rfl⟩
  obtain ⟨vk, k0⟩ := k0
  have HS3 := Lib.hid hS3
  have HR3 := Lib.hid hR3
  have HV3 := Lib.hid hV3
  have HE4 := Lib.hid (below_ext HE1.out hE4)
  have hlt3 : w1.heap.size < w3.heap.size := hV3.lt
  have hne1 : b ≠ w1.heap.size := by omega
  have hne2 : w1.heap.size ≠ b := by omega
  have hne3 : b ≠ w.heap.size := by omega
  have hne4 : w.heap.size ≠ b := by omega
  have hcv : ∀ i, w3.cell? ⟨w1.heap.size, i, none⟩ = (#[.int .u64 v.1, .int .i64 v.2.1, .int .i64 v.2.2.1, .int .i64 v.2.2.2.1, .int .i64 v.2.2.2.2.1, .int .i64 v.2.2.2.2.2] : Array Value)[i]? := fun i => hV3.cells i
  have hcr : ∀ i, w3.cell? ⟨w.heap.size, i, none⟩ = (#[.int .u64 0, .int .i64 0, .int .i64 0, .int .i64 0, .int .i64 0, .int .i64 0] : Array Value)[i]? := fun i => hR3.cells i
  have hfr : ∀ i, w3.frozen? ⟨w.heap.size, i, none⟩ = false := fun i => hR3.frozen i
  clear hE2 hE3 hE4 hV hV3 hR3 hS3 hq hW2
  go_wp2_with fail
  (try simp only [Exit.inBlock, Exit.then])
  obtain ⟨_, _, hB', _, _⟩ := HS3.out
  have hR4 := HR3.out.chg (Chg.set w3 b 0 (.pointer q)) (.one hB' (by decide))
  refine bodyPost_ret (results_struct (ty := 41) rfl rfl rfl (c := #[.int .u64 v.1, .int .i64 v.2.1, .int .i64 v.2.2.1, .int .i64 v.2.2.2.1, .int .i64 v.2.2.2.2.1, .int .i64 v.2.2.2.2.2]) (Blk.set6 hR4 rfl _ _ _ _ _ _) (by kernel_rfl) (by kernel_rfl)) rfl ?_
  have hS4 := HS3.out.putEntries HQ.out
  have hX := Chg.set6 (w3.setCell ⟨b, 0, none⟩ (.pointer q)) w.heap.size (.int .u64 v.1) (.int .i64 v.2.1) (.int .i64 v.2.2.1) (.int .i64 v.2.2.2.1) (.int .i64 v.2.2.2.2.1) (.int .i64 v.2.2.2.2.2)
  exact ⟨rfl, hS4.one hX hR4 (by decide), ((Chg.of_below HE4.out).trans (Chg.set _ _ _ _)).onNew hX (Nat.le_refl _)⟩

set_option maxRecDepth 100000 in
set_option maxHeartbeats 4000000 in
theorem Renew_none (b : Nat) (te : T Int Ent) (tw : T Int (Int × Int)) (h : Int) (v : Ent) (w : World) (hS : ShardAt w b te tw) (hs : te.sz < 1000000) (hg : T.get cint h te = none) :
    Calls Tryz.prog 80 #[.pointer (some ⟨b, 0, none⟩), .int .u64 h, .agg #[.int .u64 v.1, .int .i64 v.2.1, .int .i64 v.2.2.1, .int .i64 v.2.2.2.1, .int .i64 v.2.2.2.2.1, .int .i64 v.2.2.2.2.2]] w fun e w' => e = .returned (.bool false) ∧ Ext w w' := by
  have HS := Lib.hid hS
  have HG := Lib.hid hg
  clear hS hg
  have hA : Ext w (w.alloc (Obj.cells #[.int .u64 v.1, .int .i64 v.2.1, .int .i64 v.2.2.1, .int .i64 v.2.2.2.1, .int .i64 v.2.2.2.2.1, .int .i64 v.2.2.2.2.2] 41)) := (Below.refl _ _).alloc (Nat.le_refl _) _
  have HP := Lib.hid (show Blk (w.alloc (Obj.cells #[.int .u64 v.1, .int .i64 v.2.1, .int .i64 v.2.2.1, .int .i64 v.2.2.2.1, .int .i64 v.2.2.2.2.1, .int .i64 v.2.2.2.2.2] 41)) w.heap.size #[.int .u64 v.1, .int .i64 v.2.1, .int .i64 v.2.2.1, .int .i64 v.2.2.2.1, .int .i64 v.2.2.2.2.1, .int .i64 v.2.2.2.2.2] 41 from Blk.new _ _ _)
  go_enter Tryz.func80, Tryz.ntmps80
  go_wp2_with fail
  refine (Find_none _ _ _ _ _ _ (HS.out.ext hA) hs HG.out).mono ?_
  rintro e w1 ⟨rfl, hE⟩
  have hst := Go.run_storeCells_new (P := Tryz.prog) w1 41 #[.int .u64 0, .int .i64 0, .int .i64 0, .int .i64 0, .int .i64 0, .int .i64 0] #[.int .u64 0, .int .i64 0, .int .i64 0, .int .i64 0, .int .i64 0, .int .i64 0] (by kernel_rfl) rfl (by simp [Value.oneCell'])
  have hP1 := HP.out.ext hE
  have hpc : ∀ i, w1.cell? ⟨w.heap.size, i, none⟩ = (#[.int .u64 v.1, .int .i64 v.2.1, .int .i64 v.2.2.1, .int .i64 v.2.2.2.1, .int .i64 v.2.2.2.2.1, .int .i64 v.2.2.2.2.2] : Array Value)[i]? := fun i => hP1.cells i
  have hlt : w.heap.size < w1.heap.size := hP1.lt
  have hE1 := below_ext hA hE
  have HS1 := Lib.hid (HS.out.ext hE1)
  have HE1 := Lib.hid hE1
  clear hE hA hE1 hP1
  go_wp2_with fail
  go_ret
  refine ⟨rfl, ?_⟩
  repeat (first | (refine Below.setCell ?_ (by simp) _) | (refine Below.alloc ?_ (by have := HE1.out.size; simp; omega) _))
  exact HE1.out

set_option maxRecDepth 100000 in
set_option maxHeartbeats 4000000 in
theorem Renew_other (b : Nat) (te : T Int Ent) (tw : T Int (Int × Int)) (h : Int) (v : Ent) (u : Ent) (w : World) (hS : ShardAt w b te tw) (hs : te.sz < 1000000) (hg : T.get cint h te = some u) (hc : u.1 ≠ v.1) :
    Calls Tryz.prog 80 #[.pointer (some ⟨b, 0, none⟩), .int .u64 h, .agg #[.int .u64 v.1, .int .i64 v.2.1, .int .i64 v.2.2.1, .int .i64 v.2.2.2.1, .int .i64 v.2.2.2.2.1, .int .i64 v.2.2.2.2.2]] w fun e w' => e = .returned (.bool false) ∧ Ext w w' := by
  have HC := Lib.hid hc
  clear hc
  have HS := Lib.hid hS
  have HG := Lib.hid hg
  clear hS hg
  have hA : Ext w (w.alloc (Obj.cells #[.int .u64 v.1, .int .i64 v.2.1, .int .i64 v.2.2.1, .int .i64 v.2.2.2.1, .int .i64 v.2.2.2.2.1, .int .i64 v.2.2.2.2.2] 41)) := (Below.refl _ _).alloc (Nat.le_refl _) _
  have HP := Lib.hid (show Blk (w.alloc (Obj.cells #[.int .u64 v.1, .int .i64 v.2.1, .int .i64 v.2.2.1, .int .i64 v.2.2.2.1, .int .i64 v.2.2.2.2.1, .int .i64 v.2.2.2.2.2] 41)) w.heap.size #[.int .u64 v.1, .int .i64 v.2.1, .int .i64 v.2.2.1, .int .i64 v.2.2.2.1, .int .i64 v.2.2.2.2.1, .int .i64 v.2.2.2.2.2] 41 from Blk.new _ _ _)
  go_enter Tryz.func80, Tryz.ntmps80
  go_wp2_with fail
  refine (Find_other _ _ _ _ _ _ _ (HS.out.ext hA) hs HG.out HC.out).mono ?_
  rintro e w1 ⟨rfl, hE⟩
  have hst := Go.run_storeCells_new (P := Tryz.prog) w1 41 #[.int .u64 0, .int .i64 0, .int .i64 0, .int .i64 0, .int .i64 0, .int .i64 0] #[.int .u64 0, .int .i64 0, .int .i64 0, .int .i64 0, .int .i64 0, .int .i64 0] (by kernel_rfl) rfl (by simp [Value.oneCell'])
  have hP1 := HP.out.ext hE
  have hpc : ∀ i, w1.cell? ⟨w.heap.size, i, none⟩ = (#[.int .u64 v.1, .int .i64 v.2.1, .int .i64 v.2.2.1, .int .i64 v.2.2.2.1, .int .i64 v.2.2.2.2.1, .int .i64 v.2.2.2.2.2] : Array Value)[i]? := fun i => hP1.cells i
  have hlt : w.heap.size < w1.heap.size := hP1.lt
  have hE1 := below_ext hA hE
  have HS1 := Lib.hid (HS.out.ext hE1)
  have HE1 := Lib.hid hE1
  clear hE hA hE1 hP1
  go_wp2_with fail
  go_ret
  refine ⟨rfl, ?_⟩
  repeat (first | (refine Below.setCell ?_ (by simp) _) | (refine Below.alloc ?_ (by have := HE1.out.size; simp; omega) _))
  exact HE1.out

set_option maxRecDepth 100000 in
set_option maxHeartbeats 4000000 in
theorem Renew_old (b : Nat) (te : T Int Ent) (tw : T Int (Int × Int)) (h : Int) (v : Ent) (u : Ent) (w : World) (hS : ShardAt w b te tw) (hs : te.sz < 1000000) (hg : T.get cint h te = some u) (hc : u.1 = v.1) (he : u.2.2.2.1 ≠ v.2.2.2.1) :
    Calls Tryz.prog 80 #[.pointer (some ⟨b, 0, none⟩), .int .u64 h, .agg #[.int .u64 v.1, .int .i64 v.2.1, .int .i64 v.2.2.1, .int .i64 v.2.2.2.1, .int .i64 v.2.2.2.2.1, .int .i64 v.2.2.2.2.2]] w fun e w' => e = .returned (.bool false) ∧ Ext w w' := by
  have HC := Lib.hid hc
  have d : (u.2.2.2.1 != v.2.2.2.1) = true := by simp [he]
  clear hc he
  have HS := Lib.hid hS
  have HG := Lib.hid hg
  clear hS hg
  have hA : Ext w (w.alloc (Obj.cells #[.int .u64 v.1, .int .i64 v.2.1, .int .i64 v.2.2.1, .int .i64 v.2.2.2.1, .int .i64 v.2.2.2.2.1, .int .i64 v.2.2.2.2.2] 41)) := (Below.refl _ _).alloc (Nat.le_refl _) _
  have HP := Lib.hid (show Blk (w.alloc (Obj.cells #[.int .u64 v.1, .int .i64 v.2.1, .int .i64 v.2.2.1, .int .i64 v.2.2.2.1, .int .i64 v.2.2.2.2.1, .int .i64 v.2.2.2.2.2] 41)) w.heap.size #[.int .u64 v.1, .int .i64 v.2.1, .int .i64 v.2.2.1, .int .i64 v.2.2.2.1, .int .i64 v.2.2.2.2.1, .int .i64 v.2.2.2.2.2] 41 from Blk.new _ _ _)
  go_enter Tryz.func80, Tryz.ntmps80
  go_wp2_with fail
  refine (Find_some _ _ _ _ _ _ _ (HS.out.ext hA) hs HG.out HC.out).mono ?_
  rintro e w1 ⟨rfl, hE⟩
  have hst := Go.run_storeCells_new (P := Tryz.prog) w1 41 #[.int .u64 0, .int .i64 0, .int .i64 0, .int .i64 0, .int .i64 0, .int .i64 0] #[.int .u64 u.1, .int .i64 u.2.1, .int .i64 u.2.2.1, .int .i64 u.2.2.2.1, .int .i64 u.2.2.2.2.1, .int .i64 u.2.2.2.2.2] (by kernel_rfl) rfl (by simp [Value.oneCell'])
  have hP1 := HP.out.ext hE
  have hpc : ∀ i, w1.cell? ⟨w.heap.size, i, none⟩ = (#[.int .u64 v.1, .int .i64 v.2.1, .int .i64 v.2.2.1, .int .i64 v.2.2.2.1, .int .i64 v.2.2.2.2.1, .int .i64 v.2.2.2.2.2] : Array Value)[i]? := fun i => hP1.cells i
  have hlt : w.heap.size < w1.heap.size := hP1.lt
  have hE1 := below_ext hA hE
  have HS1 := Lib.hid (HS.out.ext hE1)
  have HE1 := Lib.hid hE1
  clear hE hA hE1 hP1
  go_wp2_with fail
  go_ret
  refine ⟨rfl, ?_⟩
  repeat (first | (refine Below.setCell ?_ (by simp) _) | (refine Below.alloc ?_ (by have := HE1.out.size; simp; omega) _))
  exact HE1.out

set_option maxRecDepth 100000 in
set_option maxHeartbeats 4000000 in
theorem Renew_yes (b : Nat) (te : T Int Ent) (tw : T Int (Int × Int)) (h : Int) (v : Ent) (u : Ent) (w : World) (hS : ShardAt w b te tw) (hs : te.sz < 1000000) (hg : T.get cint h te = some u) (hc : u.1 = v.1) (he : u.2.2.2.1 = v.2.2.2.1) :
    Calls Tryz.prog 80 #[.pointer (some ⟨b, 0, none⟩), .int .u64 h, .agg #[.int .u64 v.1, .int .i64 v.2.1, .int .i64 v.2.2.1, .int .i64 v.2.2.2.1, .int .i64 v.2.2.2.2.1, .int .i64 v.2.2.2.2.2]] w fun e w' => e = .returned (.bool true) ∧ ShardAt w' b (T.put cint h v te) tw ∧ Chg (· = b) w w' := by
  have HC := Lib.hid hc
  have d : (u.2.2.2.1 != v.2.2.2.1) = false := by simp [he]
  clear hc he
  have HS := Lib.hid hS
  have HG := Lib.hid hg
  clear hS hg
  have hA : Ext w (w.alloc (Obj.cells #[.int .u64 v.1, .int .i64 v.2.1, .int .i64 v.2.2.1, .int .i64 v.2.2.2.1, .int .i64 v.2.2.2.2.1, .int .i64 v.2.2.2.2.2] 41)) := (Below.refl _ _).alloc (Nat.le_refl _) _
  have HP := Lib.hid (show Blk (w.alloc (Obj.cells #[.int .u64 v.1, .int .i64 v.2.1, .int .i64 v.2.2.1, .int .i64 v.2.2.2.1, .int .i64 v.2.2.2.2.1, .int .i64 v.2.2.2.2.2] 41)) w.heap.size #[.int .u64 v.1, .int .i64 v.2.1, .int .i64 v.2.2.1, .int .i64 v.2.2.2.1, .int .i64 v.2.2.2.2.1, .int .i64 v.2.2.2.2.2] 41 from Blk.new _ _ _)
  go_enter Tryz.func80, Tryz.ntmps80
  go_wp2_with fail
  refine (Find_some _ _ _ _ _ _ _ (HS.out.ext hA) hs HG.out HC.out).mono ?_
  rintro e w1 ⟨rfl, hE⟩
  have hst := Go.run_storeCells_new (P := Tryz.prog) w1 41 #[.int .u64 0, .int .i64 0, .int .i64 0, .int .i64 0, .int .i64 0, .int .i64 0] #[.int .u64 u.1, .int .i64 u.2.1, .int .i64 u.2.2.1, .int .i64 u.2.2.2.1, .int .i64 u.2.2.2.2.1, .int .i64 u.2.2.2.2.2] (by kernel_rfl) rfl (by simp [Value.oneCell'])
  have hP1 := HP.out.ext hE
  have hpc : ∀ i, w1.cell? ⟨w.heap.size, i, none⟩ = (#[.int .u64 v.1, .int .i64 v.2.1, .int .i64 v.2.2.1, .int .i64 v.2.2.2.1, .int .i64 v.2.2.2.2.1, .int .i64 v.2.2.2.2.2] : Array Value)[i]? := fun i => hP1.cells i
  have hlt : w.heap.size < w1.heap.size := hP1.lt
  have hE1 := below_ext hA hE
  have HS1 := Lib.hid (HS.out.ext hE1)
  have HE1 := Lib.hid hE1
  clear hE hA hE1 hP1
  go_wp2_with fail
  obtain ⟨W2, hW2⟩ : ∃ W, w1.alloc (.cells #[.int .u64 u.1, .int .i64 u.2.1, .int .i64 u.2.2.1, .int .i64 u.2.2.2.1, .int .i64 u.2.2.2.2.1, .int .i64 u.2.2.2.2.2] 41) = W := ⟨_, rfl⟩
  have hE2 : Ext w1 W2 := by rw [← hW2]; exact (Below.refl _ _).alloc (Nat.le_refl _) _
  rw [hW2]
  refine (Put_entry _ _ _ h v _ (HS1.out.ext hE2) (by omega)).mono ?_
  rintro e w3 ⟨rfl, hS3, hC⟩
  have HS3 := Lib.hid hS3
  have HC3 := Lib.hid ((Chg.of_below (S := (· = b)) (below_ext HE1.out hE2)).trans hC)
  clear hS3 hC hE2 hW2
  go_wp2_with fail
  go_ret
  exact ⟨rfl, HS3.out, HC3.out⟩

end Go.Proofs.YtdfbfcglacalmaaGreat.ShI
end

section
namespace Go.Proofs.YtdfbfcglacalmaaGreat.TrUI
open Go.RowKit Go.Seg Go.Open Rk
/-- A node's block. -/
def NodeAt (w : World) (b : Nat) (k : Int) (v : Int) (pl pr : Option Addr) (n d : Int) : Prop := Blk w b #[.int .u64 k, .int .i64 v, .pointer pl, .pointer pr, .int .i64 n, .int .i64 d] 203
theorem NodeAt.ext {w w' : World} {b : Nat} {k : Int} {v : Int} {pl pr : Option Addr} {n d : Int} (h : NodeAt w b k v pl pr n d) (e : Ext w w') : NodeAt w' b k v pl pr n d := Blk.ext h e
theorem NodeAt.c0 {w : World} {b : Nat} {k : Int} {v : Int} {pl pr : Option Addr} {n d : Int} (h : NodeAt w b k v pl pr n d) : w.cell? ⟨b, 0, none⟩ = some (.int .u64 k) := Blk.cell h rfl
theorem NodeAt.c1 {w : World} {b : Nat} {k : Int} {v : Int} {pl pr : Option Addr} {n d : Int} (h : NodeAt w b k v pl pr n d) : w.cell? ⟨b, 1, none⟩ = some (.int .i64 v) := Blk.cell h rfl
theorem NodeAt.c2 {w : World} {b : Nat} {k : Int} {v : Int} {pl pr : Option Addr} {n d : Int} (h : NodeAt w b k v pl pr n d) : w.cell? ⟨b, 2, none⟩ = some (.pointer pl) := Blk.cell h rfl
theorem NodeAt.c3 {w : World} {b : Nat} {k : Int} {v : Int} {pl pr : Option Addr} {n d : Int} (h : NodeAt w b k v pl pr n d) : w.cell? ⟨b, 3, none⟩ = some (.pointer pr) := Blk.cell h rfl
theorem NodeAt.c4 {w : World} {b : Nat} {k : Int} {v : Int} {pl pr : Option Addr} {n d : Int} (h : NodeAt w b k v pl pr n d) : w.cell? ⟨b, 4, none⟩ = some (.int .i64 n) := Blk.cell h rfl
theorem NodeAt.c5 {w : World} {b : Nat} {k : Int} {v : Int} {pl pr : Option Addr} {n d : Int} (h : NodeAt w b k v pl pr n d) : w.cell? ⟨b, 5, none⟩ = some (.int .i64 d) := Blk.cell h rfl
/-- The tree lies there. -/
def isT (w : World) : Option Addr → T Int Int → Prop
  | p, .nil => p = none
  | p, .node k v l r => ∃ b pl pr, p = some ⟨b, 0, none⟩ ∧ NodeAt w b k v pl pr (l.sz + r.sz + 1) (max l.dp r.dp + 1) ∧ isT w pl l ∧ isT w pr r
theorem isT.ext {w w' : World} (e : Ext w w') : ∀ {t : T Int Int} {p : Option Addr}, isT w p t → isT w' p t
  | .nil, _, hp => hp
  | .node _ _ _ _, _, ⟨b, pl, pr, hp, hb, hl, hr⟩ => ⟨b, pl, pr, hp, hb.ext e, hl.ext e, hr.ext e⟩
theorem isT_node {w : World} {p : Option Addr} {k : Int} {v : Int} {l r : T Int Int} (h : isT w p (.node k v l r)) : ∃ b pl pr, p = some ⟨b, 0, none⟩ ∧ NodeAt w b k v pl pr (l.sz + r.sz + 1) (max l.dp r.dp + 1) ∧ isT w pl l ∧ isT w pr r := h
theorem size_any (w : World) (p : Option Addr) (t : T Int Int) (h : isT w p t) : Calls Tryz.prog 133 #[.pointer p] w fun e w' => e = .returned (.int .i64 t.sz) ∧ w = w' := by
  cases t with
  | nil =>
    obtain rfl := h
    go_enter Tryz.func133, Tryz.ntmps133
    go_wp2
    go_ret
    exact ⟨rfl, rfl⟩
  | node k v l r =>
    obtain ⟨b, pl, pr, rfl, hb, _, _⟩ := isT_node h
    have c := hb.c4
    clear hb h
    go_enter Tryz.func133, Tryz.ntmps133
    go_wp2
    go_ret
    exact ⟨rfl, rfl⟩
theorem deep_any (w : World) (p : Option Addr) (t : T Int Int) (h : isT w p t) : Calls Tryz.prog 169 #[.pointer p] w fun e w' => e = .returned (.int .i64 t.dp) ∧ w = w' := by
  cases t with
  | nil =>
    obtain rfl := h
    go_enter Tryz.func169, Tryz.ntmps169
    go_wp2
    go_ret
    exact ⟨rfl, rfl⟩
  | node k v l r =>
    obtain ⟨b, pl, pr, rfl, hb, _, _⟩ := isT_node h
    have c := hb.c5
    clear hb h
    go_enter Tryz.func169, Tryz.ntmps169
    go_wp2
    go_ret
    exact ⟨rfl, rfl⟩
theorem made_any (w : World) (k : Int) (v : Int) (pl pr : Option Addr) (l r : T Int Int) (hl : isT w pl l) (hr : isT w pr r) (hs : l.sz + r.sz < 1000000000) :
    Calls Tryz.prog 143 #[.int .u64 k, .int .i64 v, .pointer pl, .pointer pr] w fun e w' => ∃ p, e = .returned (.pointer p) ∧ isT w' p (.node k v l r) ∧ Ext w w' := by
  have h1 := l.sz_nn
  have h2 := r.sz_nn
  have h3 := l.dp_nn
  have h4 := r.dp_nn
  have h5 := l.dp_le_sz
  have h6 := r.dp_le_sz
  have H1 := Lib.hid hl
  have H2 := Lib.hid hr
  clear hl hr
  go_enter Tryz.func143, Tryz.ntmps143
  go_wp2_with fail
  refine (size_any _ _ _ H1.out).mono ?_; rintro e w' ⟨rfl, rfl⟩
  go_wp2_with fail
  refine (size_any _ _ _ H2.out).mono ?_; rintro e w' ⟨rfl, rfl⟩
  go_wp2_with fail
  refine (deep_any _ _ _ H1.out).mono ?_; rintro e w' ⟨rfl, rfl⟩
  go_wp2_with fail
  refine (deep_any _ _ _ H2.out).mono ?_; rintro e w' ⟨rfl, rfl⟩
  go_wp2_with fail
  all_goals
    have hB : Ext w (w.alloc (Obj.cells #[.int .u64 k, .int .i64 v, .pointer pl, .pointer pr, .int .i64 (l.sz + r.sz + 1), .int .i64 (max l.dp r.dp + 1)] 203)) := (Below.refl w.heap.size w).alloc (Nat.le_refl _) _
    have hI : isT (w.alloc (Obj.cells #[.int .u64 k, .int .i64 v, .pointer pl, .pointer pr, .int .i64 (l.sz + r.sz + 1), .int .i64 (max l.dp r.dp + 1)] 203)) (some ⟨w.heap.size, 0, none⟩) (.node k v l r) := ⟨w.heap.size, pl, pr, rfl, Blk.new _ _ _, H1.out.ext hB, H2.out.ext hB⟩
    first
      | (have e : max l.dp r.dp = l.dp := by omega)
      | (have e : max l.dp r.dp = r.dp := by omega)
    rw [e] at hI hB
    go_ret
    exact ⟨_, rfl, hI, hB⟩
set_option maxRecDepth 100000 in
theorem leftUp_deep (w : World) (k : Int) (v : Int) (b bm : Nat) (pr pll pml pmr : Option Addr) (ll ml mr r : T Int Int) (lk mk : Int) (lv mv : Int) (ln ld mn md : Int)
    (hb : NodeAt w b lk lv pll (some ⟨bm, 0, none⟩) ln ld) (hm : NodeAt w bm mk mv pml pmr mn md) (hM : isT w (some ⟨bm, 0, none⟩) (.node mk mv ml mr))
    (h1 : isT w pll ll) (h2 : isT w pml ml) (h3 : isT w pmr mr) (h4 : isT w pr r) (hd : ll.dp < (T.node mk mv ml mr).dp) (hs : ll.sz + ml.sz + mr.sz + r.sz < 900000000) :
    Calls Tryz.prog 170 #[.int .u64 k, .int .i64 v, .pointer (some ⟨b, 0, none⟩), .pointer pr] w fun e w' => ∃ p, e = .returned (.pointer p) ∧ isT w' p (.node mk mv (.node lk lv ll ml) (.node k v mr r)) ∧ Ext w w' := by
  have g1 := ll.sz_nn
  have g2 := ml.sz_nn
  have g3 := mr.sz_nn
  have g4 := r.sz_nn
  have hD : decide (ll.dp < (T.node mk mv ml mr).dp) = true := decide_eq_true hd
  have hA : Ext w w := Ext.refl _
  have c0 := (hb.ext hA).c0
  have c1 := (hb.ext hA).c1
  have c2 := (hb.ext hA).c2
  have c3 := (hb.ext hA).c3
  have c4 := (hb.ext hA).c4
  have c5 := (hb.ext hA).c5
  have HB := Lib.hid (hb.ext hA)
  have HN := Lib.hid (hm.ext hA)
  have H1 := Lib.hid (h1.ext hA)
  have H2 := Lib.hid (h2.ext hA)
  have H3 := Lib.hid (h3.ext hA)
  have H4 := Lib.hid (h4.ext hA)
  have HM := Lib.hid (hM.ext hA)
  clear h1 h2 h3 h4 hm hb hM hd
  go_enter Tryz.func170, Tryz.ntmps170
  go_wp2_with fail
  refine (deep_any _ _ _ H1.out).mono ?_; rintro e w' ⟨rfl, rfl⟩
  go_wp2_with fail
  refine (deep_any _ _ _ HM.out).mono ?_; rintro e w' ⟨rfl, rfl⟩
  go_wp2_with fail
  clear c0 c1 c2 c3 c4 c5
  refine wp_region_segs 35 [([24, 1, 7, 3], false), ([0, 3], false), ([0, 2], false), ([1], false)] (by kernel_rfl) (by kernel_rfl) ?_
  apply segs_cons
  · intro W hW
    have c0 := (HB.out.ext hW.of_drew).c0
    have c1 := (HB.out.ext hW.of_drew).c1
    have c2 := (HB.out.ext hW.of_drew).c2
    have c3 := (HB.out.ext hW.of_drew).c3
    have c4 := (HB.out.ext hW.of_drew).c4
    have c5 := (HB.out.ext hW.of_drew).c5
    have m0 := (HN.out.ext hW.of_drew).c0
    have m1 := (HN.out.ext hW.of_drew).c1
    have m2 := (HN.out.ext hW.of_drew).c2
    have m3 := (HN.out.ext hW.of_drew).c3
    have m4 := (HN.out.ext hW.of_drew).c4
    have m5 := (HN.out.ext hW.of_drew).c5
    simp only [runsT, runsF, rep, pick]
    go_wp2_with fail
    exact ⟨rfl, rfl⟩
  simp only [runsT, runsF, rep, left]
  go_wp2_with fail
  refine (made_any _ _ _ _ _ _ _ (H1.out.ext (Ext.drew _)) (H2.out.ext (Ext.drew _)) (by omega)).mono ?_
  rintro e w1 ⟨p1, rfl, hp1, hE1⟩
  go_wp2_with fail
  refine ⟨fun _ => hE1, ?_⟩
  apply segs_cons
  · intro W hW
    exact ⟨rfl, rfl⟩
  simp only [runsT, runsF, rep, left]
  go_wp2_with fail
  refine (made_any _ _ _ _ _ _ _ (H3.out.ext ((Ext.drew _).trans hE1)) (H4.out.ext ((Ext.drew _).trans hE1)) (by omega)).mono ?_
  rintro e w2 ⟨p2, rfl, hp2, hE2⟩
  go_wp2_with fail
  refine ⟨fun _ => hE2, ?_⟩
  apply segs_cons
  · intro W hW
    exact ⟨rfl, rfl⟩
  simp only [runsT, runsF, rep, left]
  go_wp2_with fail
  refine (made_any _ _ _ _ _ (.node lk lv ll ml) (.node k v mr r) (hp1.ext hE2) hp2 (by simp only [T.sz]; omega)).mono ?_
  rintro e w3 ⟨p3, rfl, hp3, hE3⟩
  go_wp2_with fail
  refine ⟨fun _ => hE3, ?_⟩
  apply segs_cons
  · intro W hW
    simp only [runsT, runsF, rep, pick]
    go_wp2_with fail
    exact ⟨rfl, rfl⟩
  simp only [runsT, runsF, rep, left]
  go_wp2_with fail
  go_ret
  exact ⟨_, rfl, hp3, hA.trans ((((Ext.drew _).trans hE1).trans hE2).trans hE3)⟩
set_option maxRecDepth 100000 in
theorem leftUp_flat (w : World) (k : Int) (v : Int) (b : Nat) (pr pll plr : Option Addr) (ll lr r : T Int Int) (lk : Int) (lv : Int) (ln ld : Int)
    (hb : NodeAt w b lk lv pll plr ln ld) (h1 : isT w pll ll) (h3 : isT w plr lr) (h4 : isT w pr r) (hd : ¬ ll.dp < lr.dp) (hs : ll.sz + lr.sz + r.sz < 900000000) :
    Calls Tryz.prog 170 #[.int .u64 k, .int .i64 v, .pointer (some ⟨b, 0, none⟩), .pointer pr] w fun e w' => ∃ p, e = .returned (.pointer p) ∧ isT w' p (.node lk lv ll (.node k v lr r)) ∧ Ext w w' := by
  have g1 := ll.sz_nn
  have g2 := lr.sz_nn
  have g3 := r.sz_nn
  have g4 := r.sz_nn
  have hD : decide (ll.dp < lr.dp) = false := decide_eq_false hd
  have hA : Ext w w := Ext.refl _
  have c0 := (hb.ext hA).c0
  have c1 := (hb.ext hA).c1
  have c2 := (hb.ext hA).c2
  have c3 := (hb.ext hA).c3
  have c4 := (hb.ext hA).c4
  have c5 := (hb.ext hA).c5
  have HB := Lib.hid (hb.ext hA)
  have H1 := Lib.hid (h1.ext hA)
  have H3 := Lib.hid (h3.ext hA)
  have H4 := Lib.hid (h4.ext hA)
  clear h1 h3 h4 hb hd
  go_enter Tryz.func170, Tryz.ntmps170
  go_wp2_with fail
  refine (deep_any _ _ _ H1.out).mono ?_; rintro e w' ⟨rfl, rfl⟩
  go_wp2_with fail
  refine (deep_any _ _ _ H3.out).mono ?_; rintro e w' ⟨rfl, rfl⟩
  go_wp2_with fail
  clear c0 c1 c2 c3 c4 c5
  refine wp_region_segs 22 [([19, 3], false), ([0, 2], false), ([1], false)] (by kernel_rfl) (by kernel_rfl) ?_
  apply segs_cons
  · intro W hW
    have c0 := (HB.out.ext hW.of_drew).c0
    have c1 := (HB.out.ext hW.of_drew).c1
    have c2 := (HB.out.ext hW.of_drew).c2
    have c3 := (HB.out.ext hW.of_drew).c3
    have c4 := (HB.out.ext hW.of_drew).c4
    have c5 := (HB.out.ext hW.of_drew).c5
    simp only [runsT, runsF, rep, pick]
    go_wp2_with fail
    exact ⟨rfl, rfl⟩
  simp only [runsT, runsF, rep, left]
  go_wp2_with fail
  refine (made_any _ _ _ _ _ _ _ (H3.out.ext (Ext.drew _)) (H4.out.ext (Ext.drew _)) (by omega)).mono ?_
  rintro e w1 ⟨p1, rfl, hp1, hE1⟩
  go_wp2_with fail
  refine ⟨fun _ => hE1, ?_⟩
  apply segs_cons
  · intro W hW
    exact ⟨rfl, rfl⟩
  simp only [runsT, runsF, rep, left]
  go_wp2_with fail
  refine (made_any _ _ _ _ _ ll (.node k v lr r) (H1.out.ext ((Ext.drew _).trans hE1)) hp1 (by simp only [T.sz]; omega)).mono ?_
  rintro e w2 ⟨p2, rfl, hp2, hE2⟩
  go_wp2_with fail
  refine ⟨fun _ => hE2, ?_⟩
  apply segs_cons
  · intro W hW
    simp only [runsT, runsF, rep, pick]
    go_wp2_with fail
    exact ⟨rfl, rfl⟩
  simp only [runsT, runsF, rep, left]
  go_wp2_with fail
  go_ret
  exact ⟨_, rfl, hp2, hA.trans (((Ext.drew _).trans hE1).trans hE2)⟩
theorem leftUp_any (w : World) (k : Int) (v : Int) (pl pr : Option Addr) (l r : T Int Int) (hl : isT w pl l) (hr : isT w pr r) (hd : 0 < l.dp) (hs : l.sz + r.sz < 900000000) :
    Calls Tryz.prog 170 #[.int .u64 k, .int .i64 v, .pointer pl, .pointer pr] w fun e w' => ∃ p, e = .returned (.pointer p) ∧ isT w' p (T.leftUp k v l r) ∧ Ext w w' := by
  obtain ⟨lk, lv, ll, lr, rfl⟩ := T.dp_pos hd
  obtain ⟨b, pll, plr, rfl, hb, hll, hlr⟩ := isT_node hl
  simp only [T.sz] at hs
  by_cases h : ll.dp < lr.dp
  · obtain ⟨mk, mv, ml, mr, rfl⟩ := T.dp_pos (t := lr) (by have := ll.dp_nn; omega)
    obtain ⟨bm, pml, pmr, rfl, hm, hml, hmr⟩ := isT_node hlr
    have e : T.leftUp k v (.node lk lv ll (.node mk mv ml mr)) r = .node mk mv (.node lk lv ll ml) (.node k v mr r) := by simp only [T.leftUp]; rw [if_pos h]
    rw [e]
    simp only [T.sz] at hs
    exact leftUp_deep w k v b bm pr pll pml pmr ll ml mr r lk mk lv mv _ _ _ _ hb hm hlr hll hml hmr hr h (by omega)
  · have e : T.leftUp k v (.node lk lv ll lr) r = .node lk lv ll (.node k v lr r) := by simp only [T.leftUp]; rw [if_neg h]
    rw [e]
    exact leftUp_flat w k v b pr pll plr ll lr r lk lv _ _ hb hll hlr hr h (by omega)
set_option maxRecDepth 100000 in
theorem rightUp_deep (w : World) (k : Int) (v : Int) (b bm : Nat) (pl prr pml pmr : Option Addr) (l ml mr rr : T Int Int) (rk mk : Int) (rv mv : Int) (rn rd mn md : Int)
    (hb : NodeAt w b rk rv (some ⟨bm, 0, none⟩) prr rn rd) (hm : NodeAt w bm mk mv pml pmr mn md) (hM : isT w (some ⟨bm, 0, none⟩) (.node mk mv ml mr))
    (h1 : isT w pl l) (h2 : isT w pml ml) (h3 : isT w pmr mr) (h4 : isT w prr rr) (hd : rr.dp < (T.node mk mv ml mr).dp) (hs : l.sz + ml.sz + mr.sz + rr.sz < 900000000) :
    Calls Tryz.prog 171 #[.int .u64 k, .int .i64 v, .pointer pl, .pointer (some ⟨b, 0, none⟩)] w fun e w' => ∃ p, e = .returned (.pointer p) ∧ isT w' p (.node mk mv (.node k v l ml) (.node rk rv mr rr)) ∧ Ext w w' := by
  have g1 := l.sz_nn
  have g2 := ml.sz_nn
  have g3 := mr.sz_nn
  have g4 := rr.sz_nn
  have hD : decide (rr.dp < (T.node mk mv ml mr).dp) = true := decide_eq_true hd
  have hA : Ext w w := Ext.refl _
  have c0 := (hb.ext hA).c0
  have c1 := (hb.ext hA).c1
  have c2 := (hb.ext hA).c2
  have c3 := (hb.ext hA).c3
  have c4 := (hb.ext hA).c4
  have c5 := (hb.ext hA).c5
  have HB := Lib.hid (hb.ext hA)
  have HN := Lib.hid (hm.ext hA)
  have H1 := Lib.hid (h1.ext hA)
  have H2 := Lib.hid (h2.ext hA)
  have H3 := Lib.hid (h3.ext hA)
  have H4 := Lib.hid (h4.ext hA)
  have HM := Lib.hid (hM.ext hA)
  clear h1 h2 h3 h4 hm hb hM hd
  go_enter Tryz.func171, Tryz.ntmps171
  go_wp2_with fail
  refine (deep_any _ _ _ H4.out).mono ?_; rintro e w' ⟨rfl, rfl⟩
  go_wp2_with fail
  refine (deep_any _ _ _ HM.out).mono ?_; rintro e w' ⟨rfl, rfl⟩
  go_wp2_with fail
  clear c0 c1 c2 c3 c4 c5
  refine wp_region_segs 35 [([15, 1, 16, 3], false), ([0, 3], false), ([0, 2], false), ([1], false)] (by kernel_rfl) (by kernel_rfl) ?_
  apply segs_cons
  · intro W hW
    have c0 := (HB.out.ext hW.of_drew).c0
    have c1 := (HB.out.ext hW.of_drew).c1
    have c2 := (HB.out.ext hW.of_drew).c2
    have c3 := (HB.out.ext hW.of_drew).c3
    have c4 := (HB.out.ext hW.of_drew).c4
    have c5 := (HB.out.ext hW.of_drew).c5
    have m0 := (HN.out.ext hW.of_drew).c0
    have m1 := (HN.out.ext hW.of_drew).c1
    have m2 := (HN.out.ext hW.of_drew).c2
    have m3 := (HN.out.ext hW.of_drew).c3
    have m4 := (HN.out.ext hW.of_drew).c4
    have m5 := (HN.out.ext hW.of_drew).c5
    simp only [runsT, runsF, rep, pick]
    go_wp2_with fail
    exact ⟨rfl, rfl⟩
  simp only [runsT, runsF, rep, left]
  go_wp2_with fail
  refine (made_any _ _ _ _ _ _ _ (H1.out.ext (Ext.drew _)) (H2.out.ext (Ext.drew _)) (by omega)).mono ?_
  rintro e w1 ⟨p1, rfl, hp1, hE1⟩
  go_wp2_with fail
  refine ⟨fun _ => hE1, ?_⟩
  apply segs_cons
  · intro W hW
    exact ⟨rfl, rfl⟩
  simp only [runsT, runsF, rep, left]
  go_wp2_with fail
  refine (made_any _ _ _ _ _ _ _ (H3.out.ext ((Ext.drew _).trans hE1)) (H4.out.ext ((Ext.drew _).trans hE1)) (by omega)).mono ?_
  rintro e w2 ⟨p2, rfl, hp2, hE2⟩
  go_wp2_with fail
  refine ⟨fun _ => hE2, ?_⟩
  apply segs_cons
  · intro W hW
    exact ⟨rfl, rfl⟩
  simp only [runsT, runsF, rep, left]
  go_wp2_with fail
  refine (made_any _ _ _ _ _ (.node k v l ml) (.node rk rv mr rr) (hp1.ext hE2) hp2 (by simp only [T.sz]; omega)).mono ?_
  rintro e w3 ⟨p3, rfl, hp3, hE3⟩
  go_wp2_with fail
  refine ⟨fun _ => hE3, ?_⟩
  apply segs_cons
  · intro W hW
    simp only [runsT, runsF, rep, pick]
    go_wp2_with fail
    exact ⟨rfl, rfl⟩
  simp only [runsT, runsF, rep, left]
  go_wp2_with fail
  go_ret
  exact ⟨_, rfl, hp3, hA.trans ((((Ext.drew _).trans hE1).trans hE2).trans hE3)⟩
set_option maxRecDepth 100000 in
theorem rightUp_flat (w : World) (k : Int) (v : Int) (b : Nat) (pl prl prr : Option Addr) (l rl rr : T Int Int) (rk : Int) (rv : Int) (rn rd : Int)
    (hb : NodeAt w b rk rv prl prr rn rd) (h1 : isT w pl l) (h3 : isT w prl rl) (h4 : isT w prr rr) (hd : ¬ rr.dp < rl.dp) (hs : l.sz + rl.sz + rr.sz < 900000000) :
    Calls Tryz.prog 171 #[.int .u64 k, .int .i64 v, .pointer pl, .pointer (some ⟨b, 0, none⟩)] w fun e w' => ∃ p, e = .returned (.pointer p) ∧ isT w' p (.node rk rv (.node k v l rl) rr) ∧ Ext w w' := by
  have g1 := l.sz_nn
  have g2 := rl.sz_nn
  have g3 := rr.sz_nn
  have g4 := rr.sz_nn
  have hD : decide (rr.dp < rl.dp) = false := decide_eq_false hd
  have hA : Ext w w := Ext.refl _
  have c0 := (hb.ext hA).c0
  have c1 := (hb.ext hA).c1
  have c2 := (hb.ext hA).c2
  have c3 := (hb.ext hA).c3
  have c4 := (hb.ext hA).c4
  have c5 := (hb.ext hA).c5
  have HB := Lib.hid (hb.ext hA)
  have H1 := Lib.hid (h1.ext hA)
  have H3 := Lib.hid (h3.ext hA)
  have H4 := Lib.hid (h4.ext hA)
  clear h1 h3 h4 hb hd
  go_enter Tryz.func171, Tryz.ntmps171
  go_wp2_with fail
  refine (deep_any _ _ _ H4.out).mono ?_; rintro e w' ⟨rfl, rfl⟩
  go_wp2_with fail
  refine (deep_any _ _ _ H3.out).mono ?_; rintro e w' ⟨rfl, rfl⟩
  go_wp2_with fail
  clear c0 c1 c2 c3 c4 c5
  refine wp_region_segs 22 [([15, 1, 4, 2], false), ([0, 2], false), ([1], false)] (by kernel_rfl) (by kernel_rfl) ?_
  apply segs_cons
  · intro W hW
    have c0 := (HB.out.ext hW.of_drew).c0
    have c1 := (HB.out.ext hW.of_drew).c1
    have c2 := (HB.out.ext hW.of_drew).c2
    have c3 := (HB.out.ext hW.of_drew).c3
    have c4 := (HB.out.ext hW.of_drew).c4
    have c5 := (HB.out.ext hW.of_drew).c5
    simp only [runsT, runsF, rep, pick]
    go_wp2_with fail
    exact ⟨rfl, rfl⟩
  simp only [runsT, runsF, rep, left]
  go_wp2_with fail
  refine (made_any _ _ _ _ _ _ _ (H1.out.ext (Ext.drew _)) (H3.out.ext (Ext.drew _)) (by omega)).mono ?_
  rintro e w1 ⟨p1, rfl, hp1, hE1⟩
  go_wp2_with fail
  refine ⟨fun _ => hE1, ?_⟩
  apply segs_cons
  · intro W hW
    exact ⟨rfl, rfl⟩
  simp only [runsT, runsF, rep, left]
  go_wp2_with fail
  refine (made_any _ _ _ _ _ (.node k v l rl) rr hp1 (H4.out.ext ((Ext.drew _).trans hE1)) (by simp only [T.sz]; omega)).mono ?_
  rintro e w2 ⟨p2, rfl, hp2, hE2⟩
  go_wp2_with fail
  refine ⟨fun _ => hE2, ?_⟩
  apply segs_cons
  · intro W hW
    simp only [runsT, runsF, rep, pick]
    go_wp2_with fail
    exact ⟨rfl, rfl⟩
  simp only [runsT, runsF, rep, left]
  go_wp2_with fail
  go_ret
  exact ⟨_, rfl, hp2, hA.trans (((Ext.drew _).trans hE1).trans hE2)⟩
theorem rightUp_any (w : World) (k : Int) (v : Int) (pl pr : Option Addr) (l r : T Int Int) (hl : isT w pl l) (hr : isT w pr r) (hd : 0 < r.dp) (hs : l.sz + r.sz < 900000000) :
    Calls Tryz.prog 171 #[.int .u64 k, .int .i64 v, .pointer pl, .pointer pr] w fun e w' => ∃ p, e = .returned (.pointer p) ∧ isT w' p (T.rightUp k v l r) ∧ Ext w w' := by
  obtain ⟨rk, rv, rl, rr, rfl⟩ := T.dp_pos hd
  obtain ⟨b, prl, prr, rfl, hb, hrl, hrr⟩ := isT_node hr
  simp only [T.sz] at hs
  by_cases h : rr.dp < rl.dp
  · obtain ⟨mk, mv, ml, mr, rfl⟩ := T.dp_pos (t := rl) (by have := rr.dp_nn; omega)
    obtain ⟨bm, pml, pmr, rfl, hm, hml, hmr⟩ := isT_node hrl
    have e : T.rightUp k v l (.node rk rv (.node mk mv ml mr) rr) = .node mk mv (.node k v l ml) (.node rk rv mr rr) := by simp only [T.rightUp]; rw [if_pos h]
    rw [e]
    simp only [T.sz] at hs
    exact rightUp_deep w k v b bm pl prr pml pmr l ml mr rr rk mk rv mv _ _ _ _ hb hm hrl hl hml hmr hrr h (by omega)
  · have e : T.rightUp k v l (.node rk rv rl rr) = .node rk rv (.node k v l rl) rr := by simp only [T.rightUp]; rw [if_neg h]
    rw [e]
    exact rightUp_flat w k v b pl prl prr l rl rr rk rv _ _ hb hl hrl hrr h (by omega)
theorem joined_any (w : World) (k : Int) (v : Int) (pl pr : Option Addr) (l r : T Int Int) (hl : isT w pl l) (hr : isT w pr r) (hs : l.sz + r.sz < 900000000) :
    Calls Tryz.prog 144 #[.int .u64 k, .int .i64 v, .pointer pl, .pointer pr] w fun e w' => ∃ p, e = .returned (.pointer p) ∧ isT w' p (T.joined k v l r) ∧ Ext w w' := by
  have h3 := l.dp_nn
  have h4 := r.dp_nn
  have h5 := l.dp_le_sz
  have h6 := r.dp_le_sz
  have h7 := l.sz_nn
  have h8 := r.sz_nn
  have hA : Ext w w := Ext.refl _
  have H1 := Lib.hid (hl.ext hA)
  have H2 := Lib.hid (hr.ext hA)
  clear hl hr
  by_cases c1 : l.dp - r.dp > 1
  · have e : T.joined k v l r = T.leftUp k v l r := by unfold T.joined; rw [if_pos c1]
    rw [e]
    have hd : decide (1 < l.dp - r.dp) = true := decide_eq_true c1
    clear e
    go_enter Tryz.func144, Tryz.ntmps144
    go_wp2_with fail
    refine (deep_any _ _ _ H1.out).mono ?_; rintro e w' ⟨rfl, rfl⟩
    go_wp2_with fail
    refine (deep_any _ _ _ H2.out).mono ?_; rintro e w' ⟨rfl, rfl⟩
    go_wp2_with fail
    refine (leftUp_any _ _ _ _ _ _ _ H1.out H2.out (by omega) hs).mono ?_
    rintro e w1 ⟨p1, rfl, hp1, hE1⟩
    go_wp2_with fail
    go_ret
    exact ⟨_, rfl, hp1, hA.trans hE1⟩
  · by_cases c2 : l.dp - r.dp < -1
    · have e : T.joined k v l r = T.rightUp k v l r := by unfold T.joined; rw [if_neg c1, if_pos c2]
      rw [e]
      have hd : decide (1 < l.dp - r.dp) = false := decide_eq_false c1
      have hd2 : decide (l.dp - r.dp < -1) = true := decide_eq_true c2
      clear e
      go_enter Tryz.func144, Tryz.ntmps144
      go_wp2_with fail
      refine (deep_any _ _ _ H1.out).mono ?_; rintro e w' ⟨rfl, rfl⟩
      go_wp2_with fail
      refine (deep_any _ _ _ H2.out).mono ?_; rintro e w' ⟨rfl, rfl⟩
      go_wp2_with fail
      refine (rightUp_any _ _ _ _ _ _ _ H1.out H2.out (by omega) hs).mono ?_
      rintro e w1 ⟨p1, rfl, hp1, hE1⟩
      go_wp2_with fail
      go_ret
      exact ⟨_, rfl, hp1, hA.trans hE1⟩
    · have e : T.joined k v l r = .node k v l r := by unfold T.joined; rw [if_neg c1, if_neg c2]
      rw [e]
      have hd : decide (1 < l.dp - r.dp) = false := decide_eq_false c1
      have hd2 : decide (l.dp - r.dp < -1) = false := decide_eq_false c2
      clear e
      go_enter Tryz.func144, Tryz.ntmps144
      go_wp2_with fail
      refine (deep_any _ _ _ H1.out).mono ?_; rintro e w' ⟨rfl, rfl⟩
      go_wp2_with fail
      refine (deep_any _ _ _ H2.out).mono ?_; rintro e w' ⟨rfl, rfl⟩
      go_wp2_with fail
      refine (made_any _ _ _ _ _ _ _ H1.out H2.out (by omega)).mono ?_
      rintro e w1 ⟨p1, rfl, hp1, hE1⟩
      go_wp2_with fail
      go_ret
      exact ⟨_, rfl, hp1, hA.trans hE1⟩
/-- The tree's own block. -/
def TreeAt (w : World) (b : Nat) (root : Option Addr) : Prop := Blk w b #[.func (.func 94) #[] #[], .pointer root] 172
theorem TreeAt.ext {w w' : World} {b : Nat} {root : Option Addr} (h : TreeAt w b root) (e : Ext w w') : TreeAt w' b root := Blk.ext h e
theorem TreeAt.c0 {w : World} {b : Nat} {root : Option Addr} (h : TreeAt w b root) : w.cell? ⟨b, 0, none⟩ = some (.func (.func 94) #[] #[]) := Blk.cell h rfl
theorem TreeAt.c1 {w : World} {b : Nat} {root : Option Addr} (h : TreeAt w b root) : w.cell? ⟨b, 1, none⟩ = some (.pointer root) := Blk.cell h rfl
/-- A tree of these keys and things. -/
def isTree (w : World) (p : Option Addr) (t : T Int Int) : Prop := ∃ b root, p = some ⟨b, 0, none⟩ ∧ TreeAt w b root ∧ isT w root t
theorem isTree.ext {w w' : World} (e : Ext w w') {t : T Int Int} {p : Option Addr} : isTree w p t → isTree w' p t := fun ⟨b, root, hp, hb, ht⟩ => ⟨b, root, hp, hb.ext e, ht.ext e⟩
theorem isT.chg {S : Nat → Prop} {w w' : World} (hc : Chg S w w') (hn : Off S w 203) : ∀ {t : T Int Int} {p : Option Addr}, isT w p t → isT w' p t
  | .nil, _, hp => hp
  | .node _ _ _ _, _, ⟨b, pl, pr, hp, hb, hl, hr⟩ => ⟨b, pl, pr, hp, Blk.chg hb hc hn, hl.chg hc hn, hr.chg hc hn⟩
theorem isTree.chg {S : Nat → Prop} {w w' : World} (hc : Chg S w w') (hn : Off S w 203) (hn' : Off S w 172) {t : T Int Int} {p : Option Addr} : isTree w p t → isTree w' p t := fun ⟨b, root, hp, hb, ht⟩ => ⟨b, root, hp, Blk.chg hb hc hn', ht.chg hc hn⟩
theorem nan_any (a : Int) (w : World) : Calls Tryz.prog 125 #[.int .u64 a] w fun e w' => e = .returned (.bool false) ∧ w = w' := by
  go_enter Tryz.func125, Tryz.ntmps125
  go_wp2
  go_ret
  exact ⟨rfl, rfl⟩
theorem cmp_any (a b : Int) (w : World) : Calls Tryz.prog 94 #[.int .u64 a, .int .u64 b] w fun e w' => e = .returned (.int .i64 (cint a b)) ∧ w = w' := by
  go_enter Tryz.func94, Tryz.ntmps94
  go_wp2_with (go_at_call 125; refine (nan_any _ _).mono ?_; rintro e w' ⟨rfl, rfl⟩)
  all_goals
    go_ret
    refine ⟨?_, rfl⟩
    unfold cint
    first
      | (rw [if_pos (by omega)]; rfl)
      | (rw [if_neg (by omega), if_pos (by omega)]; rfl)
      | (rw [if_neg (by omega), if_neg (by omega)]; rfl)
set_option maxRecDepth 100000 in
theorem put_any (k : Int) (v : Int) : ∀ (t : T Int Int) (p : Option Addr) (w : World) (tb : Nat) (root : Option Addr), isT w p t → TreeAt w tb root → t.sz < 800000000 →
    Calls Tryz.prog 120 #[.pointer (some ⟨tb, 0, none⟩), .pointer p, .int .u64 k, .int .i64 v] w fun e w' => ∃ q, e = .returned (.pointer q) ∧ isT w' q (T.put cint k v t) ∧ Ext w w' := by
  intro t
  induction t with
  | nil =>
    intro p w tb root hp hT _
    obtain rfl := hp
    clear hT
    have hA : Ext w w := Ext.refl _
    go_enter Tryz.func120, Tryz.ntmps120
    go_wp2_with fail
    refine (made_any _ _ _ _ _ .nil .nil rfl rfl (by simp [T.sz])).mono ?_
    rintro e w1 ⟨p1, rfl, hp1, hE1⟩
    go_wp2_with fail
    go_ret
    exact ⟨_, rfl, hp1, hA.trans hE1⟩
  | node xk xv l r ihl ihr =>
    intro p w tb root hp hT hs
    obtain ⟨b, pl, pr, rfl, hb, hl, hr⟩ := isT_node hp
    simp only [T.sz] at hs
    have g1 := l.sz_nn
    have g2 := r.sz_nn
    have hA : Ext w w := Ext.refl _
    have HB := Lib.hid (hb.ext hA)
    have HT := Lib.hid (hT.ext hA)
    have H1 := Lib.hid (hl.ext hA)
    have H2 := Lib.hid (hr.ext hA)
    have IHL0 := Lib.hid ihl
    have IHR0 := Lib.hid ihr
    clear hb hT hl hr hp ihl ihr
    by_cases q1 : cint k xk < 0
    · have e : T.put cint k v (.node xk xv l r) = T.joined xk xv (T.put cint k v l) r := by simp only [T.put]; rw [if_pos q1]
      rw [e]
      have hd : decide (cint k xk < 0) = true := decide_eq_true q1
      clear e
      go_enter Tryz.func120, Tryz.ntmps120
      go_wp2_with fail
      refine wp_region_segs 11 [([9, 2], false), ([1], false)] (by kernel_rfl) (by kernel_rfl) ?_
      apply segs_cons
      · intro W hW
        have c0 := (HB.out.ext hW.of_drew).c0
        have c1 := (HB.out.ext hW.of_drew).c1
        have c2 := (HB.out.ext hW.of_drew).c2
        have c3 := (HB.out.ext hW.of_drew).c3
        have c4 := (HB.out.ext hW.of_drew).c4
        have c5 := (HB.out.ext hW.of_drew).c5
        have t0 := (HT.out.ext hW.of_drew).c0
        have t1 := (HT.out.ext hW.of_drew).c1
        simp only [runsT, runsF, rep, pick]
        go_wp2_with fail
        exact ⟨rfl, rfl⟩
      simp only [runsT, runsF, rep, left]
      go_wp2_with fail
      refine (cmp_any _ _ _).mono ?_
      rintro e w' ⟨rfl, rfl⟩
      go_wp2_with fail
      refine ⟨fun _ => Ext.refl _, ?_⟩
      apply segs_cons
      · intro W hW
        simp only [runsT, runsF, rep, pick]
        go_wp2_with fail
        exact ⟨rfl, rfl⟩
      simp only [runsT, runsF, rep, left]
      go_wp2_with fail
      have IHL := IHL0.out
      refine wp_region_segs 22 [([15, 1, 4, 2], false), ([0, 2], false), ([1], false)] (by kernel_rfl) (by kernel_rfl) ?_
      apply segs_cons
      · intro W hW
        have c0 := (HB.out.ext ((Ext.drew _).trans hW.of_drew)).c0
        have c1 := (HB.out.ext ((Ext.drew _).trans hW.of_drew)).c1
        have c2 := (HB.out.ext ((Ext.drew _).trans hW.of_drew)).c2
        have c3 := (HB.out.ext ((Ext.drew _).trans hW.of_drew)).c3
        have c4 := (HB.out.ext ((Ext.drew _).trans hW.of_drew)).c4
        have c5 := (HB.out.ext ((Ext.drew _).trans hW.of_drew)).c5
        simp only [runsT, runsF, rep, pick]
        go_wp2_with fail
        exact ⟨rfl, rfl⟩
      simp only [runsT, runsF, rep, left]
      go_wp2_with fail
      refine (IHL pl _ tb root (H1.out.ext ((Ext.drew _).trans (Ext.drew _))) (HT.out.ext ((Ext.drew _).trans (Ext.drew _))) (by omega)).mono ?_
      rintro e w1 ⟨p1, rfl, hp1, hE1⟩
      go_wp2_with fail
      refine ⟨fun _ => hE1, ?_⟩
      apply segs_cons
      · intro W hW
        exact ⟨rfl, rfl⟩
      simp only [runsT, runsF, rep, left]
      go_wp2_with fail
      refine (joined_any _ _ _ _ _ _ _ hp1 (H2.out.ext (((Ext.drew _).trans (Ext.drew _)).trans hE1)) (by have := T.sz_put_le cint k v l; omega)).mono ?_
      rintro e w2 ⟨p2, rfl, hp2, hE2⟩
      go_wp2_with fail
      refine ⟨fun _ => hE2, ?_⟩
      apply segs_cons
      · intro W hW
        simp only [runsT, runsF, rep, pick]
        go_wp2_with fail
        exact ⟨rfl, rfl⟩
      simp only [runsT, runsF, rep, left]
      go_wp2_with fail
      go_ret
      exact ⟨_, rfl, hp2, hA.trans ((((Ext.drew _).trans (Ext.drew _)).trans hE1).trans hE2)⟩
    · by_cases q2 : cint k xk > 0
      · have e : T.put cint k v (.node xk xv l r) = T.joined xk xv l (T.put cint k v r) := by simp only [T.put]; rw [if_neg q1, if_pos q2]
        rw [e]
        have hd : decide (cint k xk < 0) = false := decide_eq_false q1
        have hd2 : decide (0 < cint k xk) = true := decide_eq_true q2
        clear e
        go_enter Tryz.func120, Tryz.ntmps120
        go_wp2_with fail
        refine wp_region_segs 11 [([9, 2], false), ([1], false)] (by kernel_rfl) (by kernel_rfl) ?_
        apply segs_cons
        · intro W hW
          have c0 := (HB.out.ext hW.of_drew).c0
          have c1 := (HB.out.ext hW.of_drew).c1
          have c2 := (HB.out.ext hW.of_drew).c2
          have c3 := (HB.out.ext hW.of_drew).c3
          have c4 := (HB.out.ext hW.of_drew).c4
          have c5 := (HB.out.ext hW.of_drew).c5
          have t0 := (HT.out.ext hW.of_drew).c0
          have t1 := (HT.out.ext hW.of_drew).c1
          simp only [runsT, runsF, rep, pick]
          go_wp2_with fail
          exact ⟨rfl, rfl⟩
        simp only [runsT, runsF, rep, left]
        go_wp2_with fail
        refine (cmp_any _ _ _).mono ?_
        rintro e w' ⟨rfl, rfl⟩
        go_wp2_with fail
        refine ⟨fun _ => Ext.refl _, ?_⟩
        apply segs_cons
        · intro W hW
          simp only [runsT, runsF, rep, pick]
          go_wp2_with fail
          exact ⟨rfl, rfl⟩
        simp only [runsT, runsF, rep, left]
        go_wp2_with fail
        have IHR := IHR0.out
        refine wp_region_segs 22 [([19, 3], false), ([0, 2], false), ([1], false)] (by kernel_rfl) (by kernel_rfl) ?_
        apply segs_cons
        · intro W hW
          have c0 := (HB.out.ext ((Ext.drew _).trans hW.of_drew)).c0
          have c1 := (HB.out.ext ((Ext.drew _).trans hW.of_drew)).c1
          have c2 := (HB.out.ext ((Ext.drew _).trans hW.of_drew)).c2
          have c3 := (HB.out.ext ((Ext.drew _).trans hW.of_drew)).c3
          have c4 := (HB.out.ext ((Ext.drew _).trans hW.of_drew)).c4
          have c5 := (HB.out.ext ((Ext.drew _).trans hW.of_drew)).c5
          simp only [runsT, runsF, rep, pick]
          go_wp2_with fail
          exact ⟨rfl, rfl⟩
        simp only [runsT, runsF, rep, left]
        go_wp2_with fail
        refine (IHR pr _ tb root (H2.out.ext ((Ext.drew _).trans (Ext.drew _))) (HT.out.ext ((Ext.drew _).trans (Ext.drew _))) (by omega)).mono ?_
        rintro e w1 ⟨p1, rfl, hp1, hE1⟩
        go_wp2_with fail
        refine ⟨fun _ => hE1, ?_⟩
        apply segs_cons
        · intro W hW
          exact ⟨rfl, rfl⟩
        simp only [runsT, runsF, rep, left]
        go_wp2_with fail
        refine (joined_any _ _ _ _ _ _ _ (H1.out.ext (((Ext.drew _).trans (Ext.drew _)).trans hE1)) hp1 (by have := T.sz_put_le cint k v r; omega)).mono ?_
        rintro e w2 ⟨p2, rfl, hp2, hE2⟩
        go_wp2_with fail
        refine ⟨fun _ => hE2, ?_⟩
        apply segs_cons
        · intro W hW
          simp only [runsT, runsF, rep, pick]
          go_wp2_with fail
          exact ⟨rfl, rfl⟩
        simp only [runsT, runsF, rep, left]
        go_wp2_with fail
        go_ret
        exact ⟨_, rfl, hp2, hA.trans ((((Ext.drew _).trans (Ext.drew _)).trans hE1).trans hE2)⟩
      · have e : T.put cint k v (.node xk xv l r) = .node k v l r := by simp only [T.put]; rw [if_neg q1, if_neg q2]
        rw [e]
        have hd : decide (cint k xk < 0) = false := decide_eq_false q1
        have hd2 : decide (0 < cint k xk) = false := decide_eq_false q2
        clear e
        go_enter Tryz.func120, Tryz.ntmps120
        go_wp2_with fail
        refine wp_region_segs 11 [([9, 2], false), ([1], false)] (by kernel_rfl) (by kernel_rfl) ?_
        apply segs_cons
        · intro W hW
          have c0 := (HB.out.ext hW.of_drew).c0
          have c1 := (HB.out.ext hW.of_drew).c1
          have c2 := (HB.out.ext hW.of_drew).c2
          have c3 := (HB.out.ext hW.of_drew).c3
          have c4 := (HB.out.ext hW.of_drew).c4
          have c5 := (HB.out.ext hW.of_drew).c5
          have t0 := (HT.out.ext hW.of_drew).c0
          have t1 := (HT.out.ext hW.of_drew).c1
          simp only [runsT, runsF, rep, pick]
          go_wp2_with fail
          exact ⟨rfl, rfl⟩
        simp only [runsT, runsF, rep, left]
        go_wp2_with fail
        refine (cmp_any _ _ _).mono ?_
        rintro e w' ⟨rfl, rfl⟩
        go_wp2_with fail
        refine ⟨fun _ => Ext.refl _, ?_⟩
        apply segs_cons
        · intro W hW
          simp only [runsT, runsF, rep, pick]
          go_wp2_with fail
          exact ⟨rfl, rfl⟩
        simp only [runsT, runsF, rep, left]
        go_wp2_with fail
        refine wp_region_segs 12 [([10, 2], false), ([1], false)] (by kernel_rfl) (by kernel_rfl) ?_
        apply segs_cons
        · intro W hW
          have c0 := (HB.out.ext ((Ext.drew _).trans hW.of_drew)).c0
          have c1 := (HB.out.ext ((Ext.drew _).trans hW.of_drew)).c1
          have c2 := (HB.out.ext ((Ext.drew _).trans hW.of_drew)).c2
          have c3 := (HB.out.ext ((Ext.drew _).trans hW.of_drew)).c3
          have c4 := (HB.out.ext ((Ext.drew _).trans hW.of_drew)).c4
          have c5 := (HB.out.ext ((Ext.drew _).trans hW.of_drew)).c5
          simp only [runsT, runsF, rep, pick]
          go_wp2_with fail
          exact ⟨rfl, rfl⟩
        simp only [runsT, runsF, rep, left]
        go_wp2_with fail
        refine (made_any _ _ _ _ _ _ _ (H1.out.ext ((Ext.drew _).trans (Ext.drew _))) (H2.out.ext ((Ext.drew _).trans (Ext.drew _))) (by omega)).mono ?_
        rintro e w1 ⟨p1, rfl, hp1, hE1⟩
        go_wp2_with fail
        refine ⟨fun _ => hE1, ?_⟩
        apply segs_cons
        · intro W hW
          simp only [runsT, runsF, rep, pick]
          go_wp2_with fail
          exact ⟨rfl, rfl⟩
        simp only [runsT, runsF, rep, left]
        go_wp2_with fail
        go_ret
        exact ⟨_, rfl, hp1, hA.trans (((Ext.drew _).trans (Ext.drew _)).trans hE1)⟩
set_option maxRecDepth 100000 in
theorem Put_any (k : Int) (v : Int) (t : T Int Int) (p : Option Addr) (w : World) (h : isTree w p t) (hs : t.sz < 800000000) :
    Calls Tryz.prog 88 #[.pointer p, .int .u64 k, .int .i64 v] w fun e w' => ∃ q, e = .returned (.pointer q) ∧ isTree w' q (T.put cint k v t) ∧ Ext w w' := by
  obtain ⟨tb, root, rfl, hT, hR⟩ := h
  have hA : Ext w w := Ext.refl _
  have HT := Lib.hid (hT.ext hA)
  have H1 := Lib.hid (hR.ext hA)
  clear hT hR
  go_enter Tryz.func88, Tryz.ntmps88
  go_wp2_with fail
  refine wp_region_segs 15 [([11, 4], false), ([1, 2], false), ([1], false)] (by kernel_rfl) (by kernel_rfl) ?_
  apply segs_cons
  · intro W hW
    have t0 := (HT.out.ext hW.of_drew).c0
    have t1 := (HT.out.ext hW.of_drew).c1
    simp only [runsT, runsF, rep, pick]
    go_wp2_with fail
    exact ⟨rfl, rfl⟩
  simp only [runsT, runsF, rep, left]
  go_wp2_with fail
  refine (put_any _ _ _ _ _ tb root (H1.out.ext (Ext.drew _)) (HT.out.ext (Ext.drew _)) hs).mono ?_
  rintro e w1 ⟨p1, rfl, hp1, hE1⟩
  go_wp2_with fail
  refine ⟨fun _ => hE1, ?_⟩
  apply segs_cons
  · intro W hW
    simp only [runsT, runsF, rep, pick]
    go_wp2_with fail
    exact ⟨rfl, rfl⟩
  simp only [runsT, runsF, rep, left]
  go_wp2_with fail
  refine ⟨fun _ => (Below.refl _ _).alloc (Nat.le_refl _) _, ?_⟩
  apply segs_cons
  · intro W hW
    simp only [runsT, runsF, rep, pick]
    go_wp2_with fail
    exact ⟨rfl, rfl⟩
  simp only [runsT, runsF, rep, left]
  go_wp2_with fail
  go_ret
  have hB : Ext w1 (w1.alloc (Obj.cells #[.func (.func 94) #[] #[], .pointer p1] 172)) := (Below.refl _ _).alloc (Nat.le_refl _) _
  exact ⟨_, rfl, ⟨_, p1, rfl, Blk.new _ _ _, hp1.ext hB⟩, hA.trans (((Ext.drew _).trans hE1).trans hB)⟩
set_option maxRecDepth 100000 in
theorem first_any : ∀ (l : T Int Int) (k : Int) (v : Int) (r : T Int Int) (p : Option Addr) (w : World), isT w p (.node k v l r) → l.sz + r.sz < 800000000 →
    Calls Tryz.prog 179 #[.pointer p] w fun e w' => ∃ q ql, e = .returned (.tuple #[.pointer q, .pointer ql]) ∧ isT w' q (T.first k v l r).1 ∧ (∃ b pl pr n d, ql = some ⟨b, 0, none⟩ ∧ NodeAt w' b (T.first k v l r).2.1 (T.first k v l r).2.2 pl pr n d) ∧ Ext w w' := by
  intro l
  induction l with
  | nil =>
    intro k v r p w hp _
    obtain ⟨b, pl, pr, rfl, hb, hl, hr⟩ := isT_node hp
    obtain rfl := hl
    have HB := Lib.hid hb
    have H2 := Lib.hid hr
    have c0 := hb.c0
    have c1 := hb.c1
    have c2 := hb.c2
    have c3 := hb.c3
    have c4 := hb.c4
    have c5 := hb.c5
    clear hb hr hp
    go_enter Tryz.func179, Tryz.ntmps179
    go_wp2_with fail
    go_ret2
    exact ⟨_, _, rfl, H2.out, ⟨b, _, _, _, _, rfl, HB.out⟩, Ext.refl _⟩
  | node lk lv ll lr ihl _ =>
    intro k v r p w hp hs
    obtain ⟨b, pl, pr, rfl, hb, hl, hr⟩ := isT_node hp
    simp only [T.sz] at hs
    have g1 := ll.sz_nn
    have g2 := lr.sz_nn
    have g3 := r.sz_nn
    have HB := Lib.hid hb
    have H1 := Lib.hid hl
    have H2 := Lib.hid hr
    obtain ⟨bl, pll, plr, rfl, _, _, _⟩ := isT_node hl
    have IHL0 := Lib.hid ihl
    have c0 := hb.c0
    have c1 := hb.c1
    have c2 := hb.c2
    have c3 := hb.c3
    have c4 := hb.c4
    have c5 := hb.c5
    clear hb hl hr hp ihl
    go_enter Tryz.func179, Tryz.ntmps179
    go_wp2_with fail
    refine (IHL0.out lk lv lr _ _ H1.out (by omega)).mono ?_
    rintro e w1 ⟨q1, ql1, rfl, hq1, ⟨b1, pl1, pr1, n1, d1, rfl, hN1⟩, hE1⟩
    go_wp2_with fail
    clear c0 c1 c2 c3 c4 c5
    refine wp_region_segs 17 [([13, 1, 1, 2], false), ([2], false)] (by kernel_rfl) (by kernel_rfl) ?_
    apply segs_cons
    · intro W hW
      have c0 := (HB.out.ext (hE1.trans hW.of_drew)).c0
      have c1 := (HB.out.ext (hE1.trans hW.of_drew)).c1
      have c2 := (HB.out.ext (hE1.trans hW.of_drew)).c2
      have c3 := (HB.out.ext (hE1.trans hW.of_drew)).c3
      have c4 := (HB.out.ext (hE1.trans hW.of_drew)).c4
      have c5 := (HB.out.ext (hE1.trans hW.of_drew)).c5
      simp only [runsT, runsF, rep, pick]
      go_wp2_with fail
      exact ⟨rfl, rfl⟩
    simp only [runsT, runsF, rep, left]
    go_wp2_with fail
    refine (joined_any _ _ _ _ _ _ _ (hq1.ext (Ext.drew _)) (H2.out.ext (hE1.trans (Ext.drew _))) (by have := T.sz_first ll lk lv lr; omega)).mono ?_
    rintro e w2 ⟨p2, rfl, hp2, hE2⟩
    go_wp2_with fail
    refine ⟨fun _ => hE2, ?_⟩
    apply segs_cons
    · intro W hW
      simp only [runsT, runsF, rep, pick]
      go_wp2_with fail
      exact ⟨rfl, rfl⟩
    simp only [runsT, runsF, rep, left]
    go_wp2_with fail
    go_ret2
    exact ⟨_, _, rfl, hp2, ⟨b1, _, _, _, _, rfl, hN1.ext ((Ext.drew _).trans hE2)⟩, (hE1.trans (Ext.drew _)).trans hE2⟩
set_option maxRecDepth 100000 in
theorem both_any (l r : T Int Int) (p q : Option Addr) (w : World) (hl : isT w p l) (hr : isT w q r) (hs : l.sz + r.sz < 800000000) :
    Calls Tryz.prog 156 #[.pointer p, .pointer q] w fun e w' => ∃ s, e = .returned (.pointer s) ∧ isT w' s (T.both l r) ∧ Ext w w' := by
  have H1 := Lib.hid hl
  have H2 := Lib.hid hr
  cases l with
  | nil =>
    obtain rfl := hl
    clear hr
    go_enter Tryz.func156, Tryz.ntmps156
    go_wp2_with fail
    go_ret
    exact ⟨_, rfl, by rw [show T.both .nil r = r from by cases r <;> rfl]; exact H2.out, Ext.refl _⟩
  | node lk lv ll lr =>
    obtain ⟨b, pl, pr, rfl, _, _, _⟩ := isT_node hl
    cases r with
    | nil =>
      obtain rfl := hr
      clear hl
      go_enter Tryz.func156, Tryz.ntmps156
      go_wp2_with fail
      go_ret
      exact ⟨_, rfl, H1.out, Ext.refl _⟩
    | node rk rv rl rr =>
      obtain ⟨b2, pl2, pr2, rfl, _, _, _⟩ := isT_node hr
      simp only [T.sz] at hs
      have g1 := ll.sz_nn
      have g2 := lr.sz_nn
      have g3 := rl.sz_nn
      have g4 := rr.sz_nn
      clear hl hr
      go_enter Tryz.func156, Tryz.ntmps156
      go_wp2_with fail
      refine (first_any rl rk rv rr _ _ H2.out (by omega)).mono ?_
      rintro e w1 ⟨q1, ql1, rfl, hq1, ⟨b1, pl1, pr1, n1, d1, rfl, hN1⟩, hE1⟩
      go_wp2_with fail
      refine wp_region_segs 12 [([10, 2], false), ([1], false)] (by kernel_rfl) (by kernel_rfl) ?_
      apply segs_cons
      · intro W hW
        have c0 := (hN1.ext hW.of_drew).c0
        have c1 := (hN1.ext hW.of_drew).c1
        have c2 := (hN1.ext hW.of_drew).c2
        have c3 := (hN1.ext hW.of_drew).c3
        have c4 := (hN1.ext hW.of_drew).c4
        have c5 := (hN1.ext hW.of_drew).c5
        simp only [runsT, runsF, rep, pick]
        go_wp2_with fail
        exact ⟨rfl, rfl⟩
      simp only [runsT, runsF, rep, left]
      go_wp2_with fail
      refine (joined_any _ _ _ _ _ (.node lk lv ll lr) _ (H1.out.ext (hE1.trans (Ext.drew _))) (hq1.ext (Ext.drew _)) (by have := T.sz_first rl rk rv rr; simp only [T.sz]; omega)).mono ?_
      rintro e w2 ⟨p2, rfl, hp2, hE2⟩
      go_wp2_with fail
      refine ⟨fun _ => hE2, ?_⟩
      apply segs_cons
      · intro W hW
        simp only [runsT, runsF, rep, pick]
        go_wp2_with fail
        exact ⟨rfl, rfl⟩
      simp only [runsT, runsF, rep, left]
      go_wp2_with fail
      go_ret
      exact ⟨_, rfl, hp2, (hE1.trans (Ext.drew _)).trans hE2⟩
set_option maxRecDepth 100000 in
theorem drop_any (k : Int) : ∀ (t : T Int Int) (p : Option Addr) (w : World) (tb : Nat) (root : Option Addr), isT w p t → TreeAt w tb root → t.sz < 800000000 →
    Calls Tryz.prog 132 #[.pointer (some ⟨tb, 0, none⟩), .pointer p, .int .u64 k] w fun e w' => ∃ q, e = .returned (.pointer q) ∧ isT w' q (T.drop cint k t) ∧ Ext w w' := by
  intro t
  induction t with
  | nil =>
    intro p w tb root hp hT _
    obtain rfl := hp
    clear hT
    go_enter Tryz.func132, Tryz.ntmps132
    go_wp2_with fail
    go_ret
    exact ⟨_, rfl, rfl, Ext.refl _⟩
  | node xk xv l r ihl ihr =>
    intro p w tb root hp hT hs
    obtain ⟨b, pl, pr, rfl, hb, hl, hr⟩ := isT_node hp
    simp only [T.sz] at hs
    have g1 := l.sz_nn
    have g2 := r.sz_nn
    have HB := Lib.hid hb
    have HT := Lib.hid hT
    have H1 := Lib.hid hl
    have H2 := Lib.hid hr
    have IHL0 := Lib.hid ihl
    have IHR0 := Lib.hid ihr
    clear hb hT hl hr hp ihl ihr
    by_cases q1 : cint k xk < 0
    · have e : T.drop cint k (.node xk xv l r) = T.joined xk xv (T.drop cint k l) r := by simp only [T.drop]; rw [if_pos q1]
      rw [e]
      have hd : decide (cint k xk < 0) = true := decide_eq_true q1
      clear e
      go_enter Tryz.func132, Tryz.ntmps132
      go_wp2_with fail
      refine wp_region_segs 11 [([9, 2], false), ([1], false)] (by kernel_rfl) (by kernel_rfl) ?_
      apply segs_cons
      · intro W hW
        have c0 := (HB.out.ext hW.of_drew).c0
        have c1 := (HB.out.ext hW.of_drew).c1
        have c2 := (HB.out.ext hW.of_drew).c2
        have c3 := (HB.out.ext hW.of_drew).c3
        have c4 := (HB.out.ext hW.of_drew).c4
        have c5 := (HB.out.ext hW.of_drew).c5
        have t0 := (HT.out.ext hW.of_drew).c0
        have t1 := (HT.out.ext hW.of_drew).c1
        simp only [runsT, runsF, rep, pick]
        go_wp2_with fail
        exact ⟨rfl, rfl⟩
      simp only [runsT, runsF, rep, left]
      go_wp2_with fail
      refine (cmp_any _ _ _).mono ?_
      rintro e w' ⟨rfl, rfl⟩
      go_wp2_with fail
      refine ⟨fun _ => Ext.refl _, ?_⟩
      apply segs_cons
      · intro W hW
        simp only [runsT, runsF, rep, pick]
        go_wp2_with fail
        exact ⟨rfl, rfl⟩
      simp only [runsT, runsF, rep, left]
      go_wp2_with fail
      have IHL := IHL0.out
      refine wp_region_segs 21 [([14, 1, 4, 2], false), ([0, 2], false), ([1], false)] (by kernel_rfl) (by kernel_rfl) ?_
      apply segs_cons
      · intro W hW
        have c0 := (HB.out.ext ((Ext.drew _).trans hW.of_drew)).c0
        have c1 := (HB.out.ext ((Ext.drew _).trans hW.of_drew)).c1
        have c2 := (HB.out.ext ((Ext.drew _).trans hW.of_drew)).c2
        have c3 := (HB.out.ext ((Ext.drew _).trans hW.of_drew)).c3
        have c4 := (HB.out.ext ((Ext.drew _).trans hW.of_drew)).c4
        have c5 := (HB.out.ext ((Ext.drew _).trans hW.of_drew)).c5
        simp only [runsT, runsF, rep, pick]
        go_wp2_with fail
        exact ⟨rfl, rfl⟩
      simp only [runsT, runsF, rep, left]
      go_wp2_with fail
      refine (IHL pl _ tb root (H1.out.ext ((Ext.drew _).trans (Ext.drew _))) (HT.out.ext ((Ext.drew _).trans (Ext.drew _))) (by omega)).mono ?_
      rintro e w1 ⟨p1, rfl, hp1, hE1⟩
      go_wp2_with fail
      refine ⟨fun _ => hE1, ?_⟩
      apply segs_cons
      · intro W hW
        exact ⟨rfl, rfl⟩
      simp only [runsT, runsF, rep, left]
      go_wp2_with fail
      refine (joined_any _ _ _ _ _ _ _ hp1 (H2.out.ext (((Ext.drew _).trans (Ext.drew _)).trans hE1)) (by have := T.sz_drop_le cint k l; omega)).mono ?_
      rintro e w2 ⟨p2, rfl, hp2, hE2⟩
      go_wp2_with fail
      refine ⟨fun _ => hE2, ?_⟩
      apply segs_cons
      · intro W hW
        simp only [runsT, runsF, rep, pick]
        go_wp2_with fail
        exact ⟨rfl, rfl⟩
      simp only [runsT, runsF, rep, left]
      go_wp2_with fail
      go_ret
      exact ⟨_, rfl, hp2, (((Ext.drew _).trans (Ext.drew _)).trans hE1).trans hE2⟩
    · by_cases q2 : cint k xk > 0
      · have e : T.drop cint k (.node xk xv l r) = T.joined xk xv l (T.drop cint k r) := by simp only [T.drop]; rw [if_neg q1, if_pos q2]
        rw [e]
        have hd : decide (cint k xk < 0) = false := decide_eq_false q1
        have hd2 : decide (0 < cint k xk) = true := decide_eq_true q2
        clear e
        go_enter Tryz.func132, Tryz.ntmps132
        go_wp2_with fail
        refine wp_region_segs 11 [([9, 2], false), ([1], false)] (by kernel_rfl) (by kernel_rfl) ?_
        apply segs_cons
        · intro W hW
          have c0 := (HB.out.ext hW.of_drew).c0
          have c1 := (HB.out.ext hW.of_drew).c1
          have c2 := (HB.out.ext hW.of_drew).c2
          have c3 := (HB.out.ext hW.of_drew).c3
          have c4 := (HB.out.ext hW.of_drew).c4
          have c5 := (HB.out.ext hW.of_drew).c5
          have t0 := (HT.out.ext hW.of_drew).c0
          have t1 := (HT.out.ext hW.of_drew).c1
          simp only [runsT, runsF, rep, pick]
          go_wp2_with fail
          exact ⟨rfl, rfl⟩
        simp only [runsT, runsF, rep, left]
        go_wp2_with fail
        refine (cmp_any _ _ _).mono ?_
        rintro e w' ⟨rfl, rfl⟩
        go_wp2_with fail
        refine ⟨fun _ => Ext.refl _, ?_⟩
        apply segs_cons
        · intro W hW
          simp only [runsT, runsF, rep, pick]
          go_wp2_with fail
          exact ⟨rfl, rfl⟩
        simp only [runsT, runsF, rep, left]
        go_wp2_with fail
        have IHR := IHR0.out
        refine wp_region_segs 21 [([18, 3], false), ([0, 2], false), ([1], false)] (by kernel_rfl) (by kernel_rfl) ?_
        apply segs_cons
        · intro W hW
          have c0 := (HB.out.ext ((Ext.drew _).trans hW.of_drew)).c0
          have c1 := (HB.out.ext ((Ext.drew _).trans hW.of_drew)).c1
          have c2 := (HB.out.ext ((Ext.drew _).trans hW.of_drew)).c2
          have c3 := (HB.out.ext ((Ext.drew _).trans hW.of_drew)).c3
          have c4 := (HB.out.ext ((Ext.drew _).trans hW.of_drew)).c4
          have c5 := (HB.out.ext ((Ext.drew _).trans hW.of_drew)).c5
          simp only [runsT, runsF, rep, pick]
          go_wp2_with fail
          exact ⟨rfl, rfl⟩
        simp only [runsT, runsF, rep, left]
        go_wp2_with fail
        refine (IHR pr _ tb root (H2.out.ext ((Ext.drew _).trans (Ext.drew _))) (HT.out.ext ((Ext.drew _).trans (Ext.drew _))) (by omega)).mono ?_
        rintro e w1 ⟨p1, rfl, hp1, hE1⟩
        go_wp2_with fail
        refine ⟨fun _ => hE1, ?_⟩
        apply segs_cons
        · intro W hW
          exact ⟨rfl, rfl⟩
        simp only [runsT, runsF, rep, left]
        go_wp2_with fail
        refine (joined_any _ _ _ _ _ _ _ (H1.out.ext (((Ext.drew _).trans (Ext.drew _)).trans hE1)) hp1 (by have := T.sz_drop_le cint k r; omega)).mono ?_
        rintro e w2 ⟨p2, rfl, hp2, hE2⟩
        go_wp2_with fail
        refine ⟨fun _ => hE2, ?_⟩
        apply segs_cons
        · intro W hW
          simp only [runsT, runsF, rep, pick]
          go_wp2_with fail
          exact ⟨rfl, rfl⟩
        simp only [runsT, runsF, rep, left]
        go_wp2_with fail
        go_ret
        exact ⟨_, rfl, hp2, (((Ext.drew _).trans (Ext.drew _)).trans hE1).trans hE2⟩
      · have e : T.drop cint k (.node xk xv l r) = T.both l r := by simp only [T.drop]; rw [if_neg q1, if_neg q2]
        rw [e]
        have hd : decide (cint k xk < 0) = false := decide_eq_false q1
        have hd2 : decide (0 < cint k xk) = false := decide_eq_false q2
        clear e
        go_enter Tryz.func132, Tryz.ntmps132
        go_wp2_with fail
        refine wp_region_segs 11 [([9, 2], false), ([1], false)] (by kernel_rfl) (by kernel_rfl) ?_
        apply segs_cons
        · intro W hW
          have c0 := (HB.out.ext hW.of_drew).c0
          have c1 := (HB.out.ext hW.of_drew).c1
          have c2 := (HB.out.ext hW.of_drew).c2
          have c3 := (HB.out.ext hW.of_drew).c3
          have c4 := (HB.out.ext hW.of_drew).c4
          have c5 := (HB.out.ext hW.of_drew).c5
          have t0 := (HT.out.ext hW.of_drew).c0
          have t1 := (HT.out.ext hW.of_drew).c1
          simp only [runsT, runsF, rep, pick]
          go_wp2_with fail
          exact ⟨rfl, rfl⟩
        simp only [runsT, runsF, rep, left]
        go_wp2_with fail
        refine (cmp_any _ _ _).mono ?_
        rintro e w' ⟨rfl, rfl⟩
        go_wp2_with fail
        refine ⟨fun _ => Ext.refl _, ?_⟩
        apply segs_cons
        · intro W hW
          simp only [runsT, runsF, rep, pick]
          go_wp2_with fail
          exact ⟨rfl, rfl⟩
        simp only [runsT, runsF, rep, left]
        go_wp2_with fail
        refine wp_region_segs 10 [([8, 2], false), ([1], false)] (by kernel_rfl) (by kernel_rfl) ?_
        apply segs_cons
        · intro W hW
          have c0 := (HB.out.ext ((Ext.drew _).trans hW.of_drew)).c0
          have c1 := (HB.out.ext ((Ext.drew _).trans hW.of_drew)).c1
          have c2 := (HB.out.ext ((Ext.drew _).trans hW.of_drew)).c2
          have c3 := (HB.out.ext ((Ext.drew _).trans hW.of_drew)).c3
          have c4 := (HB.out.ext ((Ext.drew _).trans hW.of_drew)).c4
          have c5 := (HB.out.ext ((Ext.drew _).trans hW.of_drew)).c5
          simp only [runsT, runsF, rep, pick]
          go_wp2_with fail
          exact ⟨rfl, rfl⟩
        simp only [runsT, runsF, rep, left]
        go_wp2_with fail
        refine (both_any _ _ _ _ _ (H1.out.ext ((Ext.drew _).trans (Ext.drew _))) (H2.out.ext ((Ext.drew _).trans (Ext.drew _))) (by omega)).mono ?_
        rintro e w1 ⟨p1, rfl, hp1, hE1⟩
        go_wp2_with fail
        refine ⟨fun _ => hE1, ?_⟩
        apply segs_cons
        · intro W hW
          simp only [runsT, runsF, rep, pick]
          go_wp2_with fail
          exact ⟨rfl, rfl⟩
        simp only [runsT, runsF, rep, left]
        go_wp2_with fail
        go_ret
        exact ⟨_, rfl, hp1, ((Ext.drew _).trans (Ext.drew _)).trans hE1⟩
set_option maxRecDepth 100000 in
theorem Drop_any (k : Int) (t : T Int Int) (p : Option Addr) (w : World) (h : isTree w p t) (hs : t.sz < 800000000) :
    Calls Tryz.prog 102 #[.pointer p, .int .u64 k] w fun e w' => ∃ q, e = .returned (.pointer q) ∧ isTree w' q (T.drop cint k t) ∧ Ext w w' := by
  obtain ⟨tb, root, rfl, hT, hR⟩ := h
  have hA : Ext w w := Ext.refl _
  have HT := Lib.hid (hT.ext hA)
  have H1 := Lib.hid (hR.ext hA)
  clear hT hR
  go_enter Tryz.func102, Tryz.ntmps102
  go_wp2_with fail
  refine wp_region_segs 14 [([10, 4], false), ([1, 2], false), ([1], false)] (by kernel_rfl) (by kernel_rfl) ?_
  apply segs_cons
  · intro W hW
    have t0 := (HT.out.ext hW.of_drew).c0
    have t1 := (HT.out.ext hW.of_drew).c1
    simp only [runsT, runsF, rep, pick]
    go_wp2_with fail
    exact ⟨rfl, rfl⟩
  simp only [runsT, runsF, rep, left]
  go_wp2_with fail
  refine (drop_any _ _ _ _ tb root (H1.out.ext (Ext.drew _)) (HT.out.ext (Ext.drew _)) hs).mono ?_
  rintro e w1 ⟨p1, rfl, hp1, hE1⟩
  go_wp2_with fail
  refine ⟨fun _ => hE1, ?_⟩
  apply segs_cons
  · intro W hW
    simp only [runsT, runsF, rep, pick]
    go_wp2_with fail
    exact ⟨rfl, rfl⟩
  simp only [runsT, runsF, rep, left]
  go_wp2_with fail
  refine ⟨fun _ => (Below.refl _ _).alloc (Nat.le_refl _) _, ?_⟩
  apply segs_cons
  · intro W hW
    simp only [runsT, runsF, rep, pick]
    go_wp2_with fail
    exact ⟨rfl, rfl⟩
  simp only [runsT, runsF, rep, left]
  go_wp2_with fail
  go_ret
  have hB : Ext w1 (w1.alloc (Obj.cells #[.func (.func 94) #[] #[], .pointer p1] 172)) := (Below.refl _ _).alloc (Nat.le_refl _) _
  exact ⟨_, rfl, ⟨_, p1, rfl, Blk.new _ _ _, hp1.ext hB⟩, hA.trans (((Ext.drew _).trans hE1).trans hB)⟩
/-- What a search tells. -/
def Found (w : World) (r : Option (T Int Int) × Int) (e : Ending) (w' : World) : Prop :=
  ∃ q, e = .returned (.tuple #[.pointer q, .int .i64 r.2]) ∧ (match r.1 with | none => q = none | some s => isT w' q s ∧ ∃ k v l r, s = .node k v l r) ∧ Ext w w'
set_option maxRecDepth 100000 in
set_option maxHeartbeats 800000 in
theorem find_any (k : Int) (t : T Int Int) (p : Option Addr) (w : World) (h : isTree w p t) (hs : t.sz < 1000000000) :
    Calls Tryz.prog 155 #[.pointer p, .int .u64 k] w (Found w (T.find cint k t)) := by
  obtain ⟨tb, root, rfl, hT, hR⟩ := h
  have HT0 := Lib.hid hT
  have H0 := Lib.hid hR
  have t1 := hT.c1
  have g0 := t.sz_nn
  clear hT hR
  go_enter Tryz.func155, Tryz.ntmps155
  go_wp2_with fail
  clear t1
  go_loopg [6, 7] t.sz.toNat (fun g ah x wr => ∃ (s : T Int Int) (q : Option Addr) (acc : Int), x = .pointer q ∧ ah = .int .i64 acc ∧ isT wr q s ∧ Ext w wr ∧ (T.find cint k t).1 = (T.find cint k s).1 ∧ (T.find cint k t).2 = acc + (T.find cint k s).2 ∧ 0 ≤ acc ∧ acc + s.sz ≤ t.sz ∧ s.sz.toNat ≤ g)
  case atStart => exact ⟨t, root, 0, rfl, rfl, H0.out, Ext.refl _, rfl, by omega, by omega, by omega, Nat.le_refl _⟩
  case round =>
    obtain ⟨s, q, acc, rfl, rfl, hq, hE, e1, e2, hacc, hsum, hg⟩ := hrel
    have He1 := Lib.hid e1
    have He2 := Lib.hid e2
    have HE := Lib.hid hE
    have HT := Lib.hid (HT0.out.ext hE)
    clear e1 e2 hE
    cases s with
    | nil =>
      obtain rfl := hq
      simp only [T.sz] at hsum hg
      go_wp2_with fail
      go_ret2
      refine ⟨none, ?_, ?_, HE.out⟩
      · rw [He2.out]; simp [T.find]
      · rw [He1.out]; simp [T.find]
    | node xk xv l r =>
      obtain ⟨b, pl, pr, rfl, hb, hl, hr⟩ := isT_node hq
      simp only [T.sz] at hsum hg
      have g1 := l.sz_nn
      have g2 := r.sz_nn
      have HB := Lib.hid hb
      have H1 := Lib.hid hl
      have H2 := Lib.hid hr
      have HQ := Lib.hid hq
      clear hb hl hr hq
      by_cases q1 : cint k xk = 0
      · have e : T.find cint k (.node xk xv l r) = (some (.node xk xv l r), l.sz) := by simp only [T.find]; rw [if_pos q1]
        have He := Lib.hid e
        have hd : (cint k xk == 0) = true := beq_iff_eq.2 q1
        have Hq1 := Lib.hid q1
        clear e q1
        go_wp2_with fail
        have cL := HB.out.c2
        refine wp_region_segs 11 [([9, 2], false), ([1], false)] (by kernel_rfl) (by kernel_rfl) ?_
        apply segs_cons
        · intro W hW
          have c0 := (HB.out.ext hW.of_drew).c0
          have c1 := (HB.out.ext hW.of_drew).c1
          have c2 := (HB.out.ext hW.of_drew).c2
          have c3 := (HB.out.ext hW.of_drew).c3
          have c4 := (HB.out.ext hW.of_drew).c4
          have c5 := (HB.out.ext hW.of_drew).c5
          have t0 := (HT.out.ext hW.of_drew).c0
          simp only [runsT, runsF, rep, pick]
          go_wp2_with fail
          exact ⟨rfl, rfl⟩
        simp only [runsT, runsF, rep, left]
        go_wp2_with fail
        refine (cmp_any _ _ _).mono ?_
        rintro e w' ⟨rfl, rfl⟩
        go_wp2_with fail
        refine ⟨fun _ => Ext.refl _, ?_⟩
        apply segs_cons
        · intro W hW
          simp only [runsT, runsF, rep, pick]
          go_wp2_with fail
          exact ⟨rfl, rfl⟩
        simp only [runsT, runsF, rep, left]
        go_wp2_with fail
        refine (size_any _ _ _ (H1.out.ext ((Ext.drew _)))).mono ?_
        rintro e w' ⟨rfl, rfl⟩
        go_wp2_with fail
        go_ret2
        refine ⟨some ⟨b, 0, none⟩, ?_, ?_, HE.out.trans (Ext.drew _)⟩
        · rw [He2.out, He.out]; rfl
        · rw [He1.out, He.out]; exact ⟨HQ.out.ext (Ext.drew _), _, _, _, _, rfl⟩
      · by_cases q2 : cint k xk < 0
        · have e : T.find cint k (.node xk xv l r) = T.find cint k l := by simp only [T.find]; rw [if_neg q1, if_pos q2]
          have He := Lib.hid e
          have hd : (cint k xk == 0) = false := beq_eq_false_iff_ne.2 q1
          have hd2 : decide (cint k xk < 0) = true := decide_eq_true q2
          clear e q1
          go_wp2_with fail
          have cL := HB.out.c2
          refine wp_region_segs 11 [([9, 2], false), ([1], false)] (by kernel_rfl) (by kernel_rfl) ?_
          apply segs_cons
          · intro W hW
            have c0 := (HB.out.ext hW.of_drew).c0
            have c1 := (HB.out.ext hW.of_drew).c1
            have c2 := (HB.out.ext hW.of_drew).c2
            have c3 := (HB.out.ext hW.of_drew).c3
            have c4 := (HB.out.ext hW.of_drew).c4
            have c5 := (HB.out.ext hW.of_drew).c5
            have t0 := (HT.out.ext hW.of_drew).c0
            simp only [runsT, runsF, rep, pick]
            go_wp2_with fail
            exact ⟨rfl, rfl⟩
          simp only [runsT, runsF, rep, left]
          go_wp2_with fail
          refine (cmp_any _ _ _).mono ?_
          rintro e w' ⟨rfl, rfl⟩
          go_wp2_with fail
          refine ⟨fun _ => Ext.refl _, ?_⟩
          apply segs_cons
          · intro W hW
            simp only [runsT, runsF, rep, pick]
            go_wp2_with fail
            exact ⟨rfl, rfl⟩
          simp only [runsT, runsF, rep, left]
          go_wp2_with fail
          go_roundg l.sz.toNat
          case measure => omega
          case rel => exact ⟨l, pl, acc, rfl, rfl, H1.out.ext (Ext.drew _), HE.out.trans (Ext.drew _), by rw [He1.out, He.out], by rw [He2.out, He.out], hacc, by omega, Nat.le_refl _⟩
        · have e : T.find cint k (.node xk xv l r) = ((T.find cint k r).1, l.sz + 1 + (T.find cint k r).2) := by simp only [T.find]; rw [if_neg q1, if_neg q2]
          have He := Lib.hid e
          have hd : (cint k xk == 0) = false := beq_eq_false_iff_ne.2 q1
          have hd2 : decide (cint k xk < 0) = false := decide_eq_false q2
          clear e q1 q2
          go_wp2_with fail
          refine wp_region_segs 11 [([9, 2], false), ([1], false)] (by kernel_rfl) (by kernel_rfl) ?_
          apply segs_cons
          · intro W hW
            have c0 := (HB.out.ext hW.of_drew).c0
            have c1 := (HB.out.ext hW.of_drew).c1
            have c2 := (HB.out.ext hW.of_drew).c2
            have c3 := (HB.out.ext hW.of_drew).c3
            have c4 := (HB.out.ext hW.of_drew).c4
            have c5 := (HB.out.ext hW.of_drew).c5
            have t0 := (HT.out.ext hW.of_drew).c0
            simp only [runsT, runsF, rep, pick]
            go_wp2_with fail
            exact ⟨rfl, rfl⟩
          simp only [runsT, runsF, rep, left]
          go_wp2_with fail
          refine (cmp_any _ _ _).mono ?_
          rintro e w' ⟨rfl, rfl⟩
          go_wp2_with fail
          refine ⟨fun _ => Ext.refl _, ?_⟩
          apply segs_cons
          · intro W hW
            simp only [runsT, runsF, rep, pick]
            go_wp2_with fail
            exact ⟨rfl, rfl⟩
          simp only [runsT, runsF, rep, left]
          go_wp2_with fail
          refine wp_region_segs 14 [([5, 3, 4, 2], false), ([4], false)] (by kernel_rfl) (by kernel_rfl) ?_
          apply segs_cons
          · intro W hW
            have c0 := (HB.out.ext ((Ext.drew _).trans hW.of_drew)).c0
            have c1 := (HB.out.ext ((Ext.drew _).trans hW.of_drew)).c1
            have c2 := (HB.out.ext ((Ext.drew _).trans hW.of_drew)).c2
            have c3 := (HB.out.ext ((Ext.drew _).trans hW.of_drew)).c3
            have c4 := (HB.out.ext ((Ext.drew _).trans hW.of_drew)).c4
            have c5 := (HB.out.ext ((Ext.drew _).trans hW.of_drew)).c5
            simp only [runsT, runsF, rep, pick]
            go_wp2_with fail
            exact ⟨rfl, rfl⟩
          simp only [runsT, runsF, rep, left]
          go_wp2_with fail
          refine (size_any _ _ _ (H1.out.ext ((Ext.drew _).trans (Ext.drew _)))).mono ?_
          rintro e w' ⟨rfl, rfl⟩
          go_wp2_with fail
          refine ⟨fun _ => Ext.refl _, ?_⟩
          apply segs_cons
          · intro W hW
            simp only [runsT, runsF, rep, pick]
            go_wp2_with fail
            exact ⟨rfl, rfl⟩
          simp only [runsT, runsF, rep, left]
          go_wp2_with fail
          go_roundg r.sz.toNat
          case measure => omega
          case rel => exact ⟨r, pr, acc + l.sz + 1, rfl, by go_num, H2.out.ext ((Ext.drew _).trans (Ext.drew _)), HE.out.trans ((Ext.drew _).trans (Ext.drew _)), by rw [He1.out, He.out], by rw [He2.out, He.out]; omega, by omega, by omega, Nat.le_refl _⟩
theorem Len_any (t : T Int Int) (p : Option Addr) (w : World) (h : isTree w p t) : Calls Tryz.prog 103 #[.pointer p] w fun e w' => e = .returned (.int .i64 t.sz) ∧ w = w' := by
  obtain ⟨tb, root, rfl, hT, hR⟩ := h
  have t1 := hT.c1
  have H1 := Lib.hid hR
  clear hT hR
  go_enter Tryz.func103, Tryz.ntmps103
  go_wp2_with fail
  refine (size_any _ _ _ H1.out).mono ?_
  rintro e w' ⟨rfl, rfl⟩
  go_wp2_with fail
  go_ret
  exact ⟨rfl, rfl⟩
theorem Len_nil (w : World) : Calls Tryz.prog 103 #[.pointer none] w fun e w' => e = .returned (.int .i64 0) ∧ w = w' := by
  go_enter Tryz.func103, Tryz.ntmps103
  go_wp2_with fail
  go_ret
  exact ⟨rfl, rfl⟩
theorem New_any (w : World) : Calls Tryz.prog 108 #[.func (.func 94) #[] #[]] w fun e w' => ∃ q, e = .returned (.pointer q) ∧ isTree w' q (T.nil : T Int Int) ∧ Ext w w' := by
  have he := fun (w : World) => run_eq_func_nil (P := Tryz.prog) Tryz.underlying138 (.func 94) #[] #[] w
  go_enter Tryz.func108, Tryz.ntmps108
  go_wp2_with fail
  go_ret
  have hA : Ext w (w.alloc (Obj.cells #[.func (.func 94) #[] #[], .pointer none] 172)) := (Below.refl _ _).alloc (Nat.le_refl _) _
  exact ⟨_, rfl, ⟨_, none, rfl, Blk.new _ _ _, rfl⟩, hA⟩
/-- What a look for a key tells: its thing, or the zero one. -/
def Got (w : World) (r : Option (Int)) (e : Ending) (w' : World) : Prop :=
  (match r with | some v => e = .returned (.tuple #[.int .i64 v, .bool true]) | none => e = .returned (.tuple #[.int .i64 0, .bool false])) ∧ Ext w w'
theorem get_find (k : Int) : ∀ t : T Int Int, T.get cint k t = match (T.find cint k t).1 with | some (.node _ v _ _) => some v | _ => none
  | .nil => rfl
  | .node xk xv l r => by
    simp only [T.get, T.find]
    split
    · rfl
    · split
      · exact get_find k l
      · exact get_find k r
theorem Get_any (k : Int) (t : T Int Int) (p : Option Addr) (w : World) (h : isTree w p t) (hs : t.sz < 1000000000) :
    Calls Tryz.prog 131 #[.pointer p, .int .u64 k] w (Got w (T.get cint k t)) := by
  skip
  have HP := Lib.hid h
  clear h
  go_enter Tryz.func131, Tryz.ntmps131
  go_wp2_with fail
  refine (find_any k t p _ HP.out hs).mono ?_
  rintro e w1 ⟨q, rfl, hq, hE⟩
  skip
  have hg := get_find k t
  cases hf : (T.find cint k t).1 with
  | none =>
    rw [hf] at hq hg
    obtain rfl := hq
    have HG := Lib.hid hg
    clear hg hf
    go_wp2_with fail
    go_ret2
    unfold Got
    rw [HG.out]
    exact ⟨rfl, hE⟩
  | some s =>
    rw [hf] at hq hg
    obtain ⟨hq, xk, xv, l, r, rfl⟩ := hq
    obtain ⟨b, pl, pr, rfl, hb, _, _⟩ := isT_node hq
    have HG := Lib.hid hg
    have c1 := hb.c1
    clear hg hf hq hb
    go_wp2_with fail
    go_ret2
    unfold Got
    rw [HG.out]
    exact ⟨rfl, hE⟩
end Go.Proofs.YtdfbfcglacalmaaGreat.TrUI
end
