/-
  ShardPlays: each step's function, by what it does to the two trees and the two rows, whatever was there.
  Fewer than 1,000 of each; no other condition.
-/
import Derived.Test.YtnpfikabcmngpaaShP
namespace Go.Proofs.Ytnpfikabcmngpaa.ShP
open Go.RowKit Go.Seg Go.Open Go.Lib Rk Go.Row ShR

/-- The document's rows lie there, at or behind block B. -/
structure XAt (w : World) (B : Nat) (uL uW : Value) (L : List (Int × En)) (Wy : List (Int × Int × Int)) : Prop where
  l : RowL w B uL L
  y : RowW w B uW Wy
  b : B ≤ w.heap.size
theorem XAt.ext {w w' : World} {B : Nat} {uL uW : Value} {L : List (Int × En)} {Wy : List (Int × Int × Int)} (h : XAt w B uL uW L Wy) (e : Ext w w') : XAt w' B uL uW L Wy := ⟨h.l.ext e, h.y.ext e, Nat.le_trans h.b e.size⟩
theorem XAt.one {w w' : World} {B k : Nat} {uL uW : Value} {L : List (Int × En)} {Wy : List (Int × Int × Int)} {cs : Array Value} {E : TypeId} (h : XAt w B uL uW L Wy) (hc : Chg (· = k) w w') (hk : Blk w k cs E) (h1 : E ≠ RSE.e) (h2 : E ≠ RSW.e) : XAt w' B uL uW L Wy :=
  ⟨h.l.chg hc (.one hk h1), h.y.chg hc (.one hk h2), Nat.le_trans h.b hc.size⟩
theorem XAt.shard {w w' : World} {B b : Nat} {uL uW : Value} {L : List (Int × En)} {Wy : List (Int × Int × Int)} {te : T Int En} {tw : T Int (Int × Int)} (h : XAt w B uL uW L Wy) (hS : ShI.ShardAt w b te tw) (hc : Chg (· = b) w w') : XAt w' B uL uW L Wy := by
  obtain ⟨cs, hb⟩ := hS.blk
  exact h.one hc hb (by decide) (by decide)

/-- Is an entry renewed? -/
def renB (te : T Int En) (x : Int × En) : Bool := match T.get cint x.1 te with
  | some u => decide (u.1 = x.2.1) && decide (u.2.2.2.1 = x.2.2.2.2.1)
  | none => false
def renT (te : T Int En) (x : Int × En) : T Int En := if renB te x then T.put cint x.1 x.2 te else te
/-- What is cut. -/
def cutO (te : T Int En) (h c : Int) : Option En := match T.get cint h te with
  | some v => if v.1 = c then some v else none
  | none => none
theorem cutO_find {te : T Int En} (hu : Up cint te.toL) (h c : Int) : findR te.toL h c = cutO te h c := by
  unfold findR cutO
  rw [assoc_get hu]
  cases T.get cint h te <;> rfl
variable {k : Int} {te : T Int En} {tw : T Int (Int × Int)} {Wy : List (Int × Int × Int)}
theorem Inv.ren (I : Inv k te tw Wy) (x : Int × En) : Inv (k + 1) (renT te x) tw Wy := by
  unfold renT
  split
  · exact I.put _ _
  · exact I.mono (by omega)
theorem Inv.len (I : Inv k te tw Wy) (hk : k ≤ 1000) : te.toL.length ≤ 1000 := by have := T.sz_toL te; have := I.se; omega
theorem Inv.wlen (I : Inv k te tw Wy) (hk : k ≤ 1000) : Wy.length ≤ 1000 := by have := I.wl; omega

theorem uRenewD (uL uW : Value) (B : Nat) (x : Int × En) (w : World) (hX : XAt w B uL uW te.toL Wy) (I : Inv k te tw Wy) (hk : k ≤ 1000) :
    Calls Try.prog 48 #[.agg #[uL, uW], valS x] w fun e w' => ∃ uL', e = .returned (.tuple #[.agg #[uL', uW], .bool (renB te x)]) ∧ XAt w' B uL' uW (renT te x).toL Wy ∧ Ext w w' := by
  have hl := I.len hk
  have hf := cutO_find I.upe x.1 x.2.1
  unfold renT renB
  cases hg : T.get cint x.1 te with
  | none =>
    refine (rRenew_none uL uW B te.toL Wy x w hX.l hX.y (by omega) (by rw [hf]; unfold cutO; rw [hg])).mono ?_
    rintro e w' ⟨rfl, hE⟩
    exact ⟨_, rfl, hX.ext hE, hE⟩
  | some u =>
    dsimp only
    by_cases c : u.1 = x.2.1
    · by_cases d : u.2.2.2.1 = x.2.2.2.2.1
      · refine (rRenew_yes uL uW B te.toL Wy x w hX.l hX.y (by omega) u (by rw [hf]; unfold cutO; rw [hg]; exact if_pos c) d).mono ?_
        rintro e w' ⟨uL', rfl, hR, hE⟩
        simp only [c, d, decide_true, Bool.and_self, if_true]
        refine ⟨_, rfl, ⟨?_, hX.y.ext hE, Nat.le_trans hX.b hE.size⟩, hE⟩
        rw [put_toL I.upe]
        exact hR.base hX.b
      · refine (rRenew_old uL uW B te.toL Wy x w hX.l hX.y (by omega) u (by rw [hf]; unfold cutO; rw [hg]; exact if_pos c) d).mono ?_
        rintro e w' ⟨rfl, hE⟩
        simp only [d, decide_false, Bool.and_false]
        exact ⟨_, rfl, hX.ext hE, hE⟩
    · refine (rRenew_none uL uW B te.toL Wy x w hX.l hX.y (by omega) (by rw [hf]; unfold cutO; rw [hg]; exact if_neg c)).mono ?_
      rintro e w' ⟨rfl, hE⟩
      simp only [c, decide_false, Bool.false_and]
      exact ⟨_, rfl, hX.ext hE, hE⟩
theorem uRenewP (b : Nat) (x : Int × En) (w : World) (hS : ShI.ShardAt w b te tw) (I : Inv k te tw Wy) (hk : k ≤ 1000) :
    Calls Try.prog 49 #[.pointer (some ⟨b, 0, none⟩), .int .u64 x.1, .agg #[.int .u64 x.2.1, .int .i64 x.2.2.1, .int .i64 x.2.2.2.1, .int .i64 x.2.2.2.2.1, .int .i64 x.2.2.2.2.2.1, .int .i64 x.2.2.2.2.2.2]] w fun e w' => e = .returned (.bool (renB te x)) ∧ ShI.ShardAt w' b (renT te x) tw ∧ Chg (· = b) w w' := by
  have hs : te.sz < 1000000 := by have := I.se; omega
  unfold renT renB
  cases hg : T.get cint x.1 te with
  | none =>
    refine (ShI.Renew_none b te tw x.1 x.2 w hS hs hg).mono ?_
    rintro e w' ⟨rfl, hE⟩
    exact ⟨by first | rfl | trivial, hS.ext hE, Chg.of_below hE⟩
  | some u =>
    dsimp only
    by_cases c : u.1 = x.2.1
    · by_cases d : u.2.2.2.1 = x.2.2.2.2.1
      · refine (ShI.Renew_yes b te tw x.1 x.2 u w hS hs hg c d).mono ?_
        rintro e w' ⟨rfl, hS', hC⟩
        simp only [c, d, decide_true, Bool.and_self, if_true]
        exact ⟨by first | rfl | trivial, hS', hC⟩
      · refine (ShI.Renew_old b te tw x.1 x.2 u w hS hs hg c d).mono ?_
        rintro e w' ⟨rfl, hE⟩
        simp only [d, decide_false, Bool.and_false]
        exact ⟨by first | rfl | trivial, hS.ext hE, Chg.of_below hE⟩
    · refine (ShI.Renew_other b te tw x.1 x.2 u w hS hs hg c).mono ?_
      rintro e w' ⟨rfl, hE⟩
      simp only [c, decide_false, Bool.false_and]
      exact ⟨by first | rfl | trivial, hS.ext hE, Chg.of_below hE⟩
theorem uPutD (uL uW : Value) (B : Nat) (x : Int × En) (w : World) (hX : XAt w B uL uW te.toL Wy) (I : Inv k te tw Wy) (hk : k ≤ 1000) :
    Calls Try.prog 47 #[.agg #[uL, uW], valS x] w fun e w' => ∃ uL', e = .returned (.agg #[uL', uW]) ∧ XAt w' B uL' uW (T.put cint x.1 x.2 te).toL Wy ∧ Ext w w' := by
  have hl := I.len hk
  refine (rPut uL uW B te.toL Wy x w hX.l hX.y (by omega)).mono ?_
  rintro e w' ⟨uL', rfl, hR, hE⟩
  refine ⟨_, rfl, ⟨?_, hX.y.ext hE, Nat.le_trans hX.b hE.size⟩, hE⟩
  rw [put_toL I.upe]
  exact hR.base hX.b
theorem uRemoveD (uL uW : Value) (B : Nat) (h : Int) (w : World) (hX : XAt w B uL uW te.toL Wy) (I : Inv k te tw Wy) (hk : k ≤ 1000) :
    Calls Try.prog 51 #[.agg #[uL, uW], .int .u64 h] w fun e w' => ∃ uL', e = .returned (.agg #[uL', uW]) ∧ XAt w' B uL' uW (T.drop cint h te).toL Wy ∧ Ext w w' := by
  have hl := I.len hk
  refine (rRemove uL uW B te.toL Wy h w hX.l hX.y (by omega)).mono ?_
  rintro e w' ⟨uL', rfl, hR, hE⟩
  refine ⟨_, rfl, ⟨?_, hX.y.ext hE, Nat.le_trans hX.b hE.size⟩, hE⟩
  rw [drop_toL I.upe]
  exact hR.base hX.b
theorem uCut_no (b : Nat) (h c : Int) (w : World) (hS : ShI.ShardAt w b te tw) (I : Inv k te tw Wy) (hk : k ≤ 1000) (hg : cutO te h c = none) :
    Calls Try.prog 50 #[.pointer (some ⟨b, 0, none⟩), .agg #[.int .u64 h, .int .u64 c]] w fun e w' => e = .returned (.tuple #[.agg #[.int .u64 0, .int .i64 0, .int .i64 0, .int .i64 0, .int .i64 0, .int .i64 0], .bool false]) ∧ Ext w w' := by
  have hs : te.sz < 1000000 := by have := I.se; omega
  unfold cutO at hg
  cases hg' : T.get cint h te with
  | none => exact ShI.Cut_none b te tw h c w hS hs hg'
  | some v =>
    rw [hg'] at hg
    exact ShI.Cut_other b te tw h c v w hS hs hg' (fun e => by dsimp only at hg; rw [if_pos e] at hg; cases hg)
theorem uCut_yes (b : Nat) (h c : Int) (v : En) (w : World) (hS : ShI.ShardAt w b te tw) (I : Inv k te tw Wy) (hk : k ≤ 1000) (hg : cutO te h c = some v) :
    Calls Try.prog 50 #[.pointer (some ⟨b, 0, none⟩), .agg #[.int .u64 h, .int .u64 c]] w fun e w' => e = .returned (.tuple #[.agg #[.int .u64 v.1, .int .i64 v.2.1, .int .i64 v.2.2.1, .int .i64 v.2.2.2.1, .int .i64 v.2.2.2.2.1, .int .i64 v.2.2.2.2.2], .bool true]) ∧ ShI.ShardAt w' b (T.drop cint h te) tw ∧ Chg (· = b) w w' := by
  have hs : te.sz < 1000000 := by have := I.se; omega
  unfold cutO at hg
  cases hg' : T.get cint h te with
  | none => rw [hg'] at hg; cases hg
  | some u =>
    rw [hg'] at hg
    dsimp only at hg
    by_cases e : u.1 = c
    · rw [if_pos e] at hg
      cases hg
      exact ShI.Cut_some b te tw h c v w hS hs hg' e
    · rw [if_neg e] at hg; cases hg
theorem uFind_no (b : Nat) (h c : Int) (w : World) (hS : ShI.ShardAt w b te tw) (I : Inv k te tw Wy) (hk : k ≤ 1000) (hg : cutO te h c = none) :
    Calls Try.prog 12 #[.pointer (some ⟨b, 0, none⟩), .agg #[.int .u64 h, .int .u64 c]] w fun e w' => e = .returned (.tuple #[.agg #[.int .u64 0, .int .i64 0, .int .i64 0, .int .i64 0, .int .i64 0, .int .i64 0], .bool false]) ∧ Ext w w' := by
  have hs : te.sz < 1000000 := by have := I.se; omega
  unfold cutO at hg
  cases hg' : T.get cint h te with
  | none => exact ShI.Find_none b te tw h c w hS hs hg'
  | some v =>
    rw [hg'] at hg
    exact ShI.Find_other b te tw h c v w hS hs hg' (fun e => by dsimp only at hg; rw [if_pos e] at hg; cases hg)
theorem uFind_yes (b : Nat) (h c : Int) (v : En) (w : World) (hS : ShI.ShardAt w b te tw) (I : Inv k te tw Wy) (hk : k ≤ 1000) (hg : cutO te h c = some v) :
    Calls Try.prog 12 #[.pointer (some ⟨b, 0, none⟩), .agg #[.int .u64 h, .int .u64 c]] w fun e w' => e = .returned (.tuple #[.agg #[.int .u64 v.1, .int .i64 v.2.1, .int .i64 v.2.2.1, .int .i64 v.2.2.2.1, .int .i64 v.2.2.2.2.1, .int .i64 v.2.2.2.2.2], .bool true]) ∧ Ext w w' := by
  have hs : te.sz < 1000000 := by have := I.se; omega
  unfold cutO at hg
  cases hg' : T.get cint h te with
  | none => rw [hg'] at hg; cases hg
  | some u =>
    rw [hg'] at hg
    dsimp only at hg
    by_cases e : u.1 = c
    · rw [if_pos e] at hg
      cases hg
      exact ShI.Find_some b te tw h c v w hS hs hg' e
    · rw [if_neg e] at hg; cases hg
theorem rFind_no (uL uW : Value) (B : Nat) (h c : Int) (w : World) (hX : XAt w B uL uW te.toL Wy) (I : Inv k te tw Wy) (hk : k ≤ 1000) (hg : cutO te h c = none) :
    Calls Try.prog 13 #[.agg #[uL, uW], .agg #[.int .u64 h, .int .u64 c]] w fun e w' => e = .returned (.tuple #[.agg #[.int .u64 0, .int .u64 0, .int .i64 0, .int .i64 0, .int .i64 0, .int .i64 0, .int .i64 0], .bool false]) ∧ Ext w w' := by
  have hl := I.len hk
  have := rFind uL uW B te.toL Wy h c w hX.l hX.y (by omega)
  rw [cutO_find I.upe, hg] at this
  exact this
theorem rFind_yes (uL uW : Value) (B : Nat) (h c : Int) (v : En) (w : World) (hX : XAt w B uL uW te.toL Wy) (I : Inv k te tw Wy) (hk : k ≤ 1000) (hg : cutO te h c = some v) :
    Calls Try.prog 13 #[.agg #[uL, uW], .agg #[.int .u64 h, .int .u64 c]] w fun e w' => e = .returned (.tuple #[.agg #[.int .u64 (h, v).1, .int .u64 (h, v).2.1, .int .i64 (h, v).2.2.1, .int .i64 (h, v).2.2.2.1, .int .i64 (h, v).2.2.2.2.1, .int .i64 (h, v).2.2.2.2.2.1, .int .i64 (h, v).2.2.2.2.2.2], .bool true]) ∧ Ext w w' := by
  have hl := I.len hk
  have := rFind uL uW B te.toL Wy h c w hX.l hX.y (by omega)
  rw [cutO_find I.upe, hg] at this
  exact this
theorem rLook_no (uL uW : Value) (B : Nat) (h : Int) (w : World) (hX : XAt w B uL uW te.toL Wy) (I : Inv k te tw Wy) (hk : k ≤ 1000) (hg : T.get cint h te = none) :
    Calls Try.prog 11 #[.agg #[uL, uW], .int .u64 h] w fun e w' => e = .returned (.tuple #[.agg #[.int .u64 0, .int .u64 0, .int .i64 0, .int .i64 0, .int .i64 0, .int .i64 0, .int .i64 0], .bool false]) ∧ Ext w w' := by
  have hl := I.len hk
  have := rLook uL uW B te.toL Wy h w hX.l hX.y (by omega)
  rw [assoc_get I.upe, hg] at this
  exact this
theorem rLook_yes (uL uW : Value) (B : Nat) (h : Int) (v : En) (w : World) (hX : XAt w B uL uW te.toL Wy) (I : Inv k te tw Wy) (hk : k ≤ 1000) (hg : T.get cint h te = some v) :
    Calls Try.prog 11 #[.agg #[uL, uW], .int .u64 h] w fun e w' => e = .returned (.tuple #[.agg #[.int .u64 (h, v).1, .int .u64 (h, v).2.1, .int .i64 (h, v).2.2.1, .int .i64 (h, v).2.2.2.1, .int .i64 (h, v).2.2.2.2.1, .int .i64 (h, v).2.2.2.2.2.1, .int .i64 (h, v).2.2.2.2.2.2], .bool true]) ∧ Ext w w' := by
  have hl := I.len hk
  have := rLook uL uW B te.toL Wy h w hX.l hX.y (by omega)
  rw [assoc_get I.upe, hg] at this
  exact this
theorem uWaitD (uL uW : Value) (B : Nat) (h t : Int) (w : World) (hX : XAt w B uL uW te.toL Wy) (I : Inv k te tw Wy) (hk : k ≤ 1000) :
    Calls Try.prog 53 #[.agg #[uL, uW], .int .u64 h, .int .i64 t] w fun e w' => ∃ uW', e = .returned (.agg #[uL, uW']) ∧ XAt w' B uL uW' te.toL (setR Wy (h, (ShI.wayOf tw h).1 + 1, t)) ∧ Ext w w' := by
  have hl := I.wlen hk
  have hm := I.many h
  refine (rWait uL uW B te.toL Wy h t (ShI.wayOf tw h).1 w hX.l hX.y (by omega) (by rw [I.ways]) hm.1 (by omega)).mono ?_
  rintro e w' ⟨uW', rfl, hR, hE⟩
  exact ⟨_, rfl, ⟨hX.l.ext hE, hR.base hX.b, Nat.le_trans hX.b hE.size⟩, hE⟩
theorem uWaitP (b : Nat) (h t : Int) (w : World) (hS : ShI.ShardAt w b te tw) (I : Inv k te tw Wy) (hk : k ≤ 1000) :
    Calls Try.prog 40 #[.pointer (some ⟨b, 0, none⟩), .int .u64 h, .int .i64 t] w fun e w' => e = .returned (.tuple #[]) ∧ ShI.ShardAt w' b te (T.put cint h ((ShI.wayOf tw h).1 + 1, t) tw) ∧ Chg (· = b) w w' := by
  have hs : tw.sz < 1000000 := by have := I.sw; omega
  have hm := I.many h
  exact ShI.Wait_any b te tw h t (ShI.wayOf tw h).1 w hS hs rfl hm.1 (by omega)
theorem Inv.wait (I : Inv k te tw Wy) (h t : Int) : Inv (k + 1) te (T.put cint h ((ShI.wayOf tw h).1 + 1, t) tw) (setR Wy (h, (ShI.wayOf tw h).1 + 1, t)) := by
  have hm := I.many h
  exact I.setW h _ t (by omega) (by omega)
def bumB (tw : T Int (Int × Int)) (h : Int) : Bool := decide ((ShI.wayOf tw h).1 ≠ 0)
def bumT (tw : T Int (Int × Int)) (h t : Int) : T Int (Int × Int) := if bumB tw h then T.put cint h ((ShI.wayOf tw h).1, t) tw else tw
def bumR (tw : T Int (Int × Int)) (Wy : List (Int × Int × Int)) (h t : Int) : List (Int × Int × Int) := if bumB tw h then setR Wy (h, (ShI.wayOf tw h).1, t) else Wy
theorem Inv.bump (I : Inv k te tw Wy) (h t : Int) : Inv (k + 1) te (bumT tw h t) (bumR tw Wy h t) := by
  unfold bumT bumR
  have hm := I.many h
  by_cases c : bumB tw h = true
  · rw [if_pos c, if_pos c]
    unfold bumB at c
    have c := of_decide_eq_true c
    exact I.setW h _ t (by omega) (by omega)
  · rw [if_neg c, if_neg c]
    exact I.mono (by omega)
theorem uBumpD (uL uW : Value) (B : Nat) (h t : Int) (w : World) (hX : XAt w B uL uW te.toL Wy) (I : Inv k te tw Wy) (hk : k ≤ 1000) :
    Calls Try.prog 54 #[.agg #[uL, uW], .int .u64 h, .int .i64 t] w fun e w' => ∃ uW', e = .returned (.tuple #[.agg #[uL, uW'], .bool (bumB tw h)]) ∧ XAt w' B uL uW' te.toL (bumR tw Wy h t) ∧ Ext w w' := by
  have hl := I.wlen hk
  unfold bumR bumB
  by_cases c : (ShI.wayOf tw h).1 = 0
  · refine (rBump_no uL uW B te.toL Wy h t w hX.l hX.y (by omega) (by rw [I.ways]; exact c)).mono ?_
    rintro e w' ⟨rfl, hE⟩
    simp only [c, ne_eq, not_true_eq_false, decide_false]
    exact ⟨_, rfl, hX.ext hE, hE⟩
  · refine (rBump_yes uL uW B te.toL Wy h t w hX.l hX.y (by omega) _ (by rw [I.ways]) c).mono ?_
    rintro e w' ⟨uW', rfl, hR, hE⟩
    simp only [c, ne_eq, not_false_eq_true, decide_true, if_true]
    exact ⟨_, rfl, ⟨hX.l.ext hE, hR.base hX.b, Nat.le_trans hX.b hE.size⟩, hE⟩
theorem uBumpP (b : Nat) (h t : Int) (w : World) (hS : ShI.ShardAt w b te tw) (I : Inv k te tw Wy) (hk : k ≤ 1000) :
    Calls Try.prog 55 #[.pointer (some ⟨b, 0, none⟩), .int .u64 h, .int .i64 t] w fun e w' => e = .returned (.bool (bumB tw h)) ∧ ShI.ShardAt w' b te (bumT tw h t) ∧ Chg (· = b) w w' := by
  have hs : tw.sz < 1000000 := by have := I.sw; omega
  unfold bumT bumB
  by_cases c : (ShI.wayOf tw h).1 = 0
  · refine (ShI.Bump_no b te tw h t w hS hs c).mono ?_
    rintro e w' ⟨rfl, hE⟩
    simp only [c, ne_eq, not_true_eq_false, decide_false]
    exact ⟨by first | rfl | trivial, hS.ext hE, Chg.of_below hE⟩
  · refine (ShI.Bump_yes b te tw h t _ w hS hs rfl c).mono ?_
    rintro e w' ⟨rfl, hS', hC⟩
    simp only [c, ne_eq, not_false_eq_true, decide_true, if_true]
    exact ⟨by first | rfl | trivial, hS', hC⟩
def donB (tw : T Int (Int × Int)) (h t : Int) : Bool := bumB tw h && ((ShI.wayOf tw h).2 == t)
def donT (tw : T Int (Int × Int)) (h : Int) : T Int (Int × Int) := if bumB tw h then (if (ShI.wayOf tw h).1 = 1 then T.drop cint h tw else T.put cint h ((ShI.wayOf tw h).1 - 1, (ShI.wayOf tw h).2) tw) else tw
def donR (tw : T Int (Int × Int)) (Wy : List (Int × Int × Int)) (h : Int) : List (Int × Int × Int) := if bumB tw h then setR Wy (h, (ShI.wayOf tw h).1 - 1, (ShI.wayOf tw h).2) else Wy
theorem Inv.done (I : Inv k te tw Wy) (h : Int) : Inv (k + 1) te (donT tw h) (donR tw Wy h) := by
  unfold donT donR
  have hm := I.many h
  by_cases c : bumB tw h = true
  · rw [if_pos c, if_pos c]
    unfold bumB at c
    have c := of_decide_eq_true c
    by_cases d : (ShI.wayOf tw h).1 = 1
    · rw [if_pos d, d]
      exact I.dropW h _
    · rw [if_neg d]
      exact I.setW h _ _ (by omega) (by omega)
  · rw [if_neg c, if_neg c]
    exact I.mono (by omega)
theorem uDoneD (uL uW : Value) (B : Nat) (h t : Int) (w : World) (hX : XAt w B uL uW te.toL Wy) (I : Inv k te tw Wy) (hk : k ≤ 1000) :
    Calls Try.prog 56 #[.agg #[uL, uW], .int .u64 h, .int .i64 t] w fun e w' => ∃ uW', e = .returned (.tuple #[.agg #[uL, uW'], .bool (donB tw h t)]) ∧ XAt w' B uL uW' te.toL (donR tw Wy h) ∧ Ext w w' := by
  have hl := I.wlen hk
  have hm := I.many h
  unfold donR donB bumB
  by_cases c : (ShI.wayOf tw h).1 = 0
  · refine (rDone_no uL uW B te.toL Wy h t w hX.l hX.y (by omega) (by rw [I.ways]; exact c)).mono ?_
    rintro e w' ⟨rfl, hE⟩
    simp only [c, ne_eq, not_true_eq_false, decide_false]
    exact ⟨_, rfl, hX.ext hE, hE⟩
  · refine (rDone_yes uL uW B te.toL Wy h t (ShI.wayOf tw h).1 (ShI.wayOf tw h).2 _ w hX.l hX.y (by omega) (I.ways h) (by omega) (by omega) rfl).mono ?_
    rintro e w' ⟨uW', rfl, hR, hE⟩
    simp only [c, ne_eq, not_false_eq_true, decide_true, if_true, Bool.true_and]
    exact ⟨_, rfl, ⟨hX.l.ext hE, hR.base hX.b, Nat.le_trans hX.b hE.size⟩, hE⟩
theorem uDoneP (b : Nat) (h t : Int) (w : World) (hS : ShI.ShardAt w b te tw) (I : Inv k te tw Wy) (hk : k ≤ 1000) :
    Calls Try.prog 41 #[.pointer (some ⟨b, 0, none⟩), .int .u64 h, .int .i64 t] w fun e w' => e = .returned (.bool (donB tw h t)) ∧ ShI.ShardAt w' b te (donT tw h) ∧ Chg (· = b) w w' := by
  have hs : tw.sz < 1000000 := by have := I.sw; omega
  have hm := I.many h
  unfold donT donB bumB
  by_cases c : (ShI.wayOf tw h).1 = 0
  · refine (ShI.Done_no b te tw h t w hS hs c).mono ?_
    rintro e w' ⟨rfl, hE⟩
    simp only [c, ne_eq, not_true_eq_false, decide_false]
    exact ⟨by first | rfl | trivial, hS.ext hE, Chg.of_below hE⟩
  · by_cases d : (ShI.wayOf tw h).1 = 1
    · refine (ShI.Done_one b te tw h t (ShI.wayOf tw h).2 _ w hS hs (by rw [← d]) rfl).mono ?_
      rintro e w' ⟨rfl, hS', hC⟩
      simp only [d, ne_eq, Int.one_ne_zero, not_false_eq_true, decide_true, if_true, Bool.true_and]
      exact ⟨by first | rfl | trivial, hS', hC⟩
    · refine (ShI.Done_more b te tw h t (ShI.wayOf tw h).1 (ShI.wayOf tw h).2 _ w hS hs rfl (by omega) (by omega) rfl).mono ?_
      rintro e w' ⟨rfl, hS', hC⟩
      simp only [c, d, ne_eq, not_false_eq_true, decide_true, if_true, if_false, Bool.true_and]
      exact ⟨by first | rfl | trivial, hS', hC⟩
end Go.Proofs.Ytnpfikabcmngpaa.ShP
