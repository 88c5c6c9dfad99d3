/-
  Package fate, once more: a note that may be had or not, in one contract; what other calls leave.
-/
import Derived.Test.YtlnmnnoibimknaaFateNote
namespace Go.Proofs.Ytlnmnnoibimknaa.Fa
open Go.RowKit Go.Seg Go.Open Go.Lib Rk TrII

theorem Book.chg {S : Nat → Prop} {w w' : World} {b : Nat} {t : T Int Int} {c : C6} (hc : Chg S w w') (h1 : Off S w 75) (h2 : Off S w 94) (h3 : Off S w 90) : Book w b t c → Book w' b t c :=
  fun ⟨q, h, ht⟩ => ⟨q, Blk.chg h hc h1, ht.chg hc h2 h3⟩
theorem Book.blk {w : World} {b : Nat} {t : T Int Int} {c : C6} : Book w b t c → ∃ cs, Blk w b cs 75 := fun ⟨_, h, _⟩ => ⟨_, h⟩

def noteT (t : T Int Int) (id k : Int) : T Int Int := if noteOk t.toL id k = true then T.put cint id k t else t
def noteC (t : T Int Int) (c : C6) (id k : Int) : C6 := if noteOk t.toL id k = true then c.bump k else c

theorem noteOk_iff {t : T Int Int} {c : C6} (h : Inv t c) (id k : Int) : noteOk t.toL id k = true ↔ known k = true ∧ ofT t id = 0 := by
  unfold noteOk
  rw [Bool.and_eq_true]
  refine and_congr Iff.rfl ?_
  constructor
  · intro hn
    rw [ofT_look h.up]
    cases hl : Rk.look cint id t.toL with
    | none => rfl
    | some v => rw [hl] at hn; cases hn
  · intro ho
    rw [h.absent ho]
    rfl

theorem noteT_toL {t : T Int Int} {c : C6} (h : Inv t c) (id k : Int) : (noteT t id k).toL = noteL t.toL id k := by
  unfold noteT noteL
  split
  · rw [toL_put cint_lawful id k t h.up]
  · rfl
theorem noteT_inv {t : T Int Int} {c : C6} (h : InvC t c) (id k : Int) : InvC (noteT t id k) (noteC t c id k) := by
  unfold noteT noteC
  by_cases hk : noteOk t.toL id k = true
  · obtain ⟨h1, h2⟩ := (noteOk_iff h.inv id k).1 hk
    rw [if_pos hk, if_pos hk]
    exact h.put h1 h2
  · rw [if_neg hk, if_neg hk]
    exact h
theorem noteT_sz (t : T Int Int) (id k : Int) : (noteT t id k).sz ≤ t.sz + 1 := by
  unfold noteT
  split
  · exact T.sz_put_le _ _ _ _
  · omega

theorem Note_all (b : Nat) (t : T Int Int) (c : C6) (id k : Int) (w : World) (h : Book w b t c) (hi : Inv t c) (hs : t.sz < 1000000) :
    Calls Try.prog 21 #[.pointer (some ⟨b, 0, none⟩), .int .i64 id, .int .i64 k] w fun e w' => e = .returned (.bool (noteOk t.toL id k)) ∧ Book w' b (noteT t id k) (noteC t c id k) ∧ Chg (· = b) w w' := by
  by_cases hk : noteOk t.toL id k = true
  · obtain ⟨h1, h2⟩ := (noteOk_iff hi id k).1 hk
    unfold noteT noteC
    rw [if_pos hk, if_pos hk, hk]
    exact Note_yes b t c id k w h hs (hi.small hs) h1 h2
  · unfold noteT noteC
    rw [if_neg hk, if_neg hk]
    have hk' : noteOk t.toL id k = false := by simpa using hk
    rw [hk']
    refine (Note_no b t c id k w h hs ?_).mono ?_
    · by_cases h1 : known k = true
      · exact .inr fun h2 => hk ((noteOk_iff hi id k).2 ⟨h1, h2⟩)
      · exact .inl (by simpa using h1)
    · rintro e w' ⟨rfl, hE⟩
      exact ⟨rfl, h.ext hE, Chg.of_below hE⟩

theorem rGet_of (u : Value) (B : Nat) (t : T Int Int) (id : Int) (w : World) (h : Row w B u t.toL) (hu : Up cint t.toL) (hl : t.toL.length ≤ 1000000) :
    Calls Try.prog 25 #[u, .int .i64 id] w fun e w' => ∃ b, e = .returned (.tuple #[.int .i64 (ofT t id), .bool b]) ∧ w = w' := by
  refine (rGet_any u B t.toL id w h hl).mono ?_
  rintro e w' ⟨rfl, rfl⟩
  rw [ofT_look hu]
  exact ⟨_, rfl, rfl⟩

theorem rNote_t (u : Value) (B : Nat) (t : T Int Int) (c : C6) (hi : Inv t c) (id k : Int) (w : World) (h : Row w B u t.toL) (hB : B ≤ w.heap.size) (hl : t.toL.length ≤ 1000000) :
    Calls Try.prog 24 #[u, .int .i64 id, .int .i64 k] w fun e w' => ∃ u', e = .returned (.tuple #[u', .bool (noteOk t.toL id k)]) ∧ Row w' B u' (noteT t id k).toL ∧ Ext w w' := by
  rw [noteT_toL hi]
  exact rNote_any u B t.toL hi.up id k w h hB hl

theorem known_no {k : Int} (h : k < 1 ∨ 5 < k) : known k = false := by
  unfold known
  rcases h with h | h
  · rw [decide_eq_false (by omega)]; rfl
  · rw [decide_eq_false (p := k ≤ 5) (by omega), Bool.and_false]
end Go.Proofs.Ytlnmnnoibimknaa.Fa
