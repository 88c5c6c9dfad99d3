/-
  Package fate: a book of fates: each function comes to what the plain tree and six counters say.
  Counters below 1,000,000, books of fewer than 1,000,000 fates; no other condition.
-/
import Derived.Test.YtlnmnnoibimknaaTrII
namespace Go.Proofs.Ytlnmnnoibimknaa.Fa
open Go.RowKit Go.Seg Go.Open Rk TrII

/-- Six counters. -/
structure C6 where
  (c0 c1 c2 c3 c4 c5 : Int)
def C6.get (c : C6) (k : Int) : Int := if k = 0 then c.c0 else if k = 1 then c.c1 else if k = 2 then c.c2 else if k = 3 then c.c3 else if k = 4 then c.c4 else c.c5
def C6.bump (c : C6) (k : Int) : C6 :=
  if k = 0 then { c with c0 := c.c0 + 1 } else if k = 1 then { c with c1 := c.c1 + 1 } else if k = 2 then { c with c2 := c.c2 + 1 } else if k = 3 then { c with c3 := c.c3 + 1 } else if k = 4 then { c with c4 := c.c4 + 1 } else { c with c5 := c.c5 + 1 }
def C6.small (c : C6) : Prop := (0 ≤ c.c0 ∧ c.c0 < 1000000) ∧ (0 ≤ c.c1 ∧ c.c1 < 1000000) ∧ (0 ≤ c.c2 ∧ c.c2 < 1000000) ∧ (0 ≤ c.c3 ∧ c.c3 < 1000000) ∧ (0 ≤ c.c4 ∧ c.c4 < 1000000) ∧ (0 ≤ c.c5 ∧ c.c5 < 1000000)

/-- A book's block. -/
def BookAt (w : World) (b : Nat) (q : Option Addr) (c : C6) : Prop := Blk w b #[.pointer q, .int .i64 c.c0, .int .i64 c.c1, .int .i64 c.c2, .int .i64 c.c3, .int .i64 c.c4, .int .i64 c.c5] 75
theorem BookAt.ext {w w' : World} {b : Nat} {q : Option Addr} {c : C6} (h : BookAt w b q c) (e : Ext w w') : BookAt w' b q c := Blk.ext h e

/-- A book. -/
def Book (w : World) (b : Nat) (t : T Int Int) (c : C6) : Prop := ∃ q, BookAt w b q c ∧ isTree w q t
theorem Book.ext {w w' : World} {b : Nat} {t : T Int Int} {c : C6} (e : Ext w w') : Book w b t c → Book w' b t c := fun ⟨q, h, ht⟩ => ⟨q, h.ext e, ht.ext e⟩

def known (k : Int) : Bool := decide (1 ≤ k) && decide (k ≤ 5)

theorem known_any (k : Int) (w : World) : Calls Try.prog 22 #[.int .i64 k] w fun e w' => e = .returned (.bool (known k)) ∧ w = w' := by
  by_cases h1 : 1 ≤ k
  · have d1 : decide (1 ≤ k) = true := decide_eq_true h1
    have e : known k = decide (k ≤ 5) := by unfold known; rw [d1, Bool.true_and]
    rw [e]
    clear e
    go_enter Try.func22, Try.ntmps22
    go_wp2_with fail
    go_ret
    exact ⟨rfl, rfl⟩
  · have d1 : decide (1 ≤ k) = false := decide_eq_false h1
    have e : known k = false := by unfold known; rw [d1, Bool.false_and]
    rw [e]
    clear e
    go_enter Try.func22, Try.ntmps22
    go_wp2_with fail
    go_ret
    exact ⟨rfl, rfl⟩

/-- A key's fate; 0 where there is none. -/
def ofT (t : T Int Int) (id : Int) : Int := (T.get cint id t).getD 0

theorem Of_any (b : Nat) (t : T Int Int) (c : C6) (id : Int) (w : World) (h : Book w b t c) (hs : t.sz < 1000000) :
    Calls Try.prog 19 #[.pointer (some ⟨b, 0, none⟩), .int .i64 id] w fun e w' => e = .returned (.int .i64 (ofT t id)) ∧ Ext w w' := by
  obtain ⟨q, hB, hT⟩ := h
  have b0 := Blk.cell (i := 0) hB rfl
  have HT := Lib.hid hT
  clear hB hT
  go_enter Try.func19, Try.ntmps19
  go_wp2_with fail
  refine (Get_any _ _ _ _ HT.out (by omega)).mono ?_
  rintro e w1 ⟨he, hE⟩
  cases hg : T.get cint id t with
  | none =>
    rw [hg] at he
    obtain rfl := he
    have HG := Lib.hid hg
    clear hg b0
    go_wp2_with fail
    go_ret
    exact ⟨by unfold ofT; rw [HG.out]; rfl, hE⟩
  | some v =>
    rw [hg] at he
    obtain rfl := he
    have HG := Lib.hid hg
    clear hg b0
    go_wp2_with fail
    go_ret
    exact ⟨by unfold ofT; rw [HG.out]; rfl, hE⟩

theorem Of_nil (id : Int) (w : World) : Calls Try.prog 19 #[.pointer none, .int .i64 id] w fun e w' => e = .returned (.int .i64 0) ∧ w = w' := by
  go_enter Try.func19, Try.ntmps19
  go_wp2_with fail
  go_ret
  exact ⟨rfl, rfl⟩

theorem Len_any' (b : Nat) (t : T Int Int) (c : C6) (w : World) (h : Book w b t c) : Calls Try.prog 20 #[.pointer (some ⟨b, 0, none⟩)] w fun e w' => e = .returned (.int .i64 t.sz) ∧ w = w' := by
  obtain ⟨q, hB, hT⟩ := h
  have b0 := Blk.cell (i := 0) hB rfl
  have HT := Lib.hid hT
  clear hB hT
  go_enter Try.func20, Try.ntmps20
  go_wp2_with fail
  refine (TrII.Len_any _ _ _ HT.out).mono ?_
  rintro e w' ⟨rfl, rfl⟩
  go_wp2_with fail
  go_ret
  exact ⟨rfl, rfl⟩

theorem BLen_nil (w : World) : Calls Try.prog 20 #[.pointer none] w fun e w' => e = .returned (.int .i64 0) ∧ w = w' := by
  go_enter Try.func20, Try.ntmps20
  go_wp2_with fail
  go_ret
  exact ⟨rfl, rfl⟩

theorem Count_nil (k : Int) (w : World) : Calls Try.prog 23 #[.pointer none, .int .i64 k] w fun e w' => e = .returned (.int .i64 0) ∧ w = w' := by
  go_enter Try.func23, Try.ntmps23
  go_wp2_with fail
  go_ret
  exact ⟨rfl, rfl⟩

/-- How many of a fate. -/
def cntC (c : C6) (k : Int) : Int := if known k = true then c.get k else 0

theorem Count_any (b : Nat) (t : T Int Int) (c : C6) (k : Int) (w : World) (h : Book w b t c) : Calls Try.prog 23 #[.pointer (some ⟨b, 0, none⟩), .int .i64 k] w fun e w' => e = .returned (.int .i64 (cntC c k)) ∧ w = w' := by
  obtain ⟨q, hB, hT⟩ := h
  have b1 := Blk.cell (i := 1) hB rfl
  have b2 := Blk.cell (i := 2) hB rfl
  have b3 := Blk.cell (i := 3) hB rfl
  have b4 := Blk.cell (i := 4) hB rfl
  have b5 := Blk.cell (i := 5) hB rfl
  have b6 := Blk.cell (i := 6) hB rfl
  clear hB hT
  by_cases hk : known k = true
  · have hk' : k = 1 ∨ k = 2 ∨ k = 3 ∨ k = 4 ∨ k = 5 := by
      unfold known at hk
      simp only [Bool.and_eq_true, decide_eq_true_eq] at hk
      omega
    rcases hk' with rfl | rfl | rfl | rfl | rfl
    all_goals
      go_enter Try.func23, Try.ntmps23
      go_wp2_with fail
      refine (known_any _ _).mono ?_
      rintro e w' ⟨rfl, rfl⟩
      go_wp2_with fail
      go_ret
      exact ⟨rfl, rfl⟩
  · have hk' : known k = false := by simpa using hk
    have e : cntC c k = 0 := by unfold cntC; rw [if_neg hk]
    rw [e]
    clear e hk
    go_enter Try.func23, Try.ntmps23
    go_wp2_with fail
    refine (known_any _ _).mono ?_
    rintro e w' ⟨rfl, rfl⟩
    go_wp2_with fail
    go_ret
    exact ⟨rfl, rfl⟩

theorem New_book (w : World) : Calls Try.prog 18 #[] w fun e w' => ∃ b, e = .returned (.pointer (some ⟨b, 0, none⟩)) ∧ w.heap.size ≤ b ∧ Book w' b .nil ⟨0, 0, 0, 0, 0, 0⟩ ∧ Ext w w' := by
  go_enter Try.func18, Try.ntmps18
  go_wp2_with fail
  refine (TrII.New_any _).mono ?_
  rintro e w1 ⟨q, rfl, hq, hE⟩
  go_wp2_with fail
  go_ret
  have hA : Ext w1 (w1.alloc (Obj.cells #[.pointer q, .int .i64 0, .int .i64 0, .int .i64 0, .int .i64 0, .int .i64 0, .int .i64 0] 75)) := (Below.refl _ _).alloc (Nat.le_refl _) _
  exact ⟨_, rfl, hE.size, ⟨q, Blk.new _ _ _, hq.ext hA⟩, hE.trans hA⟩

theorem Note_no (b : Nat) (t : T Int Int) (c : C6) (id k : Int) (w : World) (h : Book w b t c) (hs : t.sz < 1000000) (hn : known k = false ∨ ofT t id ≠ 0) :
    Calls Try.prog 21 #[.pointer (some ⟨b, 0, none⟩), .int .i64 id, .int .i64 k] w fun e w' => e = .returned (.bool false) ∧ Ext w w' := by
  have HB := Lib.hid h
  clear h
  by_cases hk : known k = true
  · have ho := hn.resolve_left (by rw [hk]; simp)
    have hd : (ofT t id != 0) = true := bne_iff_ne.2 ho
    clear hn ho
    go_enter Try.func21, Try.ntmps21
    go_wp2_with fail
    refine (known_any _ _).mono ?_
    rintro e w' ⟨rfl, rfl⟩
    go_wp2_with fail
    refine (Of_any _ _ _ _ _ HB.out hs).mono ?_
    rintro e w1 ⟨rfl, hE⟩
    go_wp2_with fail
    go_ret
    exact ⟨rfl, hE⟩
  · have hk' : known k = false := by simpa using hk
    clear hn hk
    go_enter Try.func21, Try.ntmps21
    go_wp2_with fail
    refine (known_any _ _).mono ?_
    rintro e w' ⟨rfl, rfl⟩
    go_wp2_with fail
    go_ret
    exact ⟨rfl, Ext.refl _⟩

theorem Note_nil (id k : Int) (w : World) : Calls Try.prog 21 #[.pointer none, .int .i64 id, .int .i64 k] w fun e w' => e = .returned (.bool false) ∧ w = w' := by
  go_enter Try.func21, Try.ntmps21
  go_wp2_with fail
  go_ret
  exact ⟨rfl, rfl⟩

set_option maxRecDepth 100000 in
set_option maxHeartbeats 1000000 in
theorem Note_yes (b : Nat) (t : T Int Int) (c : C6) (id k : Int) (w : World) (h : Book w b t c) (hs : t.sz < 1000000) (hc : c.small) (hk : known k = true) (ho : ofT t id = 0) :
    Calls Try.prog 21 #[.pointer (some ⟨b, 0, none⟩), .int .i64 id, .int .i64 k] w fun e w' => e = .returned (.bool true) ∧ Book w' b (T.put cint id k t) (c.bump k) ∧ Chg (· = b) w w' := by
  have HB := Lib.hid h
  have hd : (ofT t id != 0) = false := by simpa using ho
  have hk' : k = 1 ∨ k = 2 ∨ k = 3 ∨ k = 4 ∨ k = 5 := by
    unfold known at hk
    simp only [Bool.and_eq_true, decide_eq_true_eq] at hk
    omega
  obtain ⟨⟨_, _⟩, ⟨_, _⟩, ⟨_, _⟩, ⟨_, _⟩, ⟨_, _⟩, ⟨_, _⟩⟩ := hc
  clear h ho
  rcases hk' with rfl | rfl | rfl | rfl | rfl
  · go_enter Try.func21, Try.ntmps21
    go_wp2_with fail
    refine (known_any _ _).mono ?_
    rintro e w' ⟨rfl, rfl⟩
    go_wp2_with fail
    refine (Of_any _ _ _ _ _ HB.out hs).mono ?_
    rintro e w0 ⟨rfl, hE0⟩
    obtain ⟨q, hB0, hT0⟩ := HB.out.ext hE0
    have b0 := Blk.cell (i := 0) hB0 rfl
    have HB0 := Lib.hid hB0
    have HT0 := Lib.hid hT0
    clear hB0 hT0
    go_wp2_with fail
    clear b0
    refine (Put_any _ _ _ _ _ HT0.out (by omega)).mono ?_
    rintro e w1 ⟨q1, rfl, hq1, hE1⟩
    have hB1 := HB0.out.ext hE1
    have HB1 := Lib.hid hB1
    have b0 := Blk.cell (i := 0) hB1 rfl
    have f0 := Blk.frozen hB1 0
    have HB2 := Lib.hid (Blk.set (cs' := #[.pointer q1, .int .i64 c.c0, .int .i64 c.c1, .int .i64 c.c2, .int .i64 c.c3, .int .i64 c.c4, .int .i64 c.c5]) hB1 0 (.pointer q1) rfl)
    have b2 := Blk.cell (i := 2) HB2.out rfl
    have f2 := Blk.frozen HB2.out 2
    have HQ := Lib.hid hq1
    have HE := Lib.hid (hE0.trans hE1)
    clear hB1 hq1 hE0 hE1
    go_wp2_with fail
    refine wp_region_segs 10 [([10, 1], true)] (by kernel_rfl) (by kernel_rfl) ?_
    apply segs_cons
    · intro W hW
      have hB := HB2.out.ext hW.of_drew
      have b0 := Blk.cell (i := 0) hB rfl
      have b1 := Blk.cell (i := 1) hB rfl
      have b2 := Blk.cell (i := 2) hB rfl
      have b3 := Blk.cell (i := 3) hB rfl
      have b4 := Blk.cell (i := 4) hB rfl
      have b5 := Blk.cell (i := 5) hB rfl
      have b6 := Blk.cell (i := 6) hB rfl
      clear hB
      simp only [runsT, runsF, rep, pick]
      go_wp2_with fail
      exact ⟨rfl, rfl⟩
    simp only [runsT, runsF, rep, left]
    go_wp2_with fail
    refine ⟨fun h => (by cases h), ?_⟩
    apply segs_nil
    go_wp2_with fail
    go_ret
    have hC : Chg (· = b) w1 (((w1.setCell ⟨b, 0, none⟩ (.pointer q1)).setCell ⟨b, 2, none⟩ (.int .i64 (c.c1 + 1))).drew) := ((Chg.set _ _ _ _).trans (Chg.set _ _ _ _)).drew
    exact ⟨rfl, ⟨q1, Blk.drew (Blk.set HB2.out 2 _ rfl), HQ.out.chg hC (Off.one HB1.out (by decide)) (Off.one HB1.out (by decide))⟩, (Chg.of_below HE.out).trans hC⟩
  · go_enter Try.func21, Try.ntmps21
    go_wp2_with fail
    refine (known_any _ _).mono ?_
    rintro e w' ⟨rfl, rfl⟩
    go_wp2_with fail
    refine (Of_any _ _ _ _ _ HB.out hs).mono ?_
    rintro e w0 ⟨rfl, hE0⟩
    obtain ⟨q, hB0, hT0⟩ := HB.out.ext hE0
    have b0 := Blk.cell (i := 0) hB0 rfl
    have HB0 := Lib.hid hB0
    have HT0 := Lib.hid hT0
    clear hB0 hT0
    go_wp2_with fail
    clear b0
    refine (Put_any _ _ _ _ _ HT0.out (by omega)).mono ?_
    rintro e w1 ⟨q1, rfl, hq1, hE1⟩
    have hB1 := HB0.out.ext hE1
    have HB1 := Lib.hid hB1
    have b0 := Blk.cell (i := 0) hB1 rfl
    have f0 := Blk.frozen hB1 0
    have HB2 := Lib.hid (Blk.set (cs' := #[.pointer q1, .int .i64 c.c0, .int .i64 c.c1, .int .i64 c.c2, .int .i64 c.c3, .int .i64 c.c4, .int .i64 c.c5]) hB1 0 (.pointer q1) rfl)
    have b3 := Blk.cell (i := 3) HB2.out rfl
    have f3 := Blk.frozen HB2.out 3
    have HQ := Lib.hid hq1
    have HE := Lib.hid (hE0.trans hE1)
    clear hB1 hq1 hE0 hE1
    go_wp2_with fail
    refine wp_region_segs 10 [([10, 1], true)] (by kernel_rfl) (by kernel_rfl) ?_
    apply segs_cons
    · intro W hW
      have hB := HB2.out.ext hW.of_drew
      have b0 := Blk.cell (i := 0) hB rfl
      have b1 := Blk.cell (i := 1) hB rfl
      have b2 := Blk.cell (i := 2) hB rfl
      have b3 := Blk.cell (i := 3) hB rfl
      have b4 := Blk.cell (i := 4) hB rfl
      have b5 := Blk.cell (i := 5) hB rfl
      have b6 := Blk.cell (i := 6) hB rfl
      clear hB
      simp only [runsT, runsF, rep, pick]
      go_wp2_with fail
      exact ⟨rfl, rfl⟩
    simp only [runsT, runsF, rep, left]
    go_wp2_with fail
    refine ⟨fun h => (by cases h), ?_⟩
    apply segs_nil
    go_wp2_with fail
    go_ret
    have hC : Chg (· = b) w1 (((w1.setCell ⟨b, 0, none⟩ (.pointer q1)).setCell ⟨b, 3, none⟩ (.int .i64 (c.c2 + 1))).drew) := ((Chg.set _ _ _ _).trans (Chg.set _ _ _ _)).drew
    exact ⟨rfl, ⟨q1, Blk.drew (Blk.set HB2.out 3 _ rfl), HQ.out.chg hC (Off.one HB1.out (by decide)) (Off.one HB1.out (by decide))⟩, (Chg.of_below HE.out).trans hC⟩
  · go_enter Try.func21, Try.ntmps21
    go_wp2_with fail
    refine (known_any _ _).mono ?_
    rintro e w' ⟨rfl, rfl⟩
    go_wp2_with fail
    refine (Of_any _ _ _ _ _ HB.out hs).mono ?_
    rintro e w0 ⟨rfl, hE0⟩
    obtain ⟨q, hB0, hT0⟩ := HB.out.ext hE0
    have b0 := Blk.cell (i := 0) hB0 rfl
    have HB0 := Lib.hid hB0
    have HT0 := Lib.hid hT0
    clear hB0 hT0
    go_wp2_with fail
    clear b0
    refine (Put_any _ _ _ _ _ HT0.out (by omega)).mono ?_
    rintro e w1 ⟨q1, rfl, hq1, hE1⟩
    have hB1 := HB0.out.ext hE1
    have HB1 := Lib.hid hB1
    have b0 := Blk.cell (i := 0) hB1 rfl
    have f0 := Blk.frozen hB1 0
    have HB2 := Lib.hid (Blk.set (cs' := #[.pointer q1, .int .i64 c.c0, .int .i64 c.c1, .int .i64 c.c2, .int .i64 c.c3, .int .i64 c.c4, .int .i64 c.c5]) hB1 0 (.pointer q1) rfl)
    have b4 := Blk.cell (i := 4) HB2.out rfl
    have f4 := Blk.frozen HB2.out 4
    have HQ := Lib.hid hq1
    have HE := Lib.hid (hE0.trans hE1)
    clear hB1 hq1 hE0 hE1
    go_wp2_with fail
    refine wp_region_segs 10 [([10, 1], true)] (by kernel_rfl) (by kernel_rfl) ?_
    apply segs_cons
    · intro W hW
      have hB := HB2.out.ext hW.of_drew
      have b0 := Blk.cell (i := 0) hB rfl
      have b1 := Blk.cell (i := 1) hB rfl
      have b2 := Blk.cell (i := 2) hB rfl
      have b3 := Blk.cell (i := 3) hB rfl
      have b4 := Blk.cell (i := 4) hB rfl
      have b5 := Blk.cell (i := 5) hB rfl
      have b6 := Blk.cell (i := 6) hB rfl
      clear hB
      simp only [runsT, runsF, rep, pick]
      go_wp2_with fail
      exact ⟨rfl, rfl⟩
    simp only [runsT, runsF, rep, left]
    go_wp2_with fail
    refine ⟨fun h => (by cases h), ?_⟩
    apply segs_nil
    go_wp2_with fail
    go_ret
    have hC : Chg (· = b) w1 (((w1.setCell ⟨b, 0, none⟩ (.pointer q1)).setCell ⟨b, 4, none⟩ (.int .i64 (c.c3 + 1))).drew) := ((Chg.set _ _ _ _).trans (Chg.set _ _ _ _)).drew
    exact ⟨rfl, ⟨q1, Blk.drew (Blk.set HB2.out 4 _ rfl), HQ.out.chg hC (Off.one HB1.out (by decide)) (Off.one HB1.out (by decide))⟩, (Chg.of_below HE.out).trans hC⟩
  · go_enter Try.func21, Try.ntmps21
    go_wp2_with fail
    refine (known_any _ _).mono ?_
    rintro e w' ⟨rfl, rfl⟩
    go_wp2_with fail
    refine (Of_any _ _ _ _ _ HB.out hs).mono ?_
    rintro e w0 ⟨rfl, hE0⟩
    obtain ⟨q, hB0, hT0⟩ := HB.out.ext hE0
    have b0 := Blk.cell (i := 0) hB0 rfl
    have HB0 := Lib.hid hB0
    have HT0 := Lib.hid hT0
    clear hB0 hT0
    go_wp2_with fail
    clear b0
    refine (Put_any _ _ _ _ _ HT0.out (by omega)).mono ?_
    rintro e w1 ⟨q1, rfl, hq1, hE1⟩
    have hB1 := HB0.out.ext hE1
    have HB1 := Lib.hid hB1
    have b0 := Blk.cell (i := 0) hB1 rfl
    have f0 := Blk.frozen hB1 0
    have HB2 := Lib.hid (Blk.set (cs' := #[.pointer q1, .int .i64 c.c0, .int .i64 c.c1, .int .i64 c.c2, .int .i64 c.c3, .int .i64 c.c4, .int .i64 c.c5]) hB1 0 (.pointer q1) rfl)
    have b5 := Blk.cell (i := 5) HB2.out rfl
    have f5 := Blk.frozen HB2.out 5
    have HQ := Lib.hid hq1
    have HE := Lib.hid (hE0.trans hE1)
    clear hB1 hq1 hE0 hE1
    go_wp2_with fail
    refine wp_region_segs 10 [([10, 1], true)] (by kernel_rfl) (by kernel_rfl) ?_
    apply segs_cons
    · intro W hW
      have hB := HB2.out.ext hW.of_drew
      have b0 := Blk.cell (i := 0) hB rfl
      have b1 := Blk.cell (i := 1) hB rfl
      have b2 := Blk.cell (i := 2) hB rfl
      have b3 := Blk.cell (i := 3) hB rfl
      have b4 := Blk.cell (i := 4) hB rfl
      have b5 := Blk.cell (i := 5) hB rfl
      have b6 := Blk.cell (i := 6) hB rfl
      clear hB
      simp only [runsT, runsF, rep, pick]
      go_wp2_with fail
      exact ⟨rfl, rfl⟩
    simp only [runsT, runsF, rep, left]
    go_wp2_with fail
    refine ⟨fun h => (by cases h), ?_⟩
    apply segs_nil
    go_wp2_with fail
    go_ret
    have hC : Chg (· = b) w1 (((w1.setCell ⟨b, 0, none⟩ (.pointer q1)).setCell ⟨b, 5, none⟩ (.int .i64 (c.c4 + 1))).drew) := ((Chg.set _ _ _ _).trans (Chg.set _ _ _ _)).drew
    exact ⟨rfl, ⟨q1, Blk.drew (Blk.set HB2.out 5 _ rfl), HQ.out.chg hC (Off.one HB1.out (by decide)) (Off.one HB1.out (by decide))⟩, (Chg.of_below HE.out).trans hC⟩
  · go_enter Try.func21, Try.ntmps21
    go_wp2_with fail
    refine (known_any _ _).mono ?_
    rintro e w' ⟨rfl, rfl⟩
    go_wp2_with fail
    refine (Of_any _ _ _ _ _ HB.out hs).mono ?_
    rintro e w0 ⟨rfl, hE0⟩
    obtain ⟨q, hB0, hT0⟩ := HB.out.ext hE0
    have b0 := Blk.cell (i := 0) hB0 rfl
    have HB0 := Lib.hid hB0
    have HT0 := Lib.hid hT0
    clear hB0 hT0
    go_wp2_with fail
    clear b0
    refine (Put_any _ _ _ _ _ HT0.out (by omega)).mono ?_
    rintro e w1 ⟨q1, rfl, hq1, hE1⟩
    have hB1 := HB0.out.ext hE1
    have HB1 := Lib.hid hB1
    have b0 := Blk.cell (i := 0) hB1 rfl
    have f0 := Blk.frozen hB1 0
    have HB2 := Lib.hid (Blk.set (cs' := #[.pointer q1, .int .i64 c.c0, .int .i64 c.c1, .int .i64 c.c2, .int .i64 c.c3, .int .i64 c.c4, .int .i64 c.c5]) hB1 0 (.pointer q1) rfl)
    have b6 := Blk.cell (i := 6) HB2.out rfl
    have f6 := Blk.frozen HB2.out 6
    have HQ := Lib.hid hq1
    have HE := Lib.hid (hE0.trans hE1)
    clear hB1 hq1 hE0 hE1
    go_wp2_with fail
    refine wp_region_segs 10 [([10, 1], true)] (by kernel_rfl) (by kernel_rfl) ?_
    apply segs_cons
    · intro W hW
      have hB := HB2.out.ext hW.of_drew
      have b0 := Blk.cell (i := 0) hB rfl
      have b1 := Blk.cell (i := 1) hB rfl
      have b2 := Blk.cell (i := 2) hB rfl
      have b3 := Blk.cell (i := 3) hB rfl
      have b4 := Blk.cell (i := 4) hB rfl
      have b5 := Blk.cell (i := 5) hB rfl
      have b6 := Blk.cell (i := 6) hB rfl
      clear hB
      simp only [runsT, runsF, rep, pick]
      go_wp2_with fail
      exact ⟨rfl, rfl⟩
    simp only [runsT, runsF, rep, left]
    go_wp2_with fail
    refine ⟨fun h => (by cases h), ?_⟩
    apply segs_nil
    go_wp2_with fail
    go_ret
    have hC : Chg (· = b) w1 (((w1.setCell ⟨b, 0, none⟩ (.pointer q1)).setCell ⟨b, 6, none⟩ (.int .i64 (c.c5 + 1))).drew) := ((Chg.set _ _ _ _).trans (Chg.set _ _ _ _)).drew
    exact ⟨rfl, ⟨q1, Blk.drew (Blk.set HB2.out 6 _ rfl), HQ.out.chg hC (Off.one HB1.out (by decide)) (Off.one HB1.out (by decide))⟩, (Chg.of_below HE.out).trans hC⟩
end Go.Proofs.Ytlnmnnoibimknaa.Fa
