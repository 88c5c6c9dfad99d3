/-
  Packages clock, cost, lossy: each function comes to what LossyT says.
  Maps of fewer than 800,000,000 keys; no other condition.
-/
import Derived.Test.YtlnmnnoibimknabTrTh
import Derived.Test.YtlnmnnoibimknabLossyT
namespace Go.Proofs.Ytlnmnnoibimknab.Lo
open Go.RowKit Go.Seg Go.Open Rk TrTh Lossy

theorem right_any (n : Int) (w : World) : Calls Try.prog 112 #[.int .i64 n] w fun e w' => e = .returned (.bool (right n)) ∧ w = w' := by
  by_cases h1 : 0 ≤ n
  · have d1 : decide (0 ≤ n) = true := decide_eq_true h1
    have e : right n = decide (n ≤ 4611686018427387904) := by unfold right; rw [d1, Bool.true_and]
    rw [e]
    clear e
    go_enter Try.func112, Try.ntmps112
    go_wp2_with fail
    go_ret
    exact ⟨rfl, rfl⟩
  · have d1 : decide (0 ≤ n) = false := decide_eq_false h1
    have e : right n = false := by unfold right; rw [d1, Bool.false_and]
    rw [e]
    clear e
    go_enter Try.func112, Try.ntmps112
    go_wp2_with fail
    go_ret
    exact ⟨rfl, rfl⟩

theorem over_any (x n : Int) (w : World) : Calls Try.prog 55 #[.int .i64 x, .int .i64 n] w fun e w' => e = .returned (.bool (over x n)) ∧ w = w' := by
  by_cases h1 : 0 < x
  · have d1 : decide (0 < x) = true := decide_eq_true h1
    have e : over x n = decide (x ≤ n) := by unfold over; rw [d1, Bool.true_and]
    rw [e]
    clear e
    go_enter Try.func55, Try.ntmps55
    go_wp2_with fail
    go_ret
    exact ⟨rfl, rfl⟩
  · have d1 : decide (0 < x) = false := decide_eq_false h1
    have e : over x n = false := by unfold over; rw [d1, Bool.false_and]
    rw [e]
    clear e
    go_enter Try.func55, Try.ntmps55
    go_wp2_with fail
    go_ret
    exact ⟨rfl, rfl⟩

theorem cut_any (n : Int) (w : World) : Calls Try.prog 114 #[.int .i64 n] w fun e w' => e = .returned (.int .i64 (cut n)) ∧ w = w' := by
  go_enter Try.func114, Try.ntmps114
  go_wp2_with fail
  all_goals
    go_ret
    refine ⟨?_, rfl⟩
    show Ending.returned (Value.int .i64 _) = _
    congr 2
    unfold cut mx
    first | omega | (rename_i q; split at q <;> omega)

theorem behind_any (now n : Int) (w : World) (h0 : 0 ≤ now) (h1 : now ≤ 1099511627776) : Calls Try.prog 113 #[.int .i64 now, .int .i64 n] w fun e w' => e = .returned (.int .i64 (behind now n)) ∧ w = w' := by
  by_cases h2 : 1099511627776 - now ≤ n
  · have d : decide (1099511627776 - now ≤ n) = true := decide_eq_true h2
    have e : behind now n = 1099511627776 := by unfold behind mx; rw [if_pos h2]
    rw [e]
    clear e
    go_enter Try.func113, Try.ntmps113
    go_wp2_with fail
    go_ret
    exact ⟨rfl, rfl⟩
  · have d : decide (1099511627776 - now ≤ n) = false := decide_eq_false h2
    have e : behind now n = now + max n 0 := by unfold behind mx; rw [if_neg h2]
    rw [e]
    clear e
    go_enter Try.func113, Try.ntmps113
    go_wp2_with fail
    all_goals
      go_ret
      refine ⟨?_, rfl⟩
      show Ending.returned (Value.int .i64 _) = _
      congr 2
      omega

theorem end_any (now ttl : Int) (w : World) : Calls Try.prog 58 #[.int .i64 now, .int .i64 ttl] w fun e w' => (∃ b, e = .returned (.tuple #[.int .i64 (endOf now ttl), .bool b])) ∧ w = w' := by
  by_cases h1 : ttl = 0
  · have d : (ttl == 0) = true := beq_iff_eq.2 h1
    have e : endOf now ttl = 0 := by unfold endOf; rw [if_pos h1]
    rw [e]
    clear e
    go_enter Try.func58, Try.ntmps58
    go_wp2_with fail
    go_ret2
    exact ⟨⟨_, rfl⟩, rfl⟩
  · have d : (ttl == 0) = false := beq_eq_false_iff_ne.2 h1
    by_cases h2 : ttl < 0
    · have d2 : decide (ttl < 0) = true := decide_eq_true h2
      have e : endOf now ttl = 0 := by unfold endOf; rw [if_neg h1, if_pos h2]
      rw [e]
      clear e
      go_enter Try.func58, Try.ntmps58
      go_wp2_with fail
      go_ret2
      exact ⟨⟨_, rfl⟩, rfl⟩
    · have d2 : decide (ttl < 0) = false := decide_eq_false h2
      have e : endOf now ttl = behind (cut now) ttl := by unfold endOf; rw [if_neg h1, if_neg h2]
      have hc : 0 ≤ cut now ∧ cut now ≤ 1099511627776 := by unfold cut mx; omega
      rw [e]
      clear e
      go_enter Try.func58, Try.ntmps58
      go_wp2_with fail
      refine (cut_any _ _).mono ?_
      rintro e w' ⟨rfl, rfl⟩
      go_wp2_with fail
      refine (behind_any _ _ _ hc.1 hc.2).mono ?_
      rintro e w' ⟨rfl, rfl⟩
      go_wp2_with fail
      go_ret2
      exact ⟨⟨_, rfl⟩, rfl⟩

/-- A map. -/
def isMap (w : World) (b : Nat) (s : Th × Bool) : Prop := ∃ q, Blk w b #[.pointer q, .bool s.2] 99 ∧ isTree w q s.1
theorem isMap.ext {w w' : World} {b : Nat} {s : Th × Bool} (e : Ext w w') : isMap w b s → isMap w' b s := fun ⟨q, h, ht⟩ => ⟨q, h.ext e, ht.ext e⟩

theorem none_any (w : World) : Calls Try.prog 61 #[] w fun e w' => ∃ q, e = .returned (.pointer q) ∧ isTree w' q (T.nil : Th) ∧ Ext w w' := by
  go_enter Try.func61, Try.ntmps61
  go_wp2_with fail
  refine (New_any _).mono ?_
  rintro e w1 ⟨q, rfl, hq, hE⟩
  go_wp2_with fail
  go_ret
  exact ⟨_, rfl, hq, hE⟩

theorem New_map (w : World) : Calls Try.prog 53 #[] w fun e w' => ∃ b, e = .returned (.pointer (some ⟨b, 0, none⟩)) ∧ w.heap.size ≤ b ∧ isMap w' b (.nil, false) ∧ Ext w w' := by
  go_enter Try.func53, Try.ntmps53
  go_wp2_with fail
  refine (none_any _).mono ?_
  rintro e w1 ⟨q, rfl, hq, hE⟩
  go_wp2_with fail
  go_ret
  have hA : Ext w1 (w1.alloc (Obj.cells #[.pointer q, .bool false] 99)) := (Below.refl _ _).alloc (Nat.le_refl _) _
  exact ⟨_, rfl, hE.size, ⟨q, Blk.new _ _ _, hq.ext hA⟩, below_ext hE hA⟩

/-- What a get tells. -/
def Mgot (w : World) (r : Option Int) (e : Ending) (w' : World) : Prop :=
  (match r with | some v => e = .returned (.tuple #[.int .i64 v, .bool true]) | none => e = .returned (.tuple #[.int .i64 0, .bool false])) ∧ Ext w w'

theorem mget_any (b : Nat) (s : Th × Bool) (key now : Int) (w : World) (h : isMap w b s) (hs : s.1.sz < 800000000) :
    Calls Try.prog 13 #[.pointer (some ⟨b, 0, none⟩), .int .i64 key, .int .i64 now] w (Mgot w (mget s.1 key now)) := by
  obtain ⟨q, hB, hT⟩ := h
  have b0 := Blk.cell (i := 0) hB rfl
  have HT := Lib.hid hT
  clear hB hT
  go_enter Try.func13, Try.ntmps13
  go_wp2_with fail
  refine (Get_any _ _ _ _ HT.out (by omega)).mono ?_
  rintro e w1 ⟨he, hE⟩
  cases hg : T.get cint key s.1 with
  | none =>
    rw [hg] at he
    obtain rfl := he
    have HG := Lib.hid hg
    clear hg b0
    go_wp2_with fail
    go_ret2
    unfold Mgot mget
    rw [HG.out]
    exact ⟨rfl, by (repeat' (first | assumption | exact Below.refl _ _ | exact below_ext (by assumption) (by assumption) | refine Below.drew ?_ | refine Below.setCell ?_ (by first | exact Nat.le_refl _ | exact Below.size (by assumption) | omega) _ | refine Below.alloc ?_ (by first | exact Nat.le_refl _ | exact Below.size (by assumption) | omega) _))⟩
  | some v =>
    rw [hg] at he
    obtain rfl := he
    have HG := Lib.hid hg
    clear hg b0
    by_cases ho : over v.2 now = true
    · go_wp2_with fail
      refine (over_any _ _ _).mono ?_
      rintro e w' ⟨rfl, rfl⟩
      go_wp2_with fail
      go_ret2
      unfold Mgot mget
      rw [HG.out]
      simp only [ho, if_true]
      exact ⟨rfl, by (repeat' (first | assumption | exact Below.refl _ _ | exact below_ext (by assumption) (by assumption) | refine Below.drew ?_ | refine Below.setCell ?_ (by first | exact Nat.le_refl _ | exact Below.size (by assumption) | omega) _ | refine Below.alloc ?_ (by first | exact Nat.le_refl _ | exact Below.size (by assumption) | omega) _))⟩
    · have ho' : over v.2 now = false := by simpa using ho
      go_wp2_with fail
      refine (over_any _ _ _).mono ?_
      rintro e w' ⟨rfl, rfl⟩
      go_wp2_with fail
      go_ret2
      unfold Mgot mget
      rw [HG.out]
      simp only [ho']
      exact ⟨rfl, by (repeat' (first | assumption | exact Below.refl _ _ | exact below_ext (by assumption) (by assumption) | refine Below.drew ?_ | refine Below.setCell ?_ (by first | exact Nat.le_refl _ | exact Below.size (by assumption) | omega) _ | refine Below.alloc ?_ (by first | exact Nat.le_refl _ | exact Below.size (by assumption) | omega) _))⟩

theorem mget_nil (key now : Int) (w : World) : Calls Try.prog 13 #[.pointer none, .int .i64 key, .int .i64 now] w fun e w' => e = .returned (.tuple #[.int .i64 0, .bool false]) ∧ w = w' := by
  go_enter Try.func13, Try.ntmps13
  go_wp2_with fail
  go_ret2
  exact ⟨rfl, rfl⟩
theorem mlen_nil (w : World) : Calls Try.prog 14 #[.pointer none] w fun e w' => e = .returned (.int .i64 0) ∧ w = w' := by
  go_enter Try.func14, Try.ntmps14
  go_wp2_with fail
  go_ret
  exact ⟨rfl, rfl⟩
theorem mclosed_nil (w : World) : Calls Try.prog 15 #[.pointer none] w fun e w' => e = .returned (.bool false) ∧ w = w' := by
  go_enter Try.func15, Try.ntmps15
  go_wp2_with fail
  go_ret
  exact ⟨rfl, rfl⟩
theorem mclone_nil (w : World) : Calls Try.prog 16 #[.pointer none] w fun e w' => e = .returned (.pointer none) ∧ w = w' := by
  go_enter Try.func16, Try.ntmps16
  go_wp2_with fail
  go_ret
  exact ⟨rfl, rfl⟩
theorem may_nil (c : C) (w : World) : Calls Try.prog 17 #[.pointer none, .agg #[.int .i64 c.cl, .int .i64 c.id, .int .i64 c.kd, .int .i64 c.ky, .int .i64 c.vl, .int .i64 c.co, .int .i64 c.tt, .int .i64 c.be, .int .i64 c.wh, .int .i64 c.en, .int .i64 c.tk, .bool c.ok, .int .i64 c.rv]] w fun e w' => e = .returned (.bool false) ∧ Ext w w' := by
  go_enter Try.func17, Try.ntmps17
  go_wp2_with fail
  go_ret
  exact ⟨rfl, by (repeat' (first | assumption | exact Below.refl _ _ | exact below_ext (by assumption) (by assumption) | refine Below.drew ?_ | refine Below.setCell ?_ (by first | exact Nat.le_refl _ | exact Below.size (by assumption) | omega) _ | refine Below.alloc ?_ (by first | exact Nat.le_refl _ | exact Below.size (by assumption) | omega) _))⟩
theorem do_nil (c : C) (w : World) : Calls Try.prog 18 #[.pointer none, .agg #[.int .i64 c.cl, .int .i64 c.id, .int .i64 c.kd, .int .i64 c.ky, .int .i64 c.vl, .int .i64 c.co, .int .i64 c.tt, .int .i64 c.be, .int .i64 c.wh, .int .i64 c.en, .int .i64 c.tk, .bool c.ok, .int .i64 c.rv]] w fun e w' => e = .returned (.bool false) ∧ Ext w w' := by
  have HP := Lib.hid (show Blk (w.alloc (Obj.cells #[.int .i64 c.cl, .int .i64 c.id, .int .i64 c.kd, .int .i64 c.ky, .int .i64 c.vl, .int .i64 c.co, .int .i64 c.tt, .int .i64 c.be, .int .i64 c.wh, .int .i64 c.en, .int .i64 c.tk, .bool c.ok, .int .i64 c.rv] 32)) w.heap.size #[.int .i64 c.cl, .int .i64 c.id, .int .i64 c.kd, .int .i64 c.ky, .int .i64 c.vl, .int .i64 c.co, .int .i64 c.tt, .int .i64 c.be, .int .i64 c.wh, .int .i64 c.en, .int .i64 c.tk, .bool c.ok, .int .i64 c.rv] 32 from Blk.new _ _ _)
  have p0 := Blk.cell (i := 0) HP.out rfl
  have p1 := Blk.cell (i := 1) HP.out rfl
  have p2 := Blk.cell (i := 2) HP.out rfl
  have p3 := Blk.cell (i := 3) HP.out rfl
  have p4 := Blk.cell (i := 4) HP.out rfl
  have p5 := Blk.cell (i := 5) HP.out rfl
  have p6 := Blk.cell (i := 6) HP.out rfl
  have p7 := Blk.cell (i := 7) HP.out rfl
  have p8 := Blk.cell (i := 8) HP.out rfl
  have p9 := Blk.cell (i := 9) HP.out rfl
  have p10 := Blk.cell (i := 10) HP.out rfl
  have p11 := Blk.cell (i := 11) HP.out rfl
  have p12 := Blk.cell (i := 12) HP.out rfl
  have hA : Ext w (w.alloc (Obj.cells #[.int .i64 c.cl, .int .i64 c.id, .int .i64 c.kd, .int .i64 c.ky, .int .i64 c.vl, .int .i64 c.co, .int .i64 c.tt, .int .i64 c.be, .int .i64 c.wh, .int .i64 c.en, .int .i64 c.tk, .bool c.ok, .int .i64 c.rv] 32)) := (Below.refl _ _).alloc (Nat.le_refl _) _
  have HA := Lib.hid hA
  clear hA
  go_enter Try.func18, Try.ntmps18
  go_wp2_with fail
  refine (may_nil c _).mono ?_
  rintro e w1 ⟨rfl, hE⟩
  go_wp2_with fail
  go_ret
  exact ⟨rfl, below_ext HA.out hE⟩

set_option maxRecDepth 100000 in
theorem must_any (b : Nat) (s : Th × Bool) (c : C) (w : World) (h : isMap w b s) :
    Calls Try.prog 57 #[.pointer (some ⟨b, 0, none⟩), .agg #[.int .i64 c.cl, .int .i64 c.id, .int .i64 c.kd, .int .i64 c.ky, .int .i64 c.vl, .int .i64 c.co, .int .i64 c.tt, .int .i64 c.be, .int .i64 c.wh, .int .i64 c.en, .int .i64 c.tk, .bool c.ok, .int .i64 c.rv]] w fun e w' => e = .returned (.tuple #[.bool (must s.2 c).1, .bool (must s.2 c).2]) ∧ Ext w w' := by
  obtain ⟨q, hB, _⟩ := h
  have hA : Ext w (w.alloc (Obj.cells #[.int .i64 c.cl, .int .i64 c.id, .int .i64 c.kd, .int .i64 c.ky, .int .i64 c.vl, .int .i64 c.co, .int .i64 c.tt, .int .i64 c.be, .int .i64 c.wh, .int .i64 c.en, .int .i64 c.tk, .bool c.ok, .int .i64 c.rv] 32)) := (Below.refl _ _).alloc (Nat.le_refl _) _
  have HP := Lib.hid (show Blk (w.alloc (Obj.cells #[.int .i64 c.cl, .int .i64 c.id, .int .i64 c.kd, .int .i64 c.ky, .int .i64 c.vl, .int .i64 c.co, .int .i64 c.tt, .int .i64 c.be, .int .i64 c.wh, .int .i64 c.en, .int .i64 c.tk, .bool c.ok, .int .i64 c.rv] 32)) w.heap.size #[.int .i64 c.cl, .int .i64 c.id, .int .i64 c.kd, .int .i64 c.ky, .int .i64 c.vl, .int .i64 c.co, .int .i64 c.tt, .int .i64 c.be, .int .i64 c.wh, .int .i64 c.en, .int .i64 c.tk, .bool c.ok, .int .i64 c.rv] 32 from Blk.new _ _ _)

  have b1 := Blk.cell (i := 1) (hB.ext hA) rfl
  have p2 := Blk.cell (i := 2) HP.out rfl
  have p5 := Blk.cell (i := 5) HP.out rfl
  have p6 := Blk.cell (i := 6) HP.out rfl
  clear hB
  cases hcl : s.2 with
  | true =>
    rw [hcl] at b1
    have e : must true c = (c.kd == 6, true) := rfl
    rw [e]
    go_enter Try.func57, Try.ntmps57
    go_wp2_with fail

    go_ret2
    exact ⟨rfl, by (repeat' (first | assumption | exact Below.refl _ _ | exact below_ext (by assumption) (by assumption) | refine Below.drew ?_ | refine Below.setCell ?_ (by first | exact Nat.le_refl _ | exact Below.size (by assumption) | omega) _ | refine Below.alloc ?_ (by first | exact Nat.le_refl _ | exact Below.size (by assumption) | omega) _))⟩
  | false =>
    rw [hcl] at b1
    by_cases h2 : c.kd = 2
    · have d2 : (c.kd == 2) = true := beq_iff_eq.2 h2
      have e : must false c = (false, !right c.co || decide (c.tt < 0)) := by unfold must; rw [if_neg (by decide), if_pos h2]
      cases hr : right c.co with
      | true =>
        rw [hr] at e
        simp only [Bool.not_true, Bool.false_or] at e
        rw [e]
        clear e h2
        go_enter Try.func57, Try.ntmps57
        go_wp2_with fail

        refine wp_region_segs 13 [([3, 10], false), ([9], false)] (by kernel_rfl) (by kernel_rfl) ?_
        apply segs_cons
        · intro W hW
          have p2 := Blk.cell (i := 2) (HP.out.ext hW.of_drew) rfl
          have p5 := Blk.cell (i := 5) (HP.out.ext hW.of_drew) rfl
          have p6 := Blk.cell (i := 6) (HP.out.ext hW.of_drew) rfl
          simp only [runsT, runsF, rep, pick]
          go_wp2_with fail
          exact ⟨rfl, rfl⟩
        simp only [runsT, runsF, rep, left]
        go_wp2_with fail
        refine (right_any _ _).mono ?_
        rintro e w' ⟨rfl, rfl⟩
        go_wp2_with fail
        refine ⟨fun _ => Ext.refl _, ?_⟩
        apply segs_cons
        · intro W hW
          have p2 := Blk.cell (i := 2) (HP.out.ext hW.of_drew) rfl
          have p5 := Blk.cell (i := 5) (HP.out.ext hW.of_drew) rfl
          have p6 := Blk.cell (i := 6) (HP.out.ext hW.of_drew) rfl
          simp only [runsT, runsF, rep, pick]
          go_wp2_with fail
          exact ⟨rfl, rfl⟩
        simp only [runsT, runsF, rep, left]
        go_wp2_with fail
        go_ret2
        exact ⟨rfl, by (repeat' (first | assumption | exact Below.refl _ _ | exact below_ext (by assumption) (by assumption) | refine Below.drew ?_ | refine Below.setCell ?_ (by first | exact Nat.le_refl _ | exact Below.size (by assumption) | omega) _ | refine Below.alloc ?_ (by first | exact Nat.le_refl _ | exact Below.size (by assumption) | omega) _))⟩
      | false =>
        rw [hr] at e
        simp only [Bool.not_false, Bool.true_or] at e
        rw [e]
        clear e h2
        go_enter Try.func57, Try.ntmps57
        go_wp2_with fail

        refine wp_region_segs 13 [([3, 10], false), ([9], false)] (by kernel_rfl) (by kernel_rfl) ?_
        apply segs_cons
        · intro W hW
          have p2 := Blk.cell (i := 2) (HP.out.ext hW.of_drew) rfl
          have p5 := Blk.cell (i := 5) (HP.out.ext hW.of_drew) rfl
          have p6 := Blk.cell (i := 6) (HP.out.ext hW.of_drew) rfl
          simp only [runsT, runsF, rep, pick]
          go_wp2_with fail
          exact ⟨rfl, rfl⟩
        simp only [runsT, runsF, rep, left]
        go_wp2_with fail
        refine (right_any _ _).mono ?_
        rintro e w' ⟨rfl, rfl⟩
        go_wp2_with fail
        refine ⟨fun _ => Ext.refl _, ?_⟩
        apply segs_cons
        · intro W hW
          have p2 := Blk.cell (i := 2) (HP.out.ext hW.of_drew) rfl
          have p5 := Blk.cell (i := 5) (HP.out.ext hW.of_drew) rfl
          have p6 := Blk.cell (i := 6) (HP.out.ext hW.of_drew) rfl
          simp only [runsT, runsF, rep, pick]
          go_wp2_with fail
          exact ⟨rfl, rfl⟩
        simp only [runsT, runsF, rep, left]
        go_wp2_with fail
        go_ret2
        exact ⟨rfl, by (repeat' (first | assumption | exact Below.refl _ _ | exact below_ext (by assumption) (by assumption) | refine Below.drew ?_ | refine Below.setCell ?_ (by first | exact Nat.le_refl _ | exact Below.size (by assumption) | omega) _ | refine Below.alloc ?_ (by first | exact Nat.le_refl _ | exact Below.size (by assumption) | omega) _))⟩
    · have d2 : (c.kd == 2) = false := beq_eq_false_iff_ne.2 h2
      by_cases h7 : c.kd = 7
      · have d7 : (c.kd == 7) = true := beq_iff_eq.2 h7
        have e : must false c = (right c.co, true) := by unfold must; rw [if_neg (by decide), if_neg h2, if_pos h7]
        clear h7
        rw [e]
        go_enter Try.func57, Try.ntmps57
        go_wp2_with fail
        refine (right_any _ _).mono ?_
        rintro e w' ⟨rfl, rfl⟩
        go_wp2_with fail
        go_ret2
        exact ⟨rfl, by (repeat' (first | assumption | exact Below.refl _ _ | exact below_ext (by assumption) (by assumption) | refine Below.drew ?_ | refine Below.setCell ?_ (by first | exact Nat.le_refl _ | exact Below.size (by assumption) | omega) _ | refine Below.alloc ?_ (by first | exact Nat.le_refl _ | exact Below.size (by assumption) | omega) _))⟩
      · have d7 : (c.kd == 7) = false := beq_eq_false_iff_ne.2 h7
        by_cases h1 : c.kd = 1
        · have d1 : (c.kd == 1) = true := beq_iff_eq.2 h1
          have e : must false c = (false, false) := by unfold must; rw [if_neg (by decide), if_neg h2, if_neg h7, if_pos h1]
          clear h1 h2 h7
          rw [e]
          go_enter Try.func57, Try.ntmps57
          go_wp2_with fail

          go_ret2
          exact ⟨rfl, by (repeat' (first | assumption | exact Below.refl _ _ | exact below_ext (by assumption) (by assumption) | refine Below.drew ?_ | refine Below.setCell ?_ (by first | exact Nat.le_refl _ | exact Below.size (by assumption) | omega) _ | refine Below.alloc ?_ (by first | exact Nat.le_refl _ | exact Below.size (by assumption) | omega) _))⟩
        · have d1 : (c.kd == 1) = false := beq_eq_false_iff_ne.2 h1
          have e : must false c = (decide (0 < c.kd) && decide (c.kd < 7), true) := by unfold must; rw [if_neg (by decide), if_neg h2, if_neg h7, if_neg h1]
          clear h1 h2 h7
          by_cases h0 : 0 < c.kd
          · have d0 : decide (0 < c.kd) = true := decide_eq_true h0
            rw [d0, Bool.true_and] at e
            clear h0
            rw [e]
            go_enter Try.func57, Try.ntmps57
            go_wp2_with fail

            go_ret2
            exact ⟨rfl, by (repeat' (first | assumption | exact Below.refl _ _ | exact below_ext (by assumption) (by assumption) | refine Below.drew ?_ | refine Below.setCell ?_ (by first | exact Nat.le_refl _ | exact Below.size (by assumption) | omega) _ | refine Below.alloc ?_ (by first | exact Nat.le_refl _ | exact Below.size (by assumption) | omega) _))⟩
          · have d0 : decide (0 < c.kd) = false := decide_eq_false h0
            rw [d0, Bool.false_and] at e
            clear h0
            rw [e]
            go_enter Try.func57, Try.ntmps57
            go_wp2_with fail

            go_ret2
            exact ⟨rfl, by (repeat' (first | assumption | exact Below.refl _ _ | exact below_ext (by assumption) (by assumption) | refine Below.drew ?_ | refine Below.setCell ?_ (by first | exact Nat.le_refl _ | exact Below.size (by assumption) | omega) _ | refine Below.alloc ?_ (by first | exact Nat.le_refl _ | exact Below.size (by assumption) | omega) _))⟩
end Go.Proofs.Ytlnmnnoibimknab.Lo
