/-
  Package lossy: May, as LossyT says.
-/
import Derived.Test.YtlnmnnoibimknabLossyA
namespace Go.Proofs.Ytlnmnnoibimknab.Lo
open Go.RowKit Go.Seg Go.Open Rk TrTh Lossy

set_option maxRecDepth 100000 in
set_option maxHeartbeats 1000000 in
theorem may_bad (b : Nat) (s : Th × Bool) (c : C) (w : World) (h : isMap w b s) (mo : Bool) (hm : must s.2 c = (mo, true)) (ho : c.ok = !mo) :
    Calls Try.prog 17 #[.pointer (some ⟨b, 0, none⟩), .agg #[.int .i64 c.cl, .int .i64 c.id, .int .i64 c.kd, .int .i64 c.ky, .int .i64 c.vl, .int .i64 c.co, .int .i64 c.tt, .int .i64 c.be, .int .i64 c.wh, .int .i64 c.en, .int .i64 c.tk, .bool c.ok, .int .i64 c.rv]] w fun e w' => e = .returned (.bool false) ∧ Ext w w' := by
  have hA : Ext w (w.alloc (Obj.cells #[.int .i64 c.cl, .int .i64 c.id, .int .i64 c.kd, .int .i64 c.ky, .int .i64 c.vl, .int .i64 c.co, .int .i64 c.tt, .int .i64 c.be, .int .i64 c.wh, .int .i64 c.en, .int .i64 c.tk, .bool c.ok, .int .i64 c.rv] 32)) := (Below.refl _ _).alloc (Nat.le_refl _) _
  have HP := Lib.hid (show Blk (w.alloc (Obj.cells #[.int .i64 c.cl, .int .i64 c.id, .int .i64 c.kd, .int .i64 c.ky, .int .i64 c.vl, .int .i64 c.co, .int .i64 c.tt, .int .i64 c.be, .int .i64 c.wh, .int .i64 c.en, .int .i64 c.tk, .bool c.ok, .int .i64 c.rv] 32)) w.heap.size #[.int .i64 c.cl, .int .i64 c.id, .int .i64 c.kd, .int .i64 c.ky, .int .i64 c.vl, .int .i64 c.co, .int .i64 c.tt, .int .i64 c.be, .int .i64 c.wh, .int .i64 c.en, .int .i64 c.tk, .bool c.ok, .int .i64 c.rv] 32 from Blk.new _ _ _)
  have HM := Lib.hid (h.ext hA)
  have HA := Lib.hid hA
  have HMU := Lib.hid hm
  clear h hA hm
  cases mo
  all_goals
    simp only [Bool.not_true, Bool.not_false] at ho
    have HO := Lib.hid ho
    clear ho
    have p0 := Blk.cell (i := 0) HP.out rfl
    have p1 := Blk.cell (i := 1) HP.out rfl
    have p2 := Blk.cell (i := 2) HP.out rfl
    have p3 := Blk.cell (i := 3) HP.out rfl
    have p4 := Blk.cell (i := 4) HP.out rfl
    have p5 := Blk.cell (i := 5) HP.out rfl
    have p6 := Blk.cell (i := 6) HP.out rfl
    have p7 := Blk.cell (i := 7) HP.out rfl
    have p8 := Blk.cell (i := 8) HP.out rfl
    have p9 := Blk.cell (i := 9) HP.out rfl
    have p10 := Blk.cell (i := 10) HP.out rfl
    have p11 := Blk.cell (i := 11) HP.out rfl
    have p12 := Blk.cell (i := 12) HP.out rfl
    go_enter Try.func17, Try.ntmps17
    go_wp2_with fail
    refine (must_any _ _ c _ HM.out).mono ?_
    rintro e w1 ⟨rfl, hE⟩
    rw [HMU.out]
    clear p0 p1 p2 p3 p4 p5 p6 p7 p8 p9 p10 p11 p12
    have q2 := Blk.cell (i := 2) (HP.out.ext hE) rfl
    have q11 := Blk.cell (i := 11) (HP.out.ext hE) rfl
    have q12 := Blk.cell (i := 12) (HP.out.ext hE) rfl
    rw [HO.out] at q11
    go_wp2_with fail
    go_ret
    exact ⟨rfl, below_ext HA.out hE⟩

set_option maxRecDepth 100000 in
set_option maxHeartbeats 4000000 in
theorem may_zero (b : Nat) (s : Th × Bool) (c : C) (w : World) (h : isMap w b s) (mo ms : Bool) (hm : must s.2 c = (mo, ms)) (hg : ms = false ∨ c.ok = mo) (hz : c.kd ≠ 1 ∨ c.ok = false) :
    Calls Try.prog 17 #[.pointer (some ⟨b, 0, none⟩), .agg #[.int .i64 c.cl, .int .i64 c.id, .int .i64 c.kd, .int .i64 c.ky, .int .i64 c.vl, .int .i64 c.co, .int .i64 c.tt, .int .i64 c.be, .int .i64 c.wh, .int .i64 c.en, .int .i64 c.tk, .bool c.ok, .int .i64 c.rv]] w fun e w' => e = .returned (.bool (c.rv == 0)) ∧ Ext w w' := by
  have hA : Ext w (w.alloc (Obj.cells #[.int .i64 c.cl, .int .i64 c.id, .int .i64 c.kd, .int .i64 c.ky, .int .i64 c.vl, .int .i64 c.co, .int .i64 c.tt, .int .i64 c.be, .int .i64 c.wh, .int .i64 c.en, .int .i64 c.tk, .bool c.ok, .int .i64 c.rv] 32)) := (Below.refl _ _).alloc (Nat.le_refl _) _
  have HP := Lib.hid (show Blk (w.alloc (Obj.cells #[.int .i64 c.cl, .int .i64 c.id, .int .i64 c.kd, .int .i64 c.ky, .int .i64 c.vl, .int .i64 c.co, .int .i64 c.tt, .int .i64 c.be, .int .i64 c.wh, .int .i64 c.en, .int .i64 c.tk, .bool c.ok, .int .i64 c.rv] 32)) w.heap.size #[.int .i64 c.cl, .int .i64 c.id, .int .i64 c.kd, .int .i64 c.ky, .int .i64 c.vl, .int .i64 c.co, .int .i64 c.tt, .int .i64 c.be, .int .i64 c.wh, .int .i64 c.en, .int .i64 c.tk, .bool c.ok, .int .i64 c.rv] 32 from Blk.new _ _ _)
  have HM := Lib.hid (h.ext hA)
  have HA := Lib.hid hA
  have HMU := Lib.hid hm
  clear h hA hm
  by_cases hk : c.kd = 1
  · have d1 : (c.kd != 1) = false := by simp [hk]
    have ho : c.ok = false := hz.resolve_left (fun x => x hk)
    clear hk hz
    cases ms with
    | false =>
      clear hg
      have HO := Lib.hid ho
      clear ho
      have p0 := Blk.cell (i := 0) HP.out rfl
      have p1 := Blk.cell (i := 1) HP.out rfl
      have p2 := Blk.cell (i := 2) HP.out rfl
      have p3 := Blk.cell (i := 3) HP.out rfl
      have p4 := Blk.cell (i := 4) HP.out rfl
      have p5 := Blk.cell (i := 5) HP.out rfl
      have p6 := Blk.cell (i := 6) HP.out rfl
      have p7 := Blk.cell (i := 7) HP.out rfl
      have p8 := Blk.cell (i := 8) HP.out rfl
      have p9 := Blk.cell (i := 9) HP.out rfl
      have p10 := Blk.cell (i := 10) HP.out rfl
      have p11 := Blk.cell (i := 11) HP.out rfl
      have p12 := Blk.cell (i := 12) HP.out rfl
      go_enter Try.func17, Try.ntmps17
      go_wp2_with fail
      refine (must_any _ _ c _ HM.out).mono ?_
      rintro e w1 ⟨rfl, hE⟩
      rw [HMU.out]
      clear p0 p1 p2 p3 p4 p5 p6 p7 p8 p9 p10 p11 p12
      have q2 := Blk.cell (i := 2) (HP.out.ext hE) rfl
      have q11 := Blk.cell (i := 11) (HP.out.ext hE) rfl
      have q12 := Blk.cell (i := 12) (HP.out.ext hE) rfl
      rw [HO.out] at q11
      go_wp2_with fail
      go_ret
      exact ⟨rfl, below_ext HA.out hE⟩
    | true =>
      obtain rfl : mo = false := by rcases hg with x | x; cases x; rw [← x]; exact ho
      clear hg
      have HO := Lib.hid ho
      clear ho
      have p0 := Blk.cell (i := 0) HP.out rfl
      have p1 := Blk.cell (i := 1) HP.out rfl
      have p2 := Blk.cell (i := 2) HP.out rfl
      have p3 := Blk.cell (i := 3) HP.out rfl
      have p4 := Blk.cell (i := 4) HP.out rfl
      have p5 := Blk.cell (i := 5) HP.out rfl
      have p6 := Blk.cell (i := 6) HP.out rfl
      have p7 := Blk.cell (i := 7) HP.out rfl
      have p8 := Blk.cell (i := 8) HP.out rfl
      have p9 := Blk.cell (i := 9) HP.out rfl
      have p10 := Blk.cell (i := 10) HP.out rfl
      have p11 := Blk.cell (i := 11) HP.out rfl
      have p12 := Blk.cell (i := 12) HP.out rfl
      go_enter Try.func17, Try.ntmps17
      go_wp2_with fail
      refine (must_any _ _ c _ HM.out).mono ?_
      rintro e w1 ⟨rfl, hE⟩
      rw [HMU.out]
      clear p0 p1 p2 p3 p4 p5 p6 p7 p8 p9 p10 p11 p12
      have q2 := Blk.cell (i := 2) (HP.out.ext hE) rfl
      have q11 := Blk.cell (i := 11) (HP.out.ext hE) rfl
      have q12 := Blk.cell (i := 12) (HP.out.ext hE) rfl
      rw [HO.out] at q11
      go_wp2_with fail
      go_ret
      exact ⟨rfl, below_ext HA.out hE⟩
  · have d1 : (c.kd != 1) = true := by simp [hk]
    clear hk hz
    cases ms with
    | false =>
      clear hg
      have p0 := Blk.cell (i := 0) HP.out rfl
      have p1 := Blk.cell (i := 1) HP.out rfl
      have p2 := Blk.cell (i := 2) HP.out rfl
      have p3 := Blk.cell (i := 3) HP.out rfl
      have p4 := Blk.cell (i := 4) HP.out rfl
      have p5 := Blk.cell (i := 5) HP.out rfl
      have p6 := Blk.cell (i := 6) HP.out rfl
      have p7 := Blk.cell (i := 7) HP.out rfl
      have p8 := Blk.cell (i := 8) HP.out rfl
      have p9 := Blk.cell (i := 9) HP.out rfl
      have p10 := Blk.cell (i := 10) HP.out rfl
      have p11 := Blk.cell (i := 11) HP.out rfl
      have p12 := Blk.cell (i := 12) HP.out rfl
      go_enter Try.func17, Try.ntmps17
      go_wp2_with fail
      refine (must_any _ _ c _ HM.out).mono ?_
      rintro e w1 ⟨rfl, hE⟩
      rw [HMU.out]
      clear p0 p1 p2 p3 p4 p5 p6 p7 p8 p9 p10 p11 p12
      have q2 := Blk.cell (i := 2) (HP.out.ext hE) rfl
      have q11 := Blk.cell (i := 11) (HP.out.ext hE) rfl
      have q12 := Blk.cell (i := 12) (HP.out.ext hE) rfl

      go_wp2_with fail
      go_ret
      exact ⟨rfl, below_ext HA.out hE⟩
    | true =>
      by_cases ho : c.ok = false
      · obtain rfl : mo = false := by rcases hg with x | x; cases x; rw [← x]; exact ho
        clear hg
        have HO := Lib.hid ho
        clear ho
        have p0 := Blk.cell (i := 0) HP.out rfl
        have p1 := Blk.cell (i := 1) HP.out rfl
        have p2 := Blk.cell (i := 2) HP.out rfl
        have p3 := Blk.cell (i := 3) HP.out rfl
        have p4 := Blk.cell (i := 4) HP.out rfl
        have p5 := Blk.cell (i := 5) HP.out rfl
        have p6 := Blk.cell (i := 6) HP.out rfl
        have p7 := Blk.cell (i := 7) HP.out rfl
        have p8 := Blk.cell (i := 8) HP.out rfl
        have p9 := Blk.cell (i := 9) HP.out rfl
        have p10 := Blk.cell (i := 10) HP.out rfl
        have p11 := Blk.cell (i := 11) HP.out rfl
        have p12 := Blk.cell (i := 12) HP.out rfl
        go_enter Try.func17, Try.ntmps17
        go_wp2_with fail
        refine (must_any _ _ c _ HM.out).mono ?_
        rintro e w1 ⟨rfl, hE⟩
        rw [HMU.out]
        clear p0 p1 p2 p3 p4 p5 p6 p7 p8 p9 p10 p11 p12
        have q2 := Blk.cell (i := 2) (HP.out.ext hE) rfl
        have q11 := Blk.cell (i := 11) (HP.out.ext hE) rfl
        have q12 := Blk.cell (i := 12) (HP.out.ext hE) rfl
        rw [HO.out] at q11
        go_wp2_with fail
        go_ret
        exact ⟨rfl, below_ext HA.out hE⟩
      · replace ho : c.ok = true := by simpa using ho
        obtain rfl : mo = true := by rcases hg with x | x; cases x; rw [← x]; exact ho
        clear hg
        have HO := Lib.hid ho
        clear ho
        have p0 := Blk.cell (i := 0) HP.out rfl
        have p1 := Blk.cell (i := 1) HP.out rfl
        have p2 := Blk.cell (i := 2) HP.out rfl
        have p3 := Blk.cell (i := 3) HP.out rfl
        have p4 := Blk.cell (i := 4) HP.out rfl
        have p5 := Blk.cell (i := 5) HP.out rfl
        have p6 := Blk.cell (i := 6) HP.out rfl
        have p7 := Blk.cell (i := 7) HP.out rfl
        have p8 := Blk.cell (i := 8) HP.out rfl
        have p9 := Blk.cell (i := 9) HP.out rfl
        have p10 := Blk.cell (i := 10) HP.out rfl
        have p11 := Blk.cell (i := 11) HP.out rfl
        have p12 := Blk.cell (i := 12) HP.out rfl
        go_enter Try.func17, Try.ntmps17
        go_wp2_with fail
        refine (must_any _ _ c _ HM.out).mono ?_
        rintro e w1 ⟨rfl, hE⟩
        rw [HMU.out]
        clear p0 p1 p2 p3 p4 p5 p6 p7 p8 p9 p10 p11 p12
        have q2 := Blk.cell (i := 2) (HP.out.ext hE) rfl
        have q11 := Blk.cell (i := 11) (HP.out.ext hE) rfl
        have q12 := Blk.cell (i := 12) (HP.out.ext hE) rfl
        rw [HO.out] at q11
        go_wp2_with fail
        go_ret
        exact ⟨rfl, below_ext HA.out hE⟩

set_option maxRecDepth 100000 in
set_option maxHeartbeats 4000000 in
theorem may_get (b : Nat) (s : Th × Bool) (c : C) (w : World) (h : isMap w b s) (hs : s.1.sz < 800000000) (mo ms : Bool) (hm : must s.2 c = (mo, ms)) (hg : ms = false ∨ c.ok = mo) (hk : c.kd = 1) (ho : c.ok = true) :
    Calls Try.prog 17 #[.pointer (some ⟨b, 0, none⟩), .agg #[.int .i64 c.cl, .int .i64 c.id, .int .i64 c.kd, .int .i64 c.ky, .int .i64 c.vl, .int .i64 c.co, .int .i64 c.tt, .int .i64 c.be, .int .i64 c.wh, .int .i64 c.en, .int .i64 c.tk, .bool c.ok, .int .i64 c.rv]] w fun e w' => e = .returned (.bool (mhit s.1 c)) ∧ Ext w w' := by
  have hA : Ext w (w.alloc (Obj.cells #[.int .i64 c.cl, .int .i64 c.id, .int .i64 c.kd, .int .i64 c.ky, .int .i64 c.vl, .int .i64 c.co, .int .i64 c.tt, .int .i64 c.be, .int .i64 c.wh, .int .i64 c.en, .int .i64 c.tk, .bool c.ok, .int .i64 c.rv] 32)) := (Below.refl _ _).alloc (Nat.le_refl _) _
  have HP := Lib.hid (show Blk (w.alloc (Obj.cells #[.int .i64 c.cl, .int .i64 c.id, .int .i64 c.kd, .int .i64 c.ky, .int .i64 c.vl, .int .i64 c.co, .int .i64 c.tt, .int .i64 c.be, .int .i64 c.wh, .int .i64 c.en, .int .i64 c.tk, .bool c.ok, .int .i64 c.rv] 32)) w.heap.size #[.int .i64 c.cl, .int .i64 c.id, .int .i64 c.kd, .int .i64 c.ky, .int .i64 c.vl, .int .i64 c.co, .int .i64 c.tt, .int .i64 c.be, .int .i64 c.wh, .int .i64 c.en, .int .i64 c.tk, .bool c.ok, .int .i64 c.rv] 32 from Blk.new _ _ _)
  have HM := Lib.hid (h.ext hA)
  have HA := Lib.hid hA
  have HMU := Lib.hid hm
  clear h hA hm
  have d1 : (c.kd != 1) = false := by simp [hk]
  clear hk
  cases ms with
  | false =>
    clear hg
    have HO := Lib.hid ho
    clear ho
    have p0 := Blk.cell (i := 0) HP.out rfl
    have p1 := Blk.cell (i := 1) HP.out rfl
    have p2 := Blk.cell (i := 2) HP.out rfl
    have p3 := Blk.cell (i := 3) HP.out rfl
    have p4 := Blk.cell (i := 4) HP.out rfl
    have p5 := Blk.cell (i := 5) HP.out rfl
    have p6 := Blk.cell (i := 6) HP.out rfl
    have p7 := Blk.cell (i := 7) HP.out rfl
    have p8 := Blk.cell (i := 8) HP.out rfl
    have p9 := Blk.cell (i := 9) HP.out rfl
    have p10 := Blk.cell (i := 10) HP.out rfl
    have p11 := Blk.cell (i := 11) HP.out rfl
    have p12 := Blk.cell (i := 12) HP.out rfl
    go_enter Try.func17, Try.ntmps17
    go_wp2_with fail
    refine (must_any _ _ c _ HM.out).mono ?_
    rintro e w1 ⟨rfl, hE⟩
    rw [HMU.out]
    clear p0 p1 p2 p3 p4 p5 p6 p7 p8 p9 p10 p11 p12
    have q2 := Blk.cell (i := 2) (HP.out.ext hE) rfl
    have q3 := Blk.cell (i := 3) (HP.out.ext hE) rfl
    have q10 := Blk.cell (i := 10) (HP.out.ext hE) rfl
    have q11 := Blk.cell (i := 11) (HP.out.ext hE) rfl
    have q12 := Blk.cell (i := 12) (HP.out.ext hE) rfl
    rw [HO.out] at q11
    go_wp2_with fail
    refine (mget_any _ _ _ _ _ (HM.out.ext hE) hs).mono ?_
    rintro e w2 ⟨he, hE2⟩
    have r12 := Blk.cell (i := 12) ((HP.out.ext hE).ext hE2) rfl
    cases hg : mget s.1 c.ky c.tk with
    | none =>
      rw [hg] at he
      obtain rfl := he
      have HG := Lib.hid hg
      clear hg
      go_wp2_with fail
      go_ret
      exact ⟨by unfold mhit; rw [HG.out]; rfl, below_ext (below_ext HA.out hE) hE2⟩
    | some v =>
      rw [hg] at he
      obtain rfl := he
      have HG := Lib.hid hg
      clear hg
      go_wp2_with fail
      go_ret
      exact ⟨by unfold mhit; rw [HG.out]; rfl, below_ext (below_ext HA.out hE) hE2⟩
  | true =>
    obtain rfl : mo = true := by rcases hg with x | x; cases x; rw [← x]; exact ho
    clear hg
    have HO := Lib.hid ho
    clear ho
    have p0 := Blk.cell (i := 0) HP.out rfl
    have p1 := Blk.cell (i := 1) HP.out rfl
    have p2 := Blk.cell (i := 2) HP.out rfl
    have p3 := Blk.cell (i := 3) HP.out rfl
    have p4 := Blk.cell (i := 4) HP.out rfl
    have p5 := Blk.cell (i := 5) HP.out rfl
    have p6 := Blk.cell (i := 6) HP.out rfl
    have p7 := Blk.cell (i := 7) HP.out rfl
    have p8 := Blk.cell (i := 8) HP.out rfl
    have p9 := Blk.cell (i := 9) HP.out rfl
    have p10 := Blk.cell (i := 10) HP.out rfl
    have p11 := Blk.cell (i := 11) HP.out rfl
    have p12 := Blk.cell (i := 12) HP.out rfl
    go_enter Try.func17, Try.ntmps17
    go_wp2_with fail
    refine (must_any _ _ c _ HM.out).mono ?_
    rintro e w1 ⟨rfl, hE⟩
    rw [HMU.out]
    clear p0 p1 p2 p3 p4 p5 p6 p7 p8 p9 p10 p11 p12
    have q2 := Blk.cell (i := 2) (HP.out.ext hE) rfl
    have q3 := Blk.cell (i := 3) (HP.out.ext hE) rfl
    have q10 := Blk.cell (i := 10) (HP.out.ext hE) rfl
    have q11 := Blk.cell (i := 11) (HP.out.ext hE) rfl
    have q12 := Blk.cell (i := 12) (HP.out.ext hE) rfl
    rw [HO.out] at q11
    go_wp2_with fail
    refine (mget_any _ _ _ _ _ (HM.out.ext hE) hs).mono ?_
    rintro e w2 ⟨he, hE2⟩
    have r12 := Blk.cell (i := 12) ((HP.out.ext hE).ext hE2) rfl
    cases hg : mget s.1 c.ky c.tk with
    | none =>
      rw [hg] at he
      obtain rfl := he
      have HG := Lib.hid hg
      clear hg
      go_wp2_with fail
      go_ret
      exact ⟨by unfold mhit; rw [HG.out]; rfl, below_ext (below_ext HA.out hE) hE2⟩
    | some v =>
      rw [hg] at he
      obtain rfl := he
      have HG := Lib.hid hg
      clear hg
      go_wp2_with fail
      go_ret
      exact ⟨by unfold mhit; rw [HG.out]; rfl, below_ext (below_ext HA.out hE) hE2⟩

theorem may_any (b : Nat) (s : Th × Bool) (c : C) (w : World) (h : isMap w b s) (hs : s.1.sz < 800000000) :
    Calls Try.prog 17 #[.pointer (some ⟨b, 0, none⟩), .agg #[.int .i64 c.cl, .int .i64 c.id, .int .i64 c.kd, .int .i64 c.ky, .int .i64 c.vl, .int .i64 c.co, .int .i64 c.tt, .int .i64 c.be, .int .i64 c.wh, .int .i64 c.en, .int .i64 c.tk, .bool c.ok, .int .i64 c.rv]] w fun e w' => e = .returned (.bool (may s.1 s.2 c)) ∧ Ext w w' := by
  rcases hm : must s.2 c with ⟨mo, ms⟩
  by_cases hbad : ms = true ∧ (c.ok != mo) = true
  · have e : may s.1 s.2 c = false := by unfold may; rw [hm, if_pos hbad]
    rw [e]
    obtain ⟨rfl, hb⟩ := hbad
    exact may_bad b s c w h mo hm (by cases mo <;> simpa using hb)
  · have hg : ms = false ∨ c.ok = mo := by
      cases ms with
      | false => exact .inl rfl
      | true => exact .inr (by have x : ¬ (c.ok != mo) = true := fun x => hbad ⟨rfl, x⟩; simpa using x)
    by_cases hz : c.kd ≠ 1 ∨ c.ok = false
    · have e : may s.1 s.2 c = (c.rv == 0) := by unfold may; rw [hm, if_neg hbad, if_pos hz]
      rw [e]
      exact may_zero b s c w h mo ms hm hg hz
    · have e : may s.1 s.2 c = (mhit s.1 c) := by unfold may; rw [hm, if_neg hbad, if_neg hz]
      rw [e]
      exact may_get b s c w h hs mo ms hm hg (by by_cases x : c.kd = 1; exact x; exact absurd (.inl x) hz) (by cases x : c.ok; exact absurd (.inr x) hz; rfl)

end Go.Proofs.Ytlnmnnoibimknab.Lo
