/-
  Package lossy: May, as LossyT says.
  Package lossy: Do, as LossyT says.
  Search: rows of places of one's own: grown, cut, copied; a map's copy. At most 60 places; no other condition.
  Search: the document's clock and costs, and what a lossy map may answer behind other calls: Closed, There, Get. At most 60 calls; no other condition.
  Search: what a key has behind calls, by the document. At most 60 calls; no other condition.
  Search: what a get finds behind calls, and what a call may answer, by the document. At most 60 calls; no other condition.
-/
import Derived.Test.YtdfbfcglacalmaaM5
import Derived.Test.YtdfbfcglacalmaaM4
import Derived.Lib.BufferMore
section
namespace Go.Proofs.Ytdfbfcglacalmaa.Lo
open Go.RowKit Go.Seg Go.Open Rk TrTh Lossy

set_option maxRecDepth 100000 in
set_option maxHeartbeats 1000000 in
theorem may_bad (b : Nat) (s : Th × Bool) (c : C) (w : World) (h : isMap w b s) (mo : Bool) (hm : must s.2 c = (mo, true)) (ho : c.ok = !mo) :
    Calls Try.prog 40 #[.pointer (some ⟨b, 0, none⟩), .agg #[.int .i64 c.cl, .int .i64 c.id, .int .i64 c.kd, .int .i64 c.ky, .int .i64 c.vl, .int .i64 c.co, .int .i64 c.tt, .int .i64 c.be, .int .i64 c.wh, .int .i64 c.en, .int .i64 c.tk, .bool c.ok, .int .i64 c.rv]] w fun e w' => e = .returned (.bool false) ∧ Ext w w' := by
  have hA : Ext w (w.alloc (Obj.cells #[.int .i64 c.cl, .int .i64 c.id, .int .i64 c.kd, .int .i64 c.ky, .int .i64 c.vl, .int .i64 c.co, .int .i64 c.tt, .int .i64 c.be, .int .i64 c.wh, .int .i64 c.en, .int .i64 c.tk, .bool c.ok, .int .i64 c.rv] 41)) := (Below.refl _ _).alloc (Nat.le_refl _) _
  have HP := Lib.hid (show Blk (w.alloc (Obj.cells #[.int .i64 c.cl, .int .i64 c.id, .int .i64 c.kd, .int .i64 c.ky, .int .i64 c.vl, .int .i64 c.co, .int .i64 c.tt, .int .i64 c.be, .int .i64 c.wh, .int .i64 c.en, .int .i64 c.tk, .bool c.ok, .int .i64 c.rv] 41)) w.heap.size #[.int .i64 c.cl, .int .i64 c.id, .int .i64 c.kd, .int .i64 c.ky, .int .i64 c.vl, .int .i64 c.co, .int .i64 c.tt, .int .i64 c.be, .int .i64 c.wh, .int .i64 c.en, .int .i64 c.tk, .bool c.ok, .int .i64 c.rv] 41 from Blk.new _ _ _)
  have HM := Lib.hid (h.ext hA)
  have HA := Lib.hid hA
  have HMU := Lib.hid hm
  clear h hA hm
  cases mo
  all_goals
    simp only [Bool.not_true, Bool.not_false] at ho
    have HO := Lib.hid ho
    clear ho
    have p0 := Blk.cell (i := 0) HP.out rfl
    have p1 := Blk.cell (i := 1) HP.out rfl
    have p2 := Blk.cell (i := 2) HP.out rfl
    have p3 := Blk.cell (i := 3) HP.out rfl
    have p4 := Blk.cell (i := 4) HP.out rfl
    have p5 := Blk.cell (i := 5) HP.out rfl
    have p6 := Blk.cell (i := 6) HP.out rfl
    have p7 := Blk.cell (i := 7) HP.out rfl
    have p8 := Blk.cell (i := 8) HP.out rfl
    have p9 := Blk.cell (i := 9) HP.out rfl
    have p10 := Blk.cell (i := 10) HP.out rfl
    have p11 := Blk.cell (i := 11) HP.out rfl
    have p12 := Blk.cell (i := 12) HP.out rfl
    go_enter Try.func40, Try.ntmps40
    go_wp2_with fail
    refine (must_any _ _ c _ HM.out).mono ?_
    rintro e w1 ⟨rfl, hE⟩
    rw [HMU.out]
    clear p0 p1 p2 p3 p4 p5 p6 p7 p8 p9 p10 p11 p12
    have q2 := Blk.cell (i := 2) (HP.out.ext hE) rfl
    have q11 := Blk.cell (i := 11) (HP.out.ext hE) rfl
    have q12 := Blk.cell (i := 12) (HP.out.ext hE) rfl
    rw [HO.out] at q11
    go_wp2_with fail
    go_ret
    exact ⟨rfl, below_ext HA.out hE⟩

set_option maxRecDepth 100000 in
set_option maxHeartbeats 4000000 in
theorem may_zero (b : Nat) (s : Th × Bool) (c : C) (w : World) (h : isMap w b s) (mo ms : Bool) (hm : must s.2 c = (mo, ms)) (hg : ms = false ∨ c.ok = mo) (hz : c.kd ≠ 1 ∨ c.ok = false) :
    Calls Try.prog 40 #[.pointer (some ⟨b, 0, none⟩), .agg #[.int .i64 c.cl, .int .i64 c.id, .int .i64 c.kd, .int .i64 c.ky, .int .i64 c.vl, .int .i64 c.co, .int .i64 c.tt, .int .i64 c.be, .int .i64 c.wh, .int .i64 c.en, .int .i64 c.tk, .bool c.ok, .int .i64 c.rv]] w fun e w' => e = .returned (.bool (c.rv == 0)) ∧ Ext w w' := by
  have hA : Ext w (w.alloc (Obj.cells #[.int .i64 c.cl, .int .i64 c.id, .int .i64 c.kd, .int .i64 c.ky, .int .i64 c.vl, .int .i64 c.co, .int .i64 c.tt, .int .i64 c.be, .int .i64 c.wh, .int .i64 c.en, .int .i64 c.tk, .bool c.ok, .int .i64 c.rv] 41)) := (Below.refl _ _).alloc (Nat.le_refl _) _
  have HP := Lib.hid (show Blk (w.alloc (Obj.cells #[.int .i64 c.cl, .int .i64 c.id, .int .i64 c.kd, .int .i64 c.ky, .int .i64 c.vl, .int .i64 c.co, .int .i64 c.tt, .int .i64 c.be, .int .i64 c.wh, .int .i64 c.en, .int .i64 c.tk, .bool c.ok, .int .i64 c.rv] 41)) w.heap.size #[.int .i64 c.cl, .int .i64 c.id, .int .i64 c.kd, .int .i64 c.ky, .int .i64 c.vl, .int .i64 c.co, .int .i64 c.tt, .int .i64 c.be, .int .i64 c.wh, .int .i64 c.en, .int .i64 c.tk, .bool c.ok, .int .i64 c.rv] 41 from Blk.new _ _ _)
  have HM := Lib.hid (h.ext hA)
  have HA := Lib.hid hA
  have HMU := Lib.hid hm
  clear h hA hm
  by_cases hk : c.kd = 1
  · have d1 : (c.kd != 1) = false := by simp [hk]
    have ho : c.ok = false := hz.resolve_left (fun x => x hk)
    clear hk hz
    cases ms with
    | false =>
      clear hg
      have HO := Lib.hid ho
      clear ho
      have p0 := Blk.cell (i := 0) HP.out rfl
      have p1 := Blk.cell (i := 1) HP.out rfl
      have p2 := Blk.cell (i := 2) HP.out rfl
      have p3 := Blk.cell (i := 3) HP.out rfl
      have p4 := Blk.cell (i := 4) HP.out rfl
      have p5 := Blk.cell (i := 5) HP.out rfl
      have p6 := Blk.cell (i := 6) HP.out rfl
      have p7 := Blk.cell (i := 7) HP.out rfl
      have p8 := Blk.cell (i := 8) HP.out rfl
      have p9 := Blk.cell (i := 9) HP.out rfl
      have p10 := Blk.cell (i := 10) HP.out rfl
      have p11 := Blk.cell (i := 11) HP.out rfl
      have p12 := Blk.cell (i := 12) HP.out rfl
      go_enter Try.func40, Try.ntmps40
      go_wp2_with fail
      refine (must_any _ _ c _ HM.out).mono ?_
      rintro e w1 ⟨rfl, hE⟩
      rw [HMU.out]
      clear p0 p1 p2 p3 p4 p5 p6 p7 p8 p9 p10 p11 p12
      have q2 := Blk.cell (i := 2) (HP.out.ext hE) rfl
      have q11 := Blk.cell (i := 11) (HP.out.ext hE) rfl
      have q12 := Blk.cell (i := 12) (HP.out.ext hE) rfl
      rw [HO.out] at q11
      go_wp2_with fail
      go_ret
      exact ⟨rfl, below_ext HA.out hE⟩
    | true =>
      obtain rfl : mo = false := by rcases hg with x | x; cases x; rw [← x]; exact ho
      clear hg
      have HO := Lib.hid ho
      clear ho
      have p0 := Blk.cell (i := 0) HP.out rfl
      have p1 := Blk.cell (i := 1) HP.out rfl
      have p2 := Blk.cell (i := 2) HP.out rfl
      have p3 := Blk.cell (i := 3) HP.out rfl
      have p4 := Blk.cell (i := 4) HP.out rfl
      have p5 := Blk.cell (i := 5) HP.out rfl
      have p6 := Blk.cell (i := 6) HP.out rfl
      have p7 := Blk.cell (i := 7) HP.out rfl
      have p8 := Blk.cell (i := 8) HP.out rfl
      have p9 := Blk.cell (i := 9) HP.out rfl
      have p10 := Blk.cell (i := 10) HP.out rfl
      have p11 := Blk.cell (i := 11) HP.out rfl
      have p12 := Blk.cell (i := 12) HP.out rfl
      go_enter Try.func40, Try.ntmps40
      go_wp2_with fail
      refine (must_any _ _ c _ HM.out).mono ?_
      rintro e w1 ⟨rfl, hE⟩
      rw [HMU.out]
      clear p0 p1 p2 p3 p4 p5 p6 p7 p8 p9 p10 p11 p12
      have q2 := Blk.cell (i := 2) (HP.out.ext hE) rfl
      have q11 := Blk.cell (i := 11) (HP.out.ext hE) rfl
      have q12 := Blk.cell (i := 12) (HP.out.ext hE) rfl
      rw [HO.out] at q11
      go_wp2_with fail
      go_ret
      exact ⟨rfl, below_ext HA.out hE⟩
  · have d1 : (c.kd != 1) = true := by simp [hk]
    clear hk hz
    cases ms with
    | false =>
      clear hg
      have p0 := Blk.cell (i := 0) HP.out rfl
      have p1 := Blk.cell (i := 1) HP.out rfl
      have p2 := Blk.cell (i := 2) HP.out rfl
      have p3 := Blk.cell (i := 3) HP.out rfl
      have p4 := Blk.cell (i := 4) HP.out rfl
      have p5 := Blk.cell (i := 5) HP.out rfl
      have p6 := Blk.cell (i := 6) HP.out rfl
      have p7 := Blk.cell (i := 7) HP.out rfl
      have p8 := Blk.cell (i := 8) HP.out rfl
      have p9 := Blk.cell (i := 9) HP.out rfl
      have p10 := Blk.cell (i := 10) HP.out rfl
      have p11 := Blk.cell (i := 11) HP.out rfl
      have p12 := Blk.cell (i := 12) HP.out rfl
      go_enter Try.func40, Try.ntmps40
      go_wp2_with fail
      refine (must_any _ _ c _ HM.out).mono ?_
      rintro e w1 ⟨rfl, hE⟩
      rw [HMU.out]
      clear p0 p1 p2 p3 p4 p5 p6 p7 p8 p9 p10 p11 p12
      have q2 := Blk.cell (i := 2) (HP.out.ext hE) rfl
      have q11 := Blk.cell (i := 11) (HP.out.ext hE) rfl
      have q12 := Blk.cell (i := 12) (HP.out.ext hE) rfl

      go_wp2_with fail
      go_ret
      exact ⟨rfl, below_ext HA.out hE⟩
    | true =>
      by_cases ho : c.ok = false
      · obtain rfl : mo = false := by rcases hg with x | x; cases x; rw [← x]; exact ho
        clear hg
        have HO := Lib.hid ho
        clear ho
        have p0 := Blk.cell (i := 0) HP.out rfl
        have p1 := Blk.cell (i := 1) HP.out rfl
        have p2 := Blk.cell (i := 2) HP.out rfl
        have p3 := Blk.cell (i := 3) HP.out rfl
        have p4 := Blk.cell (i := 4) HP.out rfl
        have p5 := Blk.cell (i := 5) HP.out rfl
        have p6 := Blk.cell (i := 6) HP.out rfl
        have p7 := Blk.cell (i := 7) HP.out rfl
        have p8 := Blk.cell (i := 8) HP.out rfl
        have p9 := Blk.cell (i := 9) HP.out rfl
        have p10 := Blk.cell (i := 10) HP.out rfl
        have p11 := Blk.cell (i := 11) HP.out rfl
        have p12 := Blk.cell (i := 12) HP.out rfl
        go_enter Try.func40, Try.ntmps40
        go_wp2_with fail
        refine (must_any _ _ c _ HM.out).mono ?_
        rintro e w1 ⟨rfl, hE⟩
        rw [HMU.out]
        clear p0 p1 p2 p3 p4 p5 p6 p7 p8 p9 p10 p11 p12
        have q2 := Blk.cell (i := 2) (HP.out.ext hE) rfl
        have q11 := Blk.cell (i := 11) (HP.out.ext hE) rfl
        have q12 := Blk.cell (i := 12) (HP.out.ext hE) rfl
        rw [HO.out] at q11
        go_wp2_with fail
        go_ret
        exact ⟨rfl, below_ext HA.out hE⟩
      · replace ho : c.ok = true := by simpa using ho
        obtain rfl : mo = true := by rcases hg with x | x; cases x; rw [← x]; exact ho
        clear hg
        have HO := Lib.hid ho
        clear ho
        have p0 := Blk.cell (i := 0) HP.out rfl
        have p1 := Blk.cell (i := 1) HP.out rfl
        have p2 := Blk.cell (i := 2) HP.out rfl
        have p3 := Blk.cell (i := 3) HP.out rfl
        have p4 := Blk.cell (i := 4) HP.out rfl
        have p5 := Blk.cell (i := 5) HP.out rfl
        have p6 := Blk.cell (i := 6) HP.out rfl
        have p7 := Blk.cell (i := 7) HP.out rfl
        have p8 := Blk.cell (i := 8) HP.out rfl
        have p9 := Blk.cell (i := 9) HP.out rfl
        have p10 := Blk.cell (i := 10) HP.out rfl
        have p11 := Blk.cell (i := 11) HP.out rfl
        have p12 := Blk.cell (i := 12) HP.out rfl
        go_enter Try.func40, Try.ntmps40
        go_wp2_with fail
        refine (must_any _ _ c _ HM.out).mono ?_
        rintro e w1 ⟨rfl, hE⟩
        rw [HMU.out]
        clear p0 p1 p2 p3 p4 p5 p6 p7 p8 p9 p10 p11 p12
        have q2 := Blk.cell (i := 2) (HP.out.ext hE) rfl
        have q11 := Blk.cell (i := 11) (HP.out.ext hE) rfl
        have q12 := Blk.cell (i := 12) (HP.out.ext hE) rfl
        rw [HO.out] at q11
        go_wp2_with fail
        go_ret
        exact ⟨rfl, below_ext HA.out hE⟩

set_option maxRecDepth 100000 in
set_option maxHeartbeats 4000000 in
theorem may_get (b : Nat) (s : Th × Bool) (c : C) (w : World) (h : isMap w b s) (hs : s.1.sz < 800000000) (mo ms : Bool) (hm : must s.2 c = (mo, ms)) (hg : ms = false ∨ c.ok = mo) (hk : c.kd = 1) (ho : c.ok = true) :
    Calls Try.prog 40 #[.pointer (some ⟨b, 0, none⟩), .agg #[.int .i64 c.cl, .int .i64 c.id, .int .i64 c.kd, .int .i64 c.ky, .int .i64 c.vl, .int .i64 c.co, .int .i64 c.tt, .int .i64 c.be, .int .i64 c.wh, .int .i64 c.en, .int .i64 c.tk, .bool c.ok, .int .i64 c.rv]] w fun e w' => e = .returned (.bool (mhit s.1 c)) ∧ Ext w w' := by
  have hA : Ext w (w.alloc (Obj.cells #[.int .i64 c.cl, .int .i64 c.id, .int .i64 c.kd, .int .i64 c.ky, .int .i64 c.vl, .int .i64 c.co, .int .i64 c.tt, .int .i64 c.be, .int .i64 c.wh, .int .i64 c.en, .int .i64 c.tk, .bool c.ok, .int .i64 c.rv] 41)) := (Below.refl _ _).alloc (Nat.le_refl _) _
  have HP := Lib.hid (show Blk (w.alloc (Obj.cells #[.int .i64 c.cl, .int .i64 c.id, .int .i64 c.kd, .int .i64 c.ky, .int .i64 c.vl, .int .i64 c.co, .int .i64 c.tt, .int .i64 c.be, .int .i64 c.wh, .int .i64 c.en, .int .i64 c.tk, .bool c.ok, .int .i64 c.rv] 41)) w.heap.size #[.int .i64 c.cl, .int .i64 c.id, .int .i64 c.kd, .int .i64 c.ky, .int .i64 c.vl, .int .i64 c.co, .int .i64 c.tt, .int .i64 c.be, .int .i64 c.wh, .int .i64 c.en, .int .i64 c.tk, .bool c.ok, .int .i64 c.rv] 41 from Blk.new _ _ _)
  have HM := Lib.hid (h.ext hA)
  have HA := Lib.hid hA
  have HMU := Lib.hid hm
  clear h hA hm
  have d1 : (c.kd != 1) = false := by simp [hk]
  clear hk
  cases ms with
  | false =>
    clear hg
    have HO := Lib.hid ho
    clear ho
    have p0 := Blk.cell (i := 0) HP.out rfl
    have p1 := Blk.cell (i := 1) HP.out rfl
    have p2 := Blk.cell (i := 2) HP.out rfl
    have p3 := Blk.cell (i := 3) HP.out rfl
    have p4 := Blk.cell (i := 4) HP.out rfl
    have p5 := Blk.cell (i := 5) HP.out rfl
    have p6 := Blk.cell (i := 6) HP.out rfl
    have p7 := Blk.cell (i := 7) HP.out rfl
    have p8 := Blk.cell (i := 8) HP.out rfl
    have p9 := Blk.cell (i := 9) HP.out rfl
    have p10 := Blk.cell (i := 10) HP.out rfl
    have p11 := Blk.cell (i := 11) HP.out rfl
    have p12 := Blk.cell (i := 12) HP.out rfl
    go_enter Try.func40, Try.ntmps40
    go_wp2_with fail
    refine (must_any _ _ c _ HM.out).mono ?_
    rintro e w1 ⟨rfl, hE⟩
    rw [HMU.out]
    clear p0 p1 p2 p3 p4 p5 p6 p7 p8 p9 p10 p11 p12
    have q2 := Blk.cell (i := 2) (HP.out.ext hE) rfl
    have q3 := Blk.cell (i := 3) (HP.out.ext hE) rfl
    have q10 := Blk.cell (i := 10) (HP.out.ext hE) rfl
    have q11 := Blk.cell (i := 11) (HP.out.ext hE) rfl
    have q12 := Blk.cell (i := 12) (HP.out.ext hE) rfl
    rw [HO.out] at q11
    go_wp2_with fail
    refine (mget_any _ _ _ _ _ (HM.out.ext hE) hs).mono ?_
    rintro e w2 ⟨he, hE2⟩
    have r12 := Blk.cell (i := 12) ((HP.out.ext hE).ext hE2) rfl
    cases hg : mget s.1 c.ky c.tk with
    | none =>
      rw [hg] at he
      obtain rfl := he
      have HG := Lib.hid hg
      clear hg
      go_wp2_with fail
      go_ret
      exact ⟨by unfold mhit; rw [HG.out]; rfl, below_ext (below_ext HA.out hE) hE2⟩
    | some v =>
      rw [hg] at he
      obtain rfl := he
      have HG := Lib.hid hg
      clear hg
      go_wp2_with fail
      go_ret
      exact ⟨by unfold mhit; rw [HG.out]; rfl, below_ext (below_ext HA.out hE) hE2⟩
  | true =>
    obtain rfl : mo = true := by rcases hg with x | x; cases x; rw [← x]; exact ho
    clear hg
    have HO := Lib.hid ho
    clear ho
    have p0 := Blk.cell (i := 0) HP.out rfl
    have p1 := Blk.cell (i := 1) HP.out rfl
    have p2 := Blk.cell (i := 2) HP.out rfl
    have p3 := Blk.cell (i := 3) HP.out rfl
    have p4 := Blk.cell (i := 4) HP.out rfl
    have p5 := Blk.cell (i := 5) HP.out rfl
    have p6 := Blk.cell (i := 6) HP.out rfl
    have p7 := Blk.cell (i := 7) HP.out rfl
    have p8 := Blk.cell (i := 8) HP.out rfl
    have p9 := Blk.cell (i := 9) HP.out rfl
    have p10 := Blk.cell (i := 10) HP.out rfl
    have p11 := Blk.cell (i := 11) HP.out rfl
    have p12 := Blk.cell (i := 12) HP.out rfl
    go_enter Try.func40, Try.ntmps40
    go_wp2_with fail
    refine (must_any _ _ c _ HM.out).mono ?_
    rintro e w1 ⟨rfl, hE⟩
    rw [HMU.out]
    clear p0 p1 p2 p3 p4 p5 p6 p7 p8 p9 p10 p11 p12
    have q2 := Blk.cell (i := 2) (HP.out.ext hE) rfl
    have q3 := Blk.cell (i := 3) (HP.out.ext hE) rfl
    have q10 := Blk.cell (i := 10) (HP.out.ext hE) rfl
    have q11 := Blk.cell (i := 11) (HP.out.ext hE) rfl
    have q12 := Blk.cell (i := 12) (HP.out.ext hE) rfl
    rw [HO.out] at q11
    go_wp2_with fail
    refine (mget_any _ _ _ _ _ (HM.out.ext hE) hs).mono ?_
    rintro e w2 ⟨he, hE2⟩
    have r12 := Blk.cell (i := 12) ((HP.out.ext hE).ext hE2) rfl
    cases hg : mget s.1 c.ky c.tk with
    | none =>
      rw [hg] at he
      obtain rfl := he
      have HG := Lib.hid hg
      clear hg
      go_wp2_with fail
      go_ret
      exact ⟨by unfold mhit; rw [HG.out]; rfl, below_ext (below_ext HA.out hE) hE2⟩
    | some v =>
      rw [hg] at he
      obtain rfl := he
      have HG := Lib.hid hg
      clear hg
      go_wp2_with fail
      go_ret
      exact ⟨by unfold mhit; rw [HG.out]; rfl, below_ext (below_ext HA.out hE) hE2⟩

theorem may_any (b : Nat) (s : Th × Bool) (c : C) (w : World) (h : isMap w b s) (hs : s.1.sz < 800000000) :
    Calls Try.prog 40 #[.pointer (some ⟨b, 0, none⟩), .agg #[.int .i64 c.cl, .int .i64 c.id, .int .i64 c.kd, .int .i64 c.ky, .int .i64 c.vl, .int .i64 c.co, .int .i64 c.tt, .int .i64 c.be, .int .i64 c.wh, .int .i64 c.en, .int .i64 c.tk, .bool c.ok, .int .i64 c.rv]] w fun e w' => e = .returned (.bool (may s.1 s.2 c)) ∧ Ext w w' := by
  rcases hm : must s.2 c with ⟨mo, ms⟩
  by_cases hbad : ms = true ∧ (c.ok != mo) = true
  · have e : may s.1 s.2 c = false := by unfold may; rw [hm, if_pos hbad]
    rw [e]
    obtain ⟨rfl, hb⟩ := hbad
    exact may_bad b s c w h mo hm (by cases mo <;> simpa using hb)
  · have hg : ms = false ∨ c.ok = mo := by
      cases ms with
      | false => exact .inl rfl
      | true => exact .inr (by have x : ¬ (c.ok != mo) = true := fun x => hbad ⟨rfl, x⟩; simpa using x)
    by_cases hz : c.kd ≠ 1 ∨ c.ok = false
    · have e : may s.1 s.2 c = (c.rv == 0) := by unfold may; rw [hm, if_neg hbad, if_pos hz]
      rw [e]
      exact may_zero b s c w h mo ms hm hg hz
    · have e : may s.1 s.2 c = (mhit s.1 c) := by unfold may; rw [hm, if_neg hbad, if_neg hz]
      rw [e]
      exact may_get b s c w h hs mo ms hm hg (by by_cases x : c.kd = 1; exact x; exact absurd (.inl x) hz) (by cases x : c.ok; exact absurd (.inr x) hz; rfl)

end Go.Proofs.Ytdfbfcglacalmaa.Lo
end

section
namespace Go.Proofs.Ytdfbfcglacalmaa.Lo
open Go.RowKit Go.Seg Go.Open Rk TrTh Lossy

def step (s : Th × Bool) (c : C) : Th × Bool := if may s.1 s.2 c = true then after s c else s
/-- What a call done tells, and does. -/
def Did (w : World) (b : Nat) (s : Th × Bool) (c : C) (e : Ending) (w' : World) : Prop :=
  e = .returned (.bool (may s.1 s.2 c)) ∧ isMap w' b (step s c) ∧ Chg (· = b) w w'

set_option maxRecDepth 100000 in
set_option maxHeartbeats 2000000 in
theorem do_no (b : Nat) (s : Th × Bool) (c : C) (w : World) (h : isMap w b s) (hs : s.1.sz < 700000000) (hy : may s.1 s.2 c = false) : Calls Try.prog 31 #[.pointer (some ⟨b, 0, none⟩), .agg #[.int .i64 c.cl, .int .i64 c.id, .int .i64 c.kd, .int .i64 c.ky, .int .i64 c.vl, .int .i64 c.co, .int .i64 c.tt, .int .i64 c.be, .int .i64 c.wh, .int .i64 c.en, .int .i64 c.tk, .bool c.ok, .int .i64 c.rv]] w (Did w b s c) := by
  have hA : Ext w (w.alloc (Obj.cells #[.int .i64 c.cl, .int .i64 c.id, .int .i64 c.kd, .int .i64 c.ky, .int .i64 c.vl, .int .i64 c.co, .int .i64 c.tt, .int .i64 c.be, .int .i64 c.wh, .int .i64 c.en, .int .i64 c.tk, .bool c.ok, .int .i64 c.rv] 41)) := (Below.refl _ _).alloc (Nat.le_refl _) _
  have HP := Lib.hid (show Blk (w.alloc (Obj.cells #[.int .i64 c.cl, .int .i64 c.id, .int .i64 c.kd, .int .i64 c.ky, .int .i64 c.vl, .int .i64 c.co, .int .i64 c.tt, .int .i64 c.be, .int .i64 c.wh, .int .i64 c.en, .int .i64 c.tk, .bool c.ok, .int .i64 c.rv] 41)) w.heap.size #[.int .i64 c.cl, .int .i64 c.id, .int .i64 c.kd, .int .i64 c.ky, .int .i64 c.vl, .int .i64 c.co, .int .i64 c.tt, .int .i64 c.be, .int .i64 c.wh, .int .i64 c.en, .int .i64 c.tk, .bool c.ok, .int .i64 c.rv] 41 from Blk.new _ _ _)
  have HM := Lib.hid (h.ext hA)
  have HA := Lib.hid hA
  have HY := Lib.hid hy
  clear h hA hy
  have p0 := Blk.cell (i := 0) HP.out rfl
  have p1 := Blk.cell (i := 1) HP.out rfl
  have p2 := Blk.cell (i := 2) HP.out rfl
  have p3 := Blk.cell (i := 3) HP.out rfl
  have p4 := Blk.cell (i := 4) HP.out rfl
  have p5 := Blk.cell (i := 5) HP.out rfl
  have p6 := Blk.cell (i := 6) HP.out rfl
  have p7 := Blk.cell (i := 7) HP.out rfl
  have p8 := Blk.cell (i := 8) HP.out rfl
  have p9 := Blk.cell (i := 9) HP.out rfl
  have p10 := Blk.cell (i := 10) HP.out rfl
  have p11 := Blk.cell (i := 11) HP.out rfl
  have p12 := Blk.cell (i := 12) HP.out rfl
  go_enter Try.func31, Try.ntmps31
  go_wp2_with fail
  refine (may_any _ _ c _ HM.out (by omega)).mono ?_
  rintro e w1 ⟨rfl, hE⟩
  rw [HY.out]
  clear p0 p1 p2 p3 p4 p5 p6 p7 p8 p9 p10 p11 p12
  have HP1 := Lib.hid (HP.out.ext hE)
  obtain ⟨q, hB, hT⟩ := HM.out.ext hE
  have HB := Lib.hid hB
  have HT := Lib.hid hT
  have HE := Lib.hid (below_ext HA.out hE)
  clear hB hT hE
  go_wp2_with fail
  go_ret
  exact ⟨by rw [HY.out]; rfl, by unfold step; rw [if_neg (by rw [HY.out]; simp)]; exact ⟨q, HB.out, HT.out⟩, Chg.of_below HE.out⟩

set_option maxRecDepth 100000 in
set_option maxHeartbeats 2000000 in
theorem do_bare (b : Nat) (s : Th × Bool) (c : C) (w : World) (h : isMap w b s) (hs : s.1.sz < 700000000) (hy : may s.1 s.2 c = true) (ho : c.ok = false) : Calls Try.prog 31 #[.pointer (some ⟨b, 0, none⟩), .agg #[.int .i64 c.cl, .int .i64 c.id, .int .i64 c.kd, .int .i64 c.ky, .int .i64 c.vl, .int .i64 c.co, .int .i64 c.tt, .int .i64 c.be, .int .i64 c.wh, .int .i64 c.en, .int .i64 c.tk, .bool c.ok, .int .i64 c.rv]] w (Did w b s c) := by
  have HO := Lib.hid ho
  clear ho
  have hA : Ext w (w.alloc (Obj.cells #[.int .i64 c.cl, .int .i64 c.id, .int .i64 c.kd, .int .i64 c.ky, .int .i64 c.vl, .int .i64 c.co, .int .i64 c.tt, .int .i64 c.be, .int .i64 c.wh, .int .i64 c.en, .int .i64 c.tk, .bool c.ok, .int .i64 c.rv] 41)) := (Below.refl _ _).alloc (Nat.le_refl _) _
  have HP := Lib.hid (show Blk (w.alloc (Obj.cells #[.int .i64 c.cl, .int .i64 c.id, .int .i64 c.kd, .int .i64 c.ky, .int .i64 c.vl, .int .i64 c.co, .int .i64 c.tt, .int .i64 c.be, .int .i64 c.wh, .int .i64 c.en, .int .i64 c.tk, .bool c.ok, .int .i64 c.rv] 41)) w.heap.size #[.int .i64 c.cl, .int .i64 c.id, .int .i64 c.kd, .int .i64 c.ky, .int .i64 c.vl, .int .i64 c.co, .int .i64 c.tt, .int .i64 c.be, .int .i64 c.wh, .int .i64 c.en, .int .i64 c.tk, .bool c.ok, .int .i64 c.rv] 41 from Blk.new _ _ _)
  have HM := Lib.hid (h.ext hA)
  have HA := Lib.hid hA
  have HY := Lib.hid hy
  clear h hA hy
  have p0 := Blk.cell (i := 0) HP.out rfl
  have p1 := Blk.cell (i := 1) HP.out rfl
  have p2 := Blk.cell (i := 2) HP.out rfl
  have p3 := Blk.cell (i := 3) HP.out rfl
  have p4 := Blk.cell (i := 4) HP.out rfl
  have p5 := Blk.cell (i := 5) HP.out rfl
  have p6 := Blk.cell (i := 6) HP.out rfl
  have p7 := Blk.cell (i := 7) HP.out rfl
  have p8 := Blk.cell (i := 8) HP.out rfl
  have p9 := Blk.cell (i := 9) HP.out rfl
  have p10 := Blk.cell (i := 10) HP.out rfl
  have p11 := Blk.cell (i := 11) HP.out rfl
  have p12 := Blk.cell (i := 12) HP.out rfl
  go_enter Try.func31, Try.ntmps31
  go_wp2_with fail
  refine (may_any _ _ c _ HM.out (by omega)).mono ?_
  rintro e w1 ⟨rfl, hE⟩
  rw [HY.out]
  clear p0 p1 p2 p3 p4 p5 p6 p7 p8 p9 p10 p11 p12
  have HP1 := Lib.hid (HP.out.ext hE)
  obtain ⟨q, hB, hT⟩ := HM.out.ext hE
  have HB := Lib.hid hB
  have HT := Lib.hid hT
  have HE := Lib.hid (below_ext HA.out hE)
  clear hB hT hE
  have q11 := Blk.cell (i := 11) HP1.out rfl
  rw [HO.out] at q11
  go_wp2_with fail
  go_ret
  exact ⟨by rw [HY.out]; rfl, by unfold step after; rw [if_pos HY.out, if_pos HO.out]; exact ⟨q, HB.out, HT.out⟩, Chg.of_below HE.out⟩

set_option maxRecDepth 100000 in
set_option maxHeartbeats 2000000 in
theorem do_else (b : Nat) (s : Th × Bool) (c : C) (w : World) (h : isMap w b s) (hs : s.1.sz < 700000000) (hy : may s.1 s.2 c = true) (ho : c.ok = true) (h2 : c.kd ≠ 2) (h3 : c.kd ≠ 3) (h6 : c.kd ≠ 6) (h5 : c.kd ≠ 5) : Calls Try.prog 31 #[.pointer (some ⟨b, 0, none⟩), .agg #[.int .i64 c.cl, .int .i64 c.id, .int .i64 c.kd, .int .i64 c.ky, .int .i64 c.vl, .int .i64 c.co, .int .i64 c.tt, .int .i64 c.be, .int .i64 c.wh, .int .i64 c.en, .int .i64 c.tk, .bool c.ok, .int .i64 c.rv]] w (Did w b s c) := by
  have HO := Lib.hid ho
  have hst : step s c = s := by unfold step after; rw [if_pos hy, if_neg (by simp [ho]), if_neg h2, if_neg h3, if_neg h6, if_neg h5]
  have HST := Lib.hid hst
  have d2 : (c.kd == 2) = false := by simp [h2]
  have d3 : (c.kd == 3) = false := by simp [h3]
  have d6 : (c.kd == 6) = false := by simp [h6]
  have d5 : (c.kd == 5) = false := by simp [h5]
  clear ho h2 h3 h5 h6 hst
  have hA : Ext w (w.alloc (Obj.cells #[.int .i64 c.cl, .int .i64 c.id, .int .i64 c.kd, .int .i64 c.ky, .int .i64 c.vl, .int .i64 c.co, .int .i64 c.tt, .int .i64 c.be, .int .i64 c.wh, .int .i64 c.en, .int .i64 c.tk, .bool c.ok, .int .i64 c.rv] 41)) := (Below.refl _ _).alloc (Nat.le_refl _) _
  have HP := Lib.hid (show Blk (w.alloc (Obj.cells #[.int .i64 c.cl, .int .i64 c.id, .int .i64 c.kd, .int .i64 c.ky, .int .i64 c.vl, .int .i64 c.co, .int .i64 c.tt, .int .i64 c.be, .int .i64 c.wh, .int .i64 c.en, .int .i64 c.tk, .bool c.ok, .int .i64 c.rv] 41)) w.heap.size #[.int .i64 c.cl, .int .i64 c.id, .int .i64 c.kd, .int .i64 c.ky, .int .i64 c.vl, .int .i64 c.co, .int .i64 c.tt, .int .i64 c.be, .int .i64 c.wh, .int .i64 c.en, .int .i64 c.tk, .bool c.ok, .int .i64 c.rv] 41 from Blk.new _ _ _)
  have HM := Lib.hid (h.ext hA)
  have HA := Lib.hid hA
  have HY := Lib.hid hy
  clear h hA hy
  have p0 := Blk.cell (i := 0) HP.out rfl
  have p1 := Blk.cell (i := 1) HP.out rfl
  have p2 := Blk.cell (i := 2) HP.out rfl
  have p3 := Blk.cell (i := 3) HP.out rfl
  have p4 := Blk.cell (i := 4) HP.out rfl
  have p5 := Blk.cell (i := 5) HP.out rfl
  have p6 := Blk.cell (i := 6) HP.out rfl
  have p7 := Blk.cell (i := 7) HP.out rfl
  have p8 := Blk.cell (i := 8) HP.out rfl
  have p9 := Blk.cell (i := 9) HP.out rfl
  have p10 := Blk.cell (i := 10) HP.out rfl
  have p11 := Blk.cell (i := 11) HP.out rfl
  have p12 := Blk.cell (i := 12) HP.out rfl
  go_enter Try.func31, Try.ntmps31
  go_wp2_with fail
  refine (may_any _ _ c _ HM.out (by omega)).mono ?_
  rintro e w1 ⟨rfl, hE⟩
  rw [HY.out]
  clear p0 p1 p2 p3 p4 p5 p6 p7 p8 p9 p10 p11 p12
  have HP1 := Lib.hid (HP.out.ext hE)
  obtain ⟨q, hB, hT⟩ := HM.out.ext hE
  have HB := Lib.hid hB
  have HT := Lib.hid hT
  have HE := Lib.hid (below_ext HA.out hE)
  clear hB hT hE
  have q2 := Blk.cell (i := 2) HP1.out rfl
  have q11 := Blk.cell (i := 11) HP1.out rfl
  rw [HO.out] at q11
  go_wp2_with fail
  go_ret
  exact ⟨by rw [HY.out]; rfl, by rw [HST.out]; exact ⟨q, HB.out, HT.out⟩, Chg.of_below HE.out⟩

set_option maxRecDepth 100000 in
set_option maxHeartbeats 2000000 in
theorem do_set (b : Nat) (s : Th × Bool) (c : C) (w : World) (h : isMap w b s) (hs : s.1.sz < 700000000) (hy : may s.1 s.2 c = true) (ho : c.ok = true) (hk : c.kd = 2) : Calls Try.prog 31 #[.pointer (some ⟨b, 0, none⟩), .agg #[.int .i64 c.cl, .int .i64 c.id, .int .i64 c.kd, .int .i64 c.ky, .int .i64 c.vl, .int .i64 c.co, .int .i64 c.tt, .int .i64 c.be, .int .i64 c.wh, .int .i64 c.en, .int .i64 c.tk, .bool c.ok, .int .i64 c.rv]] w (Did w b s c) := by
  have HO := Lib.hid ho
  have hst : step s c = (T.put cint c.ky (c.vl, endOf c.tk c.tt) s.1, s.2) := by unfold step after; rw [if_pos hy, if_neg (by simp [ho])]; simp [hk]
  have HST := Lib.hid hst
  have d2 : (c.kd == 2) = true := by simp [hk]
  clear ho hk hst
  have hA : Ext w (w.alloc (Obj.cells #[.int .i64 c.cl, .int .i64 c.id, .int .i64 c.kd, .int .i64 c.ky, .int .i64 c.vl, .int .i64 c.co, .int .i64 c.tt, .int .i64 c.be, .int .i64 c.wh, .int .i64 c.en, .int .i64 c.tk, .bool c.ok, .int .i64 c.rv] 41)) := (Below.refl _ _).alloc (Nat.le_refl _) _
  have HP := Lib.hid (show Blk (w.alloc (Obj.cells #[.int .i64 c.cl, .int .i64 c.id, .int .i64 c.kd, .int .i64 c.ky, .int .i64 c.vl, .int .i64 c.co, .int .i64 c.tt, .int .i64 c.be, .int .i64 c.wh, .int .i64 c.en, .int .i64 c.tk, .bool c.ok, .int .i64 c.rv] 41)) w.heap.size #[.int .i64 c.cl, .int .i64 c.id, .int .i64 c.kd, .int .i64 c.ky, .int .i64 c.vl, .int .i64 c.co, .int .i64 c.tt, .int .i64 c.be, .int .i64 c.wh, .int .i64 c.en, .int .i64 c.tk, .bool c.ok, .int .i64 c.rv] 41 from Blk.new _ _ _)
  have HM := Lib.hid (h.ext hA)
  have HA := Lib.hid hA
  have HY := Lib.hid hy
  clear h hA hy
  have p0 := Blk.cell (i := 0) HP.out rfl
  have p1 := Blk.cell (i := 1) HP.out rfl
  have p2 := Blk.cell (i := 2) HP.out rfl
  have p3 := Blk.cell (i := 3) HP.out rfl
  have p4 := Blk.cell (i := 4) HP.out rfl
  have p5 := Blk.cell (i := 5) HP.out rfl
  have p6 := Blk.cell (i := 6) HP.out rfl
  have p7 := Blk.cell (i := 7) HP.out rfl
  have p8 := Blk.cell (i := 8) HP.out rfl
  have p9 := Blk.cell (i := 9) HP.out rfl
  have p10 := Blk.cell (i := 10) HP.out rfl
  have p11 := Blk.cell (i := 11) HP.out rfl
  have p12 := Blk.cell (i := 12) HP.out rfl
  go_enter Try.func31, Try.ntmps31
  go_wp2_with fail
  refine (may_any _ _ c _ HM.out (by omega)).mono ?_
  rintro e w1 ⟨rfl, hE⟩
  rw [HY.out]
  clear p0 p1 p2 p3 p4 p5 p6 p7 p8 p9 p10 p11 p12
  have HP1 := Lib.hid (HP.out.ext hE)
  obtain ⟨q, hB, hT⟩ := HM.out.ext hE
  have HB := Lib.hid hB
  have HT := Lib.hid hT
  have HE := Lib.hid (below_ext HA.out hE)
  clear hB hT hE
  have q2 := Blk.cell (i := 2) HP1.out rfl
  have q6 := Blk.cell (i := 6) HP1.out rfl
  have q10 := Blk.cell (i := 10) HP1.out rfl
  have q11 := Blk.cell (i := 11) HP1.out rfl
  rw [HO.out] at q11
  go_wp2_with fail
  refine (end_any _ _ _).mono ?_
  rintro e w' ⟨⟨eb, rfl⟩, rfl⟩
  go_wp2_with fail
  refine wp_region_segs 16 [([13, 4], false), ([2, 1], true)] (by kernel_rfl) (by kernel_rfl) ?_
  apply segs_cons
  · intro W hW
    have b0 := Blk.cell (i := 0) (HB.out.ext hW.of_drew) rfl
    have q3 := Blk.cell (i := 3) (HP1.out.ext hW.of_drew) rfl
    have q4 := Blk.cell (i := 4) (HP1.out.ext hW.of_drew) rfl
    simp only [runsT, runsF, rep, pick]
    go_wp2_with fail
    exact ⟨rfl, rfl⟩
  simp only [runsT, runsF, rep, left]
  go_wp2_with fail
  refine (Put_any c.ky (c.vl, endOf c.tk c.tt) _ _ _ (HT.out.ext (Ext.drew _)) (by omega)).mono ?_
  rintro e w2 ⟨q2, rfl, hq2, hE2⟩
  have hB2 := (HB.out.ext (Ext.drew _)).ext hE2
  have b0 := Blk.cell (i := 0) hB2 rfl
  have f0 := Blk.frozen hB2 0
  have HB2 := Lib.hid hB2
  have HQ := Lib.hid hq2
  clear hB2 hq2
  go_wp2_with fail
  refine ⟨fun _ => hE2, ?_⟩
  apply segs_cons
  · intro W hW
    simp only [runsT, runsF, rep, pick]
    go_wp2_with fail
    exact ⟨rfl, rfl⟩
  simp only [runsT, runsF, rep, left]
  go_wp2_with fail
  refine ⟨fun h => (by cases h), ?_⟩
  apply segs_nil
  go_wp2_with fail
  go_ret
  have hC : Chg (· = b) w2 (w2.setCell ⟨b, 0, none⟩ (.pointer q2)) := Chg.set _ _ _ _
  have HB3 := Blk.set (cs' := #[.pointer q2, .bool s.2]) HB2.out 0 (.pointer q2) rfl
  exact ⟨by rw [HY.out]; rfl, by rw [HST.out]; exact ⟨q2, HB3, HQ.out.chg hC (Off.one HB2.out (by decide)) (Off.one HB2.out (by decide))⟩, (Chg.of_below (below_ext (below_ext HE.out (Ext.drew _)) hE2)).trans hC⟩

set_option maxRecDepth 100000 in
set_option maxHeartbeats 2000000 in
theorem do_del (b : Nat) (s : Th × Bool) (c : C) (w : World) (h : isMap w b s) (hs : s.1.sz < 700000000) (hy : may s.1 s.2 c = true) (ho : c.ok = true) (hk : c.kd = 3) : Calls Try.prog 31 #[.pointer (some ⟨b, 0, none⟩), .agg #[.int .i64 c.cl, .int .i64 c.id, .int .i64 c.kd, .int .i64 c.ky, .int .i64 c.vl, .int .i64 c.co, .int .i64 c.tt, .int .i64 c.be, .int .i64 c.wh, .int .i64 c.en, .int .i64 c.tk, .bool c.ok, .int .i64 c.rv]] w (Did w b s c) := by
  have HO := Lib.hid ho
  have hst : step s c = (T.drop cint c.ky s.1, s.2) := by unfold step after; rw [if_pos hy, if_neg (by simp [ho])]; simp [hk]
  have HST := Lib.hid hst
  have d2 : (c.kd == 2) = false := by simp [hk]
  have d3 : (c.kd == 3) = true := by simp [hk]
  clear ho hk hst
  have hA : Ext w (w.alloc (Obj.cells #[.int .i64 c.cl, .int .i64 c.id, .int .i64 c.kd, .int .i64 c.ky, .int .i64 c.vl, .int .i64 c.co, .int .i64 c.tt, .int .i64 c.be, .int .i64 c.wh, .int .i64 c.en, .int .i64 c.tk, .bool c.ok, .int .i64 c.rv] 41)) := (Below.refl _ _).alloc (Nat.le_refl _) _
  have HP := Lib.hid (show Blk (w.alloc (Obj.cells #[.int .i64 c.cl, .int .i64 c.id, .int .i64 c.kd, .int .i64 c.ky, .int .i64 c.vl, .int .i64 c.co, .int .i64 c.tt, .int .i64 c.be, .int .i64 c.wh, .int .i64 c.en, .int .i64 c.tk, .bool c.ok, .int .i64 c.rv] 41)) w.heap.size #[.int .i64 c.cl, .int .i64 c.id, .int .i64 c.kd, .int .i64 c.ky, .int .i64 c.vl, .int .i64 c.co, .int .i64 c.tt, .int .i64 c.be, .int .i64 c.wh, .int .i64 c.en, .int .i64 c.tk, .bool c.ok, .int .i64 c.rv] 41 from Blk.new _ _ _)
  have HM := Lib.hid (h.ext hA)
  have HA := Lib.hid hA
  have HY := Lib.hid hy
  clear h hA hy
  have p0 := Blk.cell (i := 0) HP.out rfl
  have p1 := Blk.cell (i := 1) HP.out rfl
  have p2 := Blk.cell (i := 2) HP.out rfl
  have p3 := Blk.cell (i := 3) HP.out rfl
  have p4 := Blk.cell (i := 4) HP.out rfl
  have p5 := Blk.cell (i := 5) HP.out rfl
  have p6 := Blk.cell (i := 6) HP.out rfl
  have p7 := Blk.cell (i := 7) HP.out rfl
  have p8 := Blk.cell (i := 8) HP.out rfl
  have p9 := Blk.cell (i := 9) HP.out rfl
  have p10 := Blk.cell (i := 10) HP.out rfl
  have p11 := Blk.cell (i := 11) HP.out rfl
  have p12 := Blk.cell (i := 12) HP.out rfl
  go_enter Try.func31, Try.ntmps31
  go_wp2_with fail
  refine (may_any _ _ c _ HM.out (by omega)).mono ?_
  rintro e w1 ⟨rfl, hE⟩
  rw [HY.out]
  clear p0 p1 p2 p3 p4 p5 p6 p7 p8 p9 p10 p11 p12
  have HP1 := Lib.hid (HP.out.ext hE)
  obtain ⟨q, hB, hT⟩ := HM.out.ext hE
  have HB := Lib.hid hB
  have HT := Lib.hid hT
  have HE := Lib.hid (below_ext HA.out hE)
  clear hB hT hE
  have q2 := Blk.cell (i := 2) HP1.out rfl
  have q11 := Blk.cell (i := 11) HP1.out rfl
  rw [HO.out] at q11
  go_wp2_with fail
  refine wp_region_segs 11 [([8, 4], false), ([2, 1], true)] (by kernel_rfl) (by kernel_rfl) ?_
  apply segs_cons
  · intro W hW
    have b0 := Blk.cell (i := 0) (HB.out.ext hW.of_drew) rfl
    have q3 := Blk.cell (i := 3) (HP1.out.ext hW.of_drew) rfl
    simp only [runsT, runsF, rep, pick]
    go_wp2_with fail
    exact ⟨rfl, rfl⟩
  simp only [runsT, runsF, rep, left]
  go_wp2_with fail
  refine (Drop_any _ _ _ _ (HT.out.ext (Ext.drew _)) (by omega)).mono ?_
  rintro e w2 ⟨q2, rfl, hq2, hE2⟩
  have hB2 := (HB.out.ext (Ext.drew _)).ext hE2
  have b0 := Blk.cell (i := 0) hB2 rfl
  have f0 := Blk.frozen hB2 0
  have HB2 := Lib.hid hB2
  have HQ := Lib.hid hq2
  clear hB2 hq2
  go_wp2_with fail
  refine ⟨fun _ => hE2, ?_⟩
  apply segs_cons
  · intro W hW
    simp only [runsT, runsF, rep, pick]
    go_wp2_with fail
    exact ⟨rfl, rfl⟩
  simp only [runsT, runsF, rep, left]
  go_wp2_with fail
  refine ⟨fun h => (by cases h), ?_⟩
  apply segs_nil
  go_wp2_with fail
  go_ret
  have hC : Chg (· = b) w2 (w2.setCell ⟨b, 0, none⟩ (.pointer q2)) := Chg.set _ _ _ _
  have HB3 := Blk.set (cs' := #[.pointer q2, .bool s.2]) HB2.out 0 (.pointer q2) rfl
  exact ⟨by rw [HY.out]; rfl, by rw [HST.out]; exact ⟨q2, HB3, HQ.out.chg hC (Off.one HB2.out (by decide)) (Off.one HB2.out (by decide))⟩, (Chg.of_below (below_ext (below_ext HE.out (Ext.drew _)) hE2)).trans hC⟩

set_option maxRecDepth 100000 in
set_option maxHeartbeats 2000000 in
theorem do_close (b : Nat) (s : Th × Bool) (c : C) (w : World) (h : isMap w b s) (hs : s.1.sz < 700000000) (hy : may s.1 s.2 c = true) (ho : c.ok = true) (hk : c.kd = 6) : Calls Try.prog 31 #[.pointer (some ⟨b, 0, none⟩), .agg #[.int .i64 c.cl, .int .i64 c.id, .int .i64 c.kd, .int .i64 c.ky, .int .i64 c.vl, .int .i64 c.co, .int .i64 c.tt, .int .i64 c.be, .int .i64 c.wh, .int .i64 c.en, .int .i64 c.tk, .bool c.ok, .int .i64 c.rv]] w (Did w b s c) := by
  have HO := Lib.hid ho
  have hst : step s c = (.nil, true) := by unfold step after; rw [if_pos hy, if_neg (by simp [ho])]; simp [hk]
  have HST := Lib.hid hst
  have d2 : (c.kd == 2) = false := by simp [hk]
  have d3 : (c.kd == 3) = false := by simp [hk]
  have d6 : (c.kd == 6) = true := by simp [hk]
  clear ho hk hst
  have hA : Ext w (w.alloc (Obj.cells #[.int .i64 c.cl, .int .i64 c.id, .int .i64 c.kd, .int .i64 c.ky, .int .i64 c.vl, .int .i64 c.co, .int .i64 c.tt, .int .i64 c.be, .int .i64 c.wh, .int .i64 c.en, .int .i64 c.tk, .bool c.ok, .int .i64 c.rv] 41)) := (Below.refl _ _).alloc (Nat.le_refl _) _
  have HP := Lib.hid (show Blk (w.alloc (Obj.cells #[.int .i64 c.cl, .int .i64 c.id, .int .i64 c.kd, .int .i64 c.ky, .int .i64 c.vl, .int .i64 c.co, .int .i64 c.tt, .int .i64 c.be, .int .i64 c.wh, .int .i64 c.en, .int .i64 c.tk, .bool c.ok, .int .i64 c.rv] 41)) w.heap.size #[.int .i64 c.cl, .int .i64 c.id, .int .i64 c.kd, .int .i64 c.ky, .int .i64 c.vl, .int .i64 c.co, .int .i64 c.tt, .int .i64 c.be, .int .i64 c.wh, .int .i64 c.en, .int .i64 c.tk, .bool c.ok, .int .i64 c.rv] 41 from Blk.new _ _ _)
  have HM := Lib.hid (h.ext hA)
  have HA := Lib.hid hA
  have HY := Lib.hid hy
  clear h hA hy
  have p0 := Blk.cell (i := 0) HP.out rfl
  have p1 := Blk.cell (i := 1) HP.out rfl
  have p2 := Blk.cell (i := 2) HP.out rfl
  have p3 := Blk.cell (i := 3) HP.out rfl
  have p4 := Blk.cell (i := 4) HP.out rfl
  have p5 := Blk.cell (i := 5) HP.out rfl
  have p6 := Blk.cell (i := 6) HP.out rfl
  have p7 := Blk.cell (i := 7) HP.out rfl
  have p8 := Blk.cell (i := 8) HP.out rfl
  have p9 := Blk.cell (i := 9) HP.out rfl
  have p10 := Blk.cell (i := 10) HP.out rfl
  have p11 := Blk.cell (i := 11) HP.out rfl
  have p12 := Blk.cell (i := 12) HP.out rfl
  go_enter Try.func31, Try.ntmps31
  go_wp2_with fail
  refine (may_any _ _ c _ HM.out (by omega)).mono ?_
  rintro e w1 ⟨rfl, hE⟩
  rw [HY.out]
  clear p0 p1 p2 p3 p4 p5 p6 p7 p8 p9 p10 p11 p12
  have HP1 := Lib.hid (HP.out.ext hE)
  obtain ⟨q, hB, hT⟩ := HM.out.ext hE
  have HB := Lib.hid hB
  have HT := Lib.hid hT
  have HE := Lib.hid (below_ext HA.out hE)
  clear hB hT hE
  have q2 := Blk.cell (i := 2) HP1.out rfl
  have q11 := Blk.cell (i := 11) HP1.out rfl
  rw [HO.out] at q11
  have b1 := Blk.cell (i := 1) HB.out rfl
  have f1 := Blk.frozen HB.out 1
  have HB1 := Lib.hid (Blk.set (cs' := #[.pointer q, .bool true]) HB.out 1 (.bool true) rfl)
  go_wp2_with fail
  refine (none_any _).mono ?_
  rintro e w2 ⟨q2, rfl, hq2, hE2⟩
  have hB2 := HB1.out.ext hE2
  have b0 := Blk.cell (i := 0) hB2 rfl
  have f0 := Blk.frozen hB2 0
  have HB2 := Lib.hid hB2
  have HQ := Lib.hid hq2
  clear hB2 hq2
  go_wp2_with fail
  go_ret
  have hC : Chg (· = b) w2 (w2.setCell ⟨b, 0, none⟩ (.pointer q2)) := Chg.set _ _ _ _
  have HB3 := Blk.set (cs' := #[.pointer q2, .bool true]) HB2.out 0 (.pointer q2) rfl
  exact ⟨by rw [HY.out]; rfl, by rw [HST.out]; exact ⟨q2, HB3, HQ.out.chg hC (Off.one HB2.out (by decide)) (Off.one HB2.out (by decide))⟩, (Chg.of_below HE.out).trans ((Chg.set _ _ _ _).trans ((Chg.of_below hE2).trans hC))⟩


set_option maxRecDepth 100000 in
set_option maxHeartbeats 2000000 in
theorem do_clear (b : Nat) (s : Th × Bool) (c : C) (w : World) (h : isMap w b s) (hs : s.1.sz < 700000000) (hy : may s.1 s.2 c = true) (ho : c.ok = true) (hk : c.kd = 5) : Calls Try.prog 31 #[.pointer (some ⟨b, 0, none⟩), .agg #[.int .i64 c.cl, .int .i64 c.id, .int .i64 c.kd, .int .i64 c.ky, .int .i64 c.vl, .int .i64 c.co, .int .i64 c.tt, .int .i64 c.be, .int .i64 c.wh, .int .i64 c.en, .int .i64 c.tk, .bool c.ok, .int .i64 c.rv]] w (Did w b s c) := by
  have HO := Lib.hid ho
  have hst : step s c = (.nil, s.2) := by unfold step after; rw [if_pos hy, if_neg (by simp [ho])]; simp [hk]
  have HST := Lib.hid hst
  have d2 : (c.kd == 2) = false := by simp [hk]
  have d3 : (c.kd == 3) = false := by simp [hk]
  have d6 : (c.kd == 6) = false := by simp [hk]
  have d5 : (c.kd == 5) = true := by simp [hk]
  clear ho hk hst
  have hA : Ext w (w.alloc (Obj.cells #[.int .i64 c.cl, .int .i64 c.id, .int .i64 c.kd, .int .i64 c.ky, .int .i64 c.vl, .int .i64 c.co, .int .i64 c.tt, .int .i64 c.be, .int .i64 c.wh, .int .i64 c.en, .int .i64 c.tk, .bool c.ok, .int .i64 c.rv] 41)) := (Below.refl _ _).alloc (Nat.le_refl _) _
  have HP := Lib.hid (show Blk (w.alloc (Obj.cells #[.int .i64 c.cl, .int .i64 c.id, .int .i64 c.kd, .int .i64 c.ky, .int .i64 c.vl, .int .i64 c.co, .int .i64 c.tt, .int .i64 c.be, .int .i64 c.wh, .int .i64 c.en, .int .i64 c.tk, .bool c.ok, .int .i64 c.rv] 41)) w.heap.size #[.int .i64 c.cl, .int .i64 c.id, .int .i64 c.kd, .int .i64 c.ky, .int .i64 c.vl, .int .i64 c.co, .int .i64 c.tt, .int .i64 c.be, .int .i64 c.wh, .int .i64 c.en, .int .i64 c.tk, .bool c.ok, .int .i64 c.rv] 41 from Blk.new _ _ _)
  have HM := Lib.hid (h.ext hA)
  have HA := Lib.hid hA
  have HY := Lib.hid hy
  clear h hA hy
  have p0 := Blk.cell (i := 0) HP.out rfl
  have p1 := Blk.cell (i := 1) HP.out rfl
  have p2 := Blk.cell (i := 2) HP.out rfl
  have p3 := Blk.cell (i := 3) HP.out rfl
  have p4 := Blk.cell (i := 4) HP.out rfl
  have p5 := Blk.cell (i := 5) HP.out rfl
  have p6 := Blk.cell (i := 6) HP.out rfl
  have p7 := Blk.cell (i := 7) HP.out rfl
  have p8 := Blk.cell (i := 8) HP.out rfl
  have p9 := Blk.cell (i := 9) HP.out rfl
  have p10 := Blk.cell (i := 10) HP.out rfl
  have p11 := Blk.cell (i := 11) HP.out rfl
  have p12 := Blk.cell (i := 12) HP.out rfl
  go_enter Try.func31, Try.ntmps31
  go_wp2_with fail
  refine (may_any _ _ c _ HM.out (by omega)).mono ?_
  rintro e w1 ⟨rfl, hE⟩
  rw [HY.out]
  clear p0 p1 p2 p3 p4 p5 p6 p7 p8 p9 p10 p11 p12
  have HP1 := Lib.hid (HP.out.ext hE)
  obtain ⟨q, hB, hT⟩ := HM.out.ext hE
  have HB := Lib.hid hB
  have HT := Lib.hid hT
  have HE := Lib.hid (below_ext HA.out hE)
  clear hB hT hE
  have q2 := Blk.cell (i := 2) HP1.out rfl
  have q11 := Blk.cell (i := 11) HP1.out rfl
  rw [HO.out] at q11
  go_wp2_with fail
  refine (none_any _).mono ?_
  rintro e w2 ⟨q2, rfl, hq2, hE2⟩
  have hB2 := HB.out.ext hE2
  have b0 := Blk.cell (i := 0) hB2 rfl
  have f0 := Blk.frozen hB2 0
  have HB2 := Lib.hid hB2
  have HQ := Lib.hid hq2
  clear hB2 hq2
  go_wp2_with fail
  go_ret
  have hC : Chg (· = b) w2 (w2.setCell ⟨b, 0, none⟩ (.pointer q2)) := Chg.set _ _ _ _
  have HB3 := Blk.set (cs' := #[.pointer q2, .bool s.2]) HB2.out 0 (.pointer q2) rfl
  exact ⟨by rw [HY.out]; rfl, by rw [HST.out]; exact ⟨q2, HB3, HQ.out.chg hC (Off.one HB2.out (by decide)) (Off.one HB2.out (by decide))⟩, (Chg.of_below (below_ext HE.out hE2)).trans hC⟩


theorem do_any (b : Nat) (s : Th × Bool) (c : C) (w : World) (h : isMap w b s) (hs : s.1.sz < 700000000) : Calls Try.prog 31 #[.pointer (some ⟨b, 0, none⟩), .agg #[.int .i64 c.cl, .int .i64 c.id, .int .i64 c.kd, .int .i64 c.ky, .int .i64 c.vl, .int .i64 c.co, .int .i64 c.tt, .int .i64 c.be, .int .i64 c.wh, .int .i64 c.en, .int .i64 c.tk, .bool c.ok, .int .i64 c.rv]] w (Did w b s c) := by
  by_cases hy : may s.1 s.2 c = true
  · by_cases ho : c.ok = true
    · by_cases h2 : c.kd = 2
      · exact do_set b s c w h hs hy ho h2
      · by_cases h3 : c.kd = 3
        · exact do_del b s c w h hs hy ho h3
        · by_cases h6 : c.kd = 6
          · exact do_close b s c w h hs hy ho h6
          · by_cases h5 : c.kd = 5
            · exact do_clear b s c w h hs hy ho h5
            · exact do_else b s c w h hs hy ho h2 h3 h6 h5
    · exact do_bare b s c w h hs hy (by simpa using ho)
  · exact do_no b s c w h hs (by simpa using hy)

end Go.Proofs.Ytdfbfcglacalmaa.Lo
end

section
namespace Go.Proofs.Ytdfbfcglacalmaa.Hs
open Go.RowKit Go.Seg Go.Open Go.Lib Go.Arr Go.Stab Go.Row

theorem encI_len (i : Nat) : (encI i).length = 1 := rfl
/-- Grown by one that was laid in a block of its own. -/
theorem appP {W : World} {B : Nat} {ops : Array Oper} {r : List Oper} {o : Oper} {a : Act} {Q : Exit → Act → World → Prop} (hgd : o.guard = none) (s x : Operand)
    (ho : o.op = .call { callee := .builtin .append, args := #[s, x], argTypes := #[24, 24] }) (v : Value) (l : List Nat) (hs : a.eval s = v) (hown : RowG RI encI W B v l) (y : Nat)
    (g : Nat) (hx : a.eval x = .slice (some ⟨g, 0, none⟩) 1 1) (hg : g = W.heap.size) (h63 : l.length + 1 ≤ 1000000) (hB : B ≤ W.heap.size)
    (h : ∀ a' cap w', RowG RI encI w' B (.slice a' (l ++ [y]).length cap) (l ++ [y]) → Chg (fun k => v.ownBlock = some k) W w' → wpList Try.prog ops Q r (a.put o.dst (.slice a' (l ++ [y]).length cap)) w') :
    wpList Try.prog ops Q (o :: r) a (W.alloc (.cells #[.int .i64 (y : Int)] 3)) := by
  subst hg
  have hA : Ext W (W.alloc (.cells #[.int .i64 (y : Int)] 3)) := (Below.refl _ _).alloc (Nat.le_refl _) _
  have hlit := own_lit RI W #[.int .i64 (y : Int)] rfl
  rw [List.length_append] at h
  refine wpList_app2 RI _ hgd s x ho B v l.length (l.flatMap encI) hs (hown.ext hA) W.heap.size _ 1 (encI y) hx hlit (encI_one y) h63 (by simp; omega) (fun a' cap w' hr hg => ?_)
  refine h a' cap w' ?_ ⟨hg.os, hg.tape, hg.output, by have := hg.size; simp at this; omega, fun k hk hne => ?_⟩
  · unfold RowG
    rw [List.length_append, List.flatMap_append, List.length_singleton]
    simpa using hr
  · rw [hg.block k (by simp; omega) (fun e => hne e.symm), hA.block k hk]
/-- The last one is cut off. -/
theorem row_cut {w : World} {B : Nat} {a : Option Addr} {n cap : Nat} {o : List Nat} {i : Nat} (h : RowG RI encI w B (.slice a n cap) (o ++ [i])) : RowG RI encI w B (.slice a o.length cap) o := by
  have hlen : n = o.length + 1 := by
    obtain ⟨a', c', hv⟩ := h.val
    simp only [Value.slice.injEq] at hv
    rw [hv.2.1]; simp
  rcases h.2 with ⟨h6, hz⟩ | ⟨g, cap', cur, h6, h7, h8, h9, h10, h11, h12⟩
  · simp at hz
  · simp only [Value.slice.injEq] at h6
    obtain ⟨rfl, -, rfl⟩ := h6
    have hl : (o ++ [i]).length = o.length + 1 := by simp
    rw [hl] at h9 h12
    refine ⟨by rw [flat_length encI 1 encI_len]; rfl, .inr ⟨g, cap, cur, rfl, h7, h8, by omega, h10, h11, ?_⟩⟩
    have e1 : RI.size = 1 := rfl
    rw [e1] at h12 ⊢
    rw [List.flatMap_append, Nat.mul_one] at h12
    have h13 := congrArg (List.take o.length) h12
    rw [List.take_take, Nat.min_eq_left (by omega), List.take_append_of_le_length (by rw [flat_length encI 1 encI_len]; omega)] at h13
    rw [Nat.mul_one, h13, List.take_of_length_le (by rw [flat_length encI 1 encI_len]; omega)]
theorem row_hi {w w' : World} {B B' : Nat} {v : Value} {o : List Nat} (h : RowG RI encI w B v o) (hh : HiFrom B' w w') (hB : B' ≤ B) : RowG RI encI w' B v o := by
  refine ⟨h.1, ?_⟩
  rcases h.2 with h6 | ⟨g, cap', cur, h6, h7, h8, h9⟩
  · exact .inl h6
  · exact .inr ⟨g, cap', cur, h6, h7, hh g _ (by omega) h8, h9⟩
theorem row_keep {S : Nat → Prop} {w w' : World} {B : Nat} {v : Value} {o : List Nat} (h : RowG RI encI w B v o) (hc : Chg S w w') (hS : ∀ k, S k → k < B) : RowG RI encI w' B v o := row_hi h (HiFrom.of_chg hc hS) (Nat.le_refl _)
theorem blk_hi {w w' : World} {B b : Nat} {cs : Array Value} {E : TypeId} (h : Blk w b cs E) (hh : HiFrom B w w') (hB : B ≤ b) : Blk w' b cs E := hh b _ hB h
/-- Calls that are read, behind changes elsewhere. -/
theorem VC.lt {w : World} {a : Option Addr} {n b off : Nat} {T : List C} (h : VC w a n b off T) (h0 : 0 < n) : b < w.heap.size := by
  have h1 := h.cells w (Ext.refl _) 0 (by rw [h.len]; exact h0) 0 (by omega)
  have h2 : (enc (T[0]'(by rw [h.len]; exact h0)))[0]? = some (.int .i64 (T[0]'(by rw [h.len]; exact h0)).cl) := rfl
  rw [h2] at h1
  exact World.block_lt_of_cell? w _ h1
theorem VC.chg {S : Nat → Prop} {w w' : World} {a : Option Addr} {n b off : Nat} {T : List C} (h : VC w a n b off T) (hc : Chg S w w') (hS : 0 < n → ¬ S b) : VC w' a n b off T := by
  refine ⟨h.len, h.ad, fun W hW i hi j hj => ?_⟩
  have h0 : 0 < n := by have := h.len; omega
  have hb := h.lt h0
  rw [← h.cells w (Ext.refl _) i hi j hj]
  have h1 : W.heap[b]? = w.heap[b]? := by rw [hW.block b (Nat.lt_of_lt_of_le hb hc.size), hc.block b hb (hS h0)]
  exact World.cell?_of_block h1
set_option maxRecDepth 100000 in
set_option maxHeartbeats 1000000 in
theorem sclone_any (o : List Nat) (B : Nat) (v : Value) (w : World) (h : RowG RI encI w B v o) (hl : o.length ≤ 60) :
    Calls Try.prog 28 #[v] w fun e w' => (∃ v', e = .returned v' ∧ RowG RI encI w' w.heap.size v' o) ∧ Ext w w' := by
  rcases h.2 with ⟨rfl, hz⟩ | ⟨g, cap', cur, rfl, h7, h8, h9⟩
  · obtain rfl := List.eq_nil_of_length_eq_zero hz
    clear h
    have e0 := Lib.run_eql_slice_nil_nil (P := Try.prog) w (t := 24) 0 0 Try.underlying24
    go_enter Try.func28, Try.ntmps28
    go_wp2_with fail
    go_ret
    exact ⟨⟨_, rfl, RowG.nil _ _⟩, Ext.refl _⟩
  · have HO := Lib.hid h
    clear h h8 h9 h7
    have e0 := Lib.run_eql_slice_some_nil (P := Try.prog) w (t := 24) ⟨g, 0, none⟩ o.length cap' Try.underlying24
    go_enter Try.func28, Try.ntmps28
    have HE1 := Lib.hid (show Ext w (w.alloc (.cells #[] 3)) from (Below.refl _ _).alloc (Nat.le_refl _) _)
    have H1 : Hid (Row.Own RI (w.alloc (.cells #[] 3)) w.heap.size (.slice (some ⟨w.heap.size, 0, none⟩) 0 0) 0 []) := Lib.hid ⟨by simp, .inr ⟨w.heap.size, 0, #[], rfl, Nat.le_refl _, World.alloc_heap_new w _, Nat.le_refl _, Nat.zero_le _, by simp, by simp⟩⟩
    have HO1 := Lib.hid (HO.out.ext HE1.out)
    have HN : Hid (∀ u ∈ o.flatMap encI, u.oneCell' = true) := Lib.hid (fun u hu => by
      obtain ⟨x, _, hx⟩ := List.mem_flatMap.1 hu
      exact encI_one x u hx)
    go_wp2_with (at_builtin; refine Row.wpList_app2 RI _ rfl _ _ rfl w.heap.size _ 0 [] rfl H1.out B _ o.length (o.flatMap encI) rfl HO1.out HN.out (by omega) HE1.out.size ?_)
    intro a2 c2 w2 h2 hg2
    have H2 := Lib.hid (show RowG RI encI w2 w.heap.size (.slice a2 o.length c2) o from h2)
    have HE2 := Lib.hid (Row.ext_grown HE1.out H1.out (Nat.le_refl _) hg2)
    clear h2 hg2
    go_wp2_with fail
    go_ret
    exact ⟨⟨_, rfl, H2.out⟩, HE2.out⟩
end Go.Proofs.Ytdfbfcglacalmaa.Hs
namespace Go.Proofs.Ytdfbfcglacalmaa.Lo
open Go.RowKit Go.Seg Go.Open Rk TrTh Lossy
theorem mclone_any (b : Nat) (s : Th × Bool) (w : World) (h : isMap w b s) :
    Calls Try.prog 29 #[.pointer (some ⟨b, 0, none⟩)] w fun e w' => (∃ c, e = .returned (.pointer (some ⟨c, 0, none⟩)) ∧ w.heap.size ≤ c ∧ isMap w' c s) ∧ Ext w w' := by
  obtain ⟨q, hB, hT⟩ := h
  have hE : Ext w (w.alloc (.cells #[.pointer q, .bool s.2] 61)) := (Below.refl _ _).alloc (Nat.le_refl _) _
  have c0 := hB.cell (i := 0) rfl
  have c1 := hB.cell (i := 1) rfl
  have HH := Lib.hid (And.intro (hT.ext hE) hE)
  clear hB hT hE
  go_enter Try.func29, Try.ntmps29
  go_wp2_with fail
  go_ret
  exact ⟨⟨_, rfl, Nat.le_refl _, q, Blk.new _ _ _, HH.out.1⟩, HH.out.2⟩
end Go.Proofs.Ytdfbfcglacalmaa.Lo
end

section
namespace Go.Proofs.Ytdfbfcglacalmaa.Hs
open Go.RowKit Go.Seg Go.Open Go.Lib Go.Arr Go.Stab Go.Row

theorem rCost_any (n : Int) (w : World) : Calls Try.prog 37 #[.int .i64 n] w fun e w' => e = .returned (.bool (Lossy.right n)) ∧ w = w' := by
  by_cases h1 : 0 ≤ n
  · have d1 : decide (0 ≤ n) = true := decide_eq_true h1
    have e : Lossy.right n = decide (n ≤ 4611686018427387904) := by unfold Lossy.right; rw [d1, Bool.true_and]
    rw [e]
    clear e
    go_enter Try.func37, Try.ntmps37
    go_wp2_with fail
    go_ret
    exact ⟨rfl, rfl⟩
  · have d1 : decide (0 ≤ n) = false := decide_eq_false h1
    have e : Lossy.right n = false := by unfold Lossy.right; rw [d1, Bool.false_and]
    rw [e]
    clear e
    go_enter Try.func37, Try.ntmps37
    go_wp2_with fail
    go_ret
    exact ⟨rfl, rfl⟩
theorem rOver_any (x n : Int) (w : World) : Calls Try.prog 49 #[.int .i64 x, .int .i64 n] w fun e w' => e = .returned (.bool (Lossy.over x n)) ∧ w = w' := by
  by_cases h1 : 0 < x
  · have d1 : decide (0 < x) = true := decide_eq_true h1
    have e : Lossy.over x n = decide (x ≤ n) := by unfold Lossy.over; rw [d1, Bool.true_and]
    rw [e]
    clear e
    go_enter Try.func49, Try.ntmps49
    go_wp2_with fail
    go_ret
    exact ⟨rfl, rfl⟩
  · have d1 : decide (0 < x) = false := decide_eq_false h1
    have e : Lossy.over x n = false := by unfold Lossy.over; rw [d1, Bool.false_and]
    rw [e]
    clear e
    go_enter Try.func49, Try.ntmps49
    go_wp2_with fail
    go_ret
    exact ⟨rfl, rfl⟩
theorem rCut_any (n : Int) (w : World) : Calls Try.prog 82 #[.int .i64 n] w fun e w' => e = .returned (.int .i64 (Lossy.cut n)) ∧ w = w' := by
  go_enter Try.func82, Try.ntmps82
  go_wp2_with fail
  all_goals
    go_ret
    refine ⟨?_, rfl⟩
    show Ending.returned (Value.int .i64 _) = _
    congr 2
    unfold Lossy.cut Lossy.mx
    first | omega | (rename_i q; split at q <;> omega)
theorem rPass_any (now n : Int) (w : World) (h0 : 0 ≤ now) (h1 : now ≤ 1099511627776) (hn : 0 < n) : Calls Try.prog 81 #[.int .i64 now, .int .i64 n] w fun e w' => e = .returned (.int .i64 (Lossy.behind now n)) ∧ w = w' := by
  have d0 : decide (n ≤ 0) = false := decide_eq_false (by omega)
  by_cases h2 : 1099511627776 - now < n
  · have d : decide (1099511627776 - now < n) = true := decide_eq_true h2
    have e : Lossy.behind now n = 1099511627776 := by unfold Lossy.behind Lossy.mx; rw [if_pos (by omega)]
    rw [e]
    clear e
    go_enter Try.func81, Try.ntmps81
    go_wp2_with fail
    go_ret
    exact ⟨rfl, rfl⟩
  · have d : decide (1099511627776 - now < n) = false := decide_eq_false h2
    have e : Lossy.behind now n = now + n := by unfold Lossy.behind Lossy.mx; split <;> omega
    rw [e]
    clear e
    go_enter Try.func81, Try.ntmps81
    go_wp2_with fail
    all_goals
      go_ret
      refine ⟨?_, rfl⟩
      first | rfl | (show Ending.returned (Value.int .i64 _) = _; congr 2; omega)
theorem rEnd_any (now ttl : Int) (w : World) : Calls Try.prog 69 #[.int .i64 now, .int .i64 ttl] w fun e w' => (∃ b, e = .returned (.tuple #[.int .i64 (Lossy.endOf now ttl), .bool b])) ∧ w = w' := by
  by_cases h1 : ttl = 0
  · have d : (ttl == 0) = true := beq_iff_eq.2 h1
    have d2 : decide (ttl < 0) = false := decide_eq_false (by omega)
    have e : Lossy.endOf now ttl = 0 := by unfold Lossy.endOf; rw [if_pos h1]
    rw [e]
    clear e h1
    go_enter Try.func69, Try.ntmps69
    go_wp2_with fail
    go_ret2
    exact ⟨⟨_, rfl⟩, rfl⟩
  · have d : (ttl == 0) = false := beq_eq_false_iff_ne.2 h1
    by_cases h2 : ttl < 0
    · have d2 : decide (ttl < 0) = true := decide_eq_true h2
      have e : Lossy.endOf now ttl = 0 := by unfold Lossy.endOf; rw [if_neg h1, if_pos h2]
      rw [e]
      clear e
      go_enter Try.func69, Try.ntmps69
      go_wp2_with fail
      go_ret2
      exact ⟨⟨_, rfl⟩, rfl⟩
    · have d2 : decide (ttl < 0) = false := decide_eq_false h2
      have e : Lossy.endOf now ttl = Lossy.behind (Lossy.cut now) ttl := by unfold Lossy.endOf; rw [if_neg h1, if_neg h2]
      have hc : 0 ≤ Lossy.cut now ∧ Lossy.cut now ≤ 1099511627776 := by unfold Lossy.cut Lossy.mx; omega
      have hp : 0 < ttl := by omega
      have HC := Lib.hid (And.intro hc hp)
      rw [e]
      clear e h1 h2 hc hp
      go_enter Try.func69, Try.ntmps69
      go_wp2_with fail
      refine (rCut_any _ _).mono ?_
      rintro e w' ⟨rfl, rfl⟩
      go_wp2_with fail
      refine (rPass_any _ _ _ HC.out.1.1 HC.out.1.2 HC.out.2).mono ?_
      rintro e w' ⟨rfl, rfl⟩
      go_wp2_with fail
      go_ret2
      exact ⟨⟨_, rfl⟩, rfl⟩
/-- Is the map closed behind calls? -/
def closedR (l : List C) : Bool := l.any fun c => c.k == 6 && c.ok
set_option maxRecDepth 100000 in
set_option maxHeartbeats 4000000 in
theorem rClosed_any (T : List C) (a : Option Addr) (len cap b off : Nat) (w : World) (hV : VC w a len b off T) (hl : len ≤ 60) :
    Calls Try.prog 35 #[.slice a len cap] w fun e w' => e = .returned (.bool (closedR T)) ∧ Ext w w' := by
  have HV := Lib.hid hV
  clear hV
  go_enter Try.func35, Try.ntmps35
  go_wp2_with fail
  go_loopg [3] len (fun g s wr => ∃ i : Nat, s = .int .i64 i ∧ i ≤ len ∧ Hid (wr = w ∧ ∀ S x R, T = S ++ x :: R → S.length < i → (x.k == 6 && x.ok) = false) ∧ len - i ≤ g)
  case atStart => exact ⟨0, rfl, Nat.zero_le _, Lib.hid ⟨rfl, fun S x R _ h => by omega⟩, Nat.le_refl _⟩
  case round =>
    obtain ⟨i, rfl, hi, HR, hg⟩ := hrel
    obtain rfl := HR.out.1
    by_cases hil : i < len
    · have d0 : decide (i < len) = true := decide_eq_true hil
      obtain rfl := HV.out.ad (by omega)
      obtain ⟨S, x, R, eT, hS, hx⟩ := HV.out.get hil
      have HX := Lib.hid (And.intro eT hS)
      have x2 := hx.cl wr (Ext.refl _) 2 _ rfl
      have x11 := hx.cl wr (Ext.refl _) 11 _ rfl
      obtain ⟨ok, hok⟩ : ∃ ok, x.ok = ok := ⟨_, rfl⟩
      rw [hok] at x11
      clear hx eT hS
      by_cases hn : x.k = 6 ∧ ok = true
      · have d1 : (x.k == 6) = true := by simp [hn.1]
        have HE : Hid (closedR T = true) := Lib.hid (by unfold closedR; rw [HX.out.1, List.any_append, List.any_cons, hok, hn.1, hn.2]; simp)
        obtain rfl := hn.2
        clear hn hok
        go_wp2_with fail
        go_ret
        exact ⟨by (rw [HE.out]; try rfl), Ext.refl _⟩
      · have HNN : Hid ((x.k == 6 && x.ok) = false) := Lib.hid (by rw [hok]; by_cases h : x.k = 6 <;> cases ok <;> simp_all)
        by_cases h6 : x.k = 6
        · have d1 : (x.k == 6) = true := by simp [h6]
          obtain rfl : ok = false := by cases ok <;> simp_all
          clear hn hok h6
          go_wp2_with fail
          go_roundg (len - (i + 1))
          case measure => omega
          case rel =>
            refine ⟨i + 1, by go_num, by omega, Lib.hid ⟨rfl, fun S' x' R' e' hlt => ?_⟩, Nat.le_refl _⟩
            by_cases hlt2 : S'.length < i
            · exact HR.out.2 S' x' R' e' hlt2
            · rw [← uniq_at (HX.out.1.symm.trans e') (by have := HX.out.2; omega)]
              exact HNN.out
        · have d1 : (x.k == 6) = false := by simp [h6]
          clear hn hok h6
          go_wp2_with fail
          go_roundg (len - (i + 1))
          case measure => omega
          case rel =>
            refine ⟨i + 1, by go_num, by omega, Lib.hid ⟨rfl, fun S' x' R' e' hlt => ?_⟩, Nat.le_refl _⟩
            by_cases hlt2 : S'.length < i
            · exact HR.out.2 S' x' R' e' hlt2
            · rw [← uniq_at (HX.out.1.symm.trans e') (by have := HX.out.2; omega)]
              exact HNN.out
    · obtain rfl : i = len := by omega
      have d0 : decide (i < i) = false := decide_eq_false (by omega)
      have HE : Hid (closedR T = false) := Lib.hid (by
        unfold closedR
        rw [List.any_eq_false]
        intro x hx
        obtain ⟨S, R, e⟩ := List.append_of_mem hx
        have := HR.out.2 S x R e (by have := HV.out.len; rw [e] at this; simp at this; omega)
        rw [this]
        decide)
      go_wp2_with fail
      go_ret
      exact ⟨by (rw [HE.out]; try rfl), Ext.refl _⟩
end Go.Proofs.Ytdfbfcglacalmaa.Hs
end

section
namespace Go.Proofs.Ytdfbfcglacalmaa.Hs
open Go.RowKit Go.Seg Go.Open Go.Lib Go.Arr Go.Stab Go.Row

/-- What a key has behind calls, the last of them first. -/
def thereRev : List C → Int → Option (Int × Int)
  | [], _ => none
  | x :: r, key => if x.ok = false then thereRev r key else if x.k = 5 ∨ x.k = 6 ∨ (x.k = 3 ∧ x.a = key) then none else if x.k = 2 ∧ x.a = key then some (x.b, Lossy.endOf x.tick x.d) else thereRev r key
def thereR (l : List C) (key : Int) : Option (Int × Int) := thereRev l.reverse key
theorem there_snoc (S : List C) (x : C) (key : Int) : thereR (S ++ [x]) key = if x.ok = false then thereR S key else if x.k = 5 ∨ x.k = 6 ∨ (x.k = 3 ∧ x.a = key) then none else if x.k = 2 ∧ x.a = key then some (x.b, Lossy.endOf x.tick x.d) else thereR S key := by
  unfold thereR
  rw [List.reverse_append, List.reverse_singleton, List.singleton_append]
  rfl
def thereV : Option (Int × Int) → Value
  | none => .tuple #[.int .i64 0, .int .i64 0, .bool false]
  | some v => .tuple #[.int .i64 v.1, .int .i64 v.2, .bool true]
set_option maxRecDepth 100000 in
set_option maxHeartbeats 8000000 in
theorem rThere_any (T : List C) (a : Option Addr) (len cap b off : Nat) (key : Int) (w : World) (hV : VC w a len b off T) (hl : len ≤ 60) :
    Calls Try.prog 48 #[.slice a len cap, .int .i64 key] w fun e w' => e = .returned (thereV (thereR T key)) ∧ Ext w w' := by
  have HV := Lib.hid hV
  clear hV
  go_enter Try.func48, Try.ntmps48
  go_wp2_with fail
  go_loopg [7] len (fun g s wr => ∃ (j : Nat) (S R : List C), s = .int .i64 ((j : Int) - 1) ∧ j ≤ len ∧ Hid (T = S ++ R ∧ S.length = j ∧ thereR T key = thereR S key ∧ Ext w wr) ∧ j ≤ g)
  case atStart => exact ⟨len, T, [], rfl, Nat.le_refl _, Lib.hid ⟨by simp, HV.out.len, rfl, Ext.refl _⟩, Nat.le_refl _⟩
  case round =>
    obtain ⟨j, S, R, rfl, hj, HR, hg⟩ := hrel
    by_cases h0 : 0 < j
    · obtain ⟨i, rfl⟩ : ∃ i, j = i + 1 := ⟨j - 1, by omega⟩
      have hil : i < len := by omega
      obtain rfl := HV.out.ad (by omega)
      obtain ⟨S', x, rfl⟩ : ∃ S' x, S = S' ++ [x] := by
        have hne : S ≠ [] := fun e => by have := HR.out.2.1; rw [e] at this; simp at this
        exact ⟨S.dropLast, S.getLast hne, (List.dropLast_concat_getLast hne).symm⟩
      have hS' : S'.length = i := by have := HR.out.2.1; simp at this; exact this
      have hx := HV.out.at1 S' R x (by rw [HR.out.1]; simp) i hS'.symm
      have l1 := hx.ld wr HR.out.2.2.2
      have s1 := st_new wr x
      have HB := Lib.hid (one_box wr x)
      obtain ⟨w2, hw2⟩ : ∃ w2, w2 = wr.alloc (.cells (enc x).toArray 41) := ⟨_, rfl⟩
      rw [← hw2] at s1
      have HA := Lib.hid (show At1 w2 wr.heap.size 0 x by rw [hw2]; exact at1_blk HB.out.1)
      have HE2 := Lib.hid (show Ext wr w2 by rw [hw2]; exact HB.out.2)
      unfold ZC at s1
      have p2 := HA.out.cl w2 (Ext.refl _) 2 _ rfl
      have p3 := HA.out.cl w2 (Ext.refl _) 3 _ rfl
      have p4 := HA.out.cl w2 (Ext.refl _) 4 _ rfl
      have p6 := HA.out.cl w2 (Ext.refl _) 6 _ rfl
      have p10 := HA.out.cl w2 (Ext.refl _) 10 _ rfl
      have p11 := HA.out.cl w2 (Ext.refl _) 11 _ rfl
      simp only [Nat.zero_add] at p2 p3 p4 p6 p10 p11
      obtain ⟨ok, hok⟩ : ∃ ok, x.ok = ok := ⟨_, rfl⟩
      rw [hok] at p11
      have HSN := Lib.hid (there_snoc S' x key)
      have HOK := Lib.hid hok
      have HSL := Lib.hid hS'
      have HT := Lib.hid (show thereR T key = thereR (S' ++ [x]) key from HR.out.2.2.1)
      clear hx HB hw2 hok hS'
      cases ok with
      | false =>
        go_wp2_with (first | go_guarded | refine Arr.wpList_ldA rfl _ _ rfl _ l1 ?_ | refine Arr.wpList_stA rfl _ _ _ rfl rfl s1 ?_)
        go_roundg i
        case measure => omega
        case rel =>
          refine ⟨i, S', [x] ++ R, by go_num, by omega, Lib.hid ⟨by rw [HR.out.1]; simp, HSL.out, ?_, HR.out.2.2.2.trans HE2.out⟩, Nat.le_refl _⟩
          rw [HT.out, HSN.out, if_pos HOK.out]
      | true =>
        have HOK' := Lib.hid (show ¬ (x.ok = false) ∧ True from ⟨by rw [HOK.out]; decide, trivial⟩)
        by_cases h1 : x.k = 5 ∨ x.k = 6 ∨ (x.k = 3 ∧ x.a = key)
        · have HW : Hid (thereR T key = none) := Lib.hid (by rw [HT.out, HSN.out, if_neg HOK'.out.1, if_pos h1])
          have stop : ∀ (d5 : (x.k == 5) = decide (x.k = 5)), True := fun _ => trivial
          clear stop
          by_cases h5 : x.k = 5
          · have d5 : (x.k == 5) = true := by simp [h5]
            clear h1 h5
            go_wp2_with (first | go_guarded | refine Arr.wpList_ldA rfl _ _ rfl _ l1 ?_ | refine Arr.wpList_stA rfl _ _ _ rfl rfl s1 ?_)
            go_ret3
            exact ⟨by (rw [HW.out]; try rfl), HR.out.2.2.2.trans HE2.out⟩
          · have d5 : (x.k == 5) = false := by simp [h5]
            by_cases h6 : x.k = 6
            · have d6 : (x.k == 6) = true := by simp [h6]
              clear h1 h5 h6
              go_wp2_with (first | go_guarded | refine Arr.wpList_ldA rfl _ _ rfl _ l1 ?_ | refine Arr.wpList_stA rfl _ _ _ rfl rfl s1 ?_)
              go_ret3
              exact ⟨by (rw [HW.out]; try rfl), HR.out.2.2.2.trans HE2.out⟩
            · have d6 : (x.k == 6) = false := by simp [h6]
              have h3 : x.k = 3 ∧ x.a = key := by omega
              have d3 : (x.k == 3) = true := by simp [h3.1]
              have da : (x.a == key) = true := by simp [h3.2]
              clear h1 h5 h6 h3
              go_wp2_with (first | go_guarded | refine Arr.wpList_ldA rfl _ _ rfl _ l1 ?_ | refine Arr.wpList_stA rfl _ _ _ rfl rfl s1 ?_)
              go_ret3
              exact ⟨by (rw [HW.out]; try rfl), HR.out.2.2.2.trans HE2.out⟩
        · have d5 : (x.k == 5) = false := by simp; omega
          have d6 : (x.k == 6) = false := by simp; omega
          by_cases h2 : x.k = 2 ∧ x.a = key
          · have HW : Hid (thereR T key = some (x.b, Lossy.endOf x.tick x.d)) := Lib.hid (by rw [HT.out, HSN.out, if_neg HOK'.out.1, if_neg h1, if_pos h2])
            have d3 : (x.k == 3) = false := by simp; omega
            have d2 : (x.k == 2) = true := by simp [h2.1]
            have da : (x.a == key) = true := by simp [h2.2]
            clear h1 h2
            go_wp2_with (first | go_guarded | refine Arr.wpList_ldA rfl _ _ rfl _ l1 ?_ | refine Arr.wpList_stA rfl _ _ _ rfl rfl s1 ?_)
            refine (rEnd_any _ _ _).mono ?_
            rintro e w3 ⟨⟨bb, rfl⟩, rfl⟩
            go_wp2_with fail
            go_ret3
            exact ⟨by (rw [HW.out]; try rfl), HR.out.2.2.2.trans HE2.out⟩
          · have HW : Hid (thereR T key = thereR S' key) := Lib.hid (by rw [HT.out, HSN.out, if_neg HOK'.out.1, if_neg h1, if_neg h2])
            by_cases ha : x.a = key
            · have da : (x.a == key) = true := by simp [ha]
              have d3 : (x.k == 3) = false := by simp; omega
              have d2 : (x.k == 2) = false := by simp; omega
              clear h1 h2 ha
              go_wp2_with (first | go_guarded | refine Arr.wpList_ldA rfl _ _ rfl _ l1 ?_ | refine Arr.wpList_stA rfl _ _ _ rfl rfl s1 ?_)
              go_roundg i
              case measure => omega
              case rel => exact ⟨i, S', [x] ++ R, by go_num, by omega, Lib.hid ⟨by rw [HR.out.1]; simp, HSL.out, HW.out, HR.out.2.2.2.trans HE2.out⟩, Nat.le_refl _⟩
            · have da : (x.a == key) = false := by simp [ha]
              clear h1 h2 ha
              by_cases h3 : x.k = 3
              · have d3 : (x.k == 3) = true := by simp [h3]
                have d2 : (x.k == 2) = false := by simp [h3]
                clear h3
                go_wp2_with (first | go_guarded | refine Arr.wpList_ldA rfl _ _ rfl _ l1 ?_ | refine Arr.wpList_stA rfl _ _ _ rfl rfl s1 ?_)
                go_roundg i
                case measure => omega
                case rel => exact ⟨i, S', [x] ++ R, by go_num, by omega, Lib.hid ⟨by rw [HR.out.1]; simp, HSL.out, HW.out, HR.out.2.2.2.trans HE2.out⟩, Nat.le_refl _⟩
              · have d3 : (x.k == 3) = false := by simp [h3]
                clear h3
                by_cases h2 : x.k = 2
                · have d2 : (x.k == 2) = true := by simp [h2]
                  clear h2
                  go_wp2_with (first | go_guarded | refine Arr.wpList_ldA rfl _ _ rfl _ l1 ?_ | refine Arr.wpList_stA rfl _ _ _ rfl rfl s1 ?_)
                  go_roundg i
                  case measure => omega
                  case rel => exact ⟨i, S', [x] ++ R, by go_num, by omega, Lib.hid ⟨by rw [HR.out.1]; simp, HSL.out, HW.out, HR.out.2.2.2.trans HE2.out⟩, Nat.le_refl _⟩
                · have d2 : (x.k == 2) = false := by simp [h2]
                  clear h2
                  go_wp2_with (first | go_guarded | refine Arr.wpList_ldA rfl _ _ rfl _ l1 ?_ | refine Arr.wpList_stA rfl _ _ _ rfl rfl s1 ?_)
                  go_roundg i
                  case measure => omega
                  case rel => exact ⟨i, S', [x] ++ R, by go_num, by omega, Lib.hid ⟨by rw [HR.out.1]; simp, HSL.out, HW.out, HR.out.2.2.2.trans HE2.out⟩, Nat.le_refl _⟩
    · obtain rfl : j = 0 := by omega
      go_wp2_with fail
      have e : S = [] := List.eq_nil_of_length_eq_zero HR.out.2.1
      have HW : Hid (thereR T key = none) := Lib.hid (by rw [HR.out.2.2.1, e]; rfl)
      go_ret3
      exact ⟨by (rw [HW.out]; try rfl), HR.out.2.2.2⟩
end Go.Proofs.Ytdfbfcglacalmaa.Hs
end

section
namespace Go.Proofs.Ytdfbfcglacalmaa.Hs
open Go.RowKit Go.Seg Go.Open Go.Lib Go.Arr Go.Stab Go.Row

def getR (l : List C) (key now : Int) : Option Int := match thereR l key with
  | none => none
  | some v => if Lossy.over v.2 now = true then none else some v.1
def getV : Option Int → Value
  | none => .tuple #[.int .i64 0, .bool false]
  | some v => .tuple #[.int .i64 v, .bool true]
theorem rGet_any (T : List C) (a : Option Addr) (len cap b off : Nat) (key nw : Int) (w : World) (hV : VC w a len b off T) (hl : len ≤ 60) :
    Calls Try.prog 36 #[.slice a len cap, .int .i64 key, .int .i64 nw] w fun e w' => e = .returned (getV (getR T key nw)) ∧ Ext w w' := by
  have HV := Lib.hid hV
  clear hV
  obtain ⟨r, hr⟩ : ∃ r, thereR T key = r := ⟨_, rfl⟩
  have HR := Lib.hid hr
  cases r with
  | none =>
    have HG : Hid (getR T key nw = none) := Lib.hid (by unfold getR; rw [hr])
    clear hr
    go_enter Try.func36, Try.ntmps36
    go_wp2_with (first | go_guarded)
    refine (rThere_any T a len cap b off key _ HV.out hl).mono ?_
    rw [HR.out]
    rintro e w2 ⟨rfl, hE⟩
    have HE := Lib.hid hE
    clear hE
    unfold thereV
    go_wp2_with (first | go_guarded)
    go_ret2
    exact ⟨by (rw [HG.out]; try rfl), HE.out⟩
  | some v =>
    obtain ⟨q, hq⟩ : ∃ q, Lossy.over v.2 nw = q := ⟨_, rfl⟩
    have HQ := Lib.hid hq
    have HG : Hid (getR T key nw = if q = true then none else some v.1) := Lib.hid (by unfold getR; rw [hr]; simp only [hq])
    clear hr hq
    go_enter Try.func36, Try.ntmps36
    go_wp2_with (first | go_guarded)
    refine (rThere_any T a len cap b off key _ HV.out hl).mono ?_
    rw [HR.out]
    rintro e w2 ⟨rfl, hE⟩
    have HE := Lib.hid hE
    clear hE
    unfold thereV
    go_wp2_with (first | go_guarded)
    refine (rOver_any _ _ _).mono ?_
    rw [HQ.out]
    rintro e w3 ⟨rfl, rfl⟩
    cases q with
    | true =>
      go_wp2_with (first | go_guarded)
      go_ret2
      exact ⟨by (rw [HG.out]; try rfl), HE.out⟩
    | false =>
      go_wp2_with (first | go_guarded)
      go_ret2
      exact ⟨by (rw [HG.out]; try rfl), HE.out⟩
end Go.Proofs.Ytdfbfcglacalmaa.Hs
end
