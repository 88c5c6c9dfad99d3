/-
  Package lossy: Do, as LossyT says.
-/
import Derived.Test.YtlnmnnoibimknabLossyB
namespace Go.Proofs.Ytlnmnnoibimknab.Lo
open Go.RowKit Go.Seg Go.Open Rk TrTh Lossy

def step (s : Th × Bool) (c : C) : Th × Bool := if may s.1 s.2 c = true then after s c else s
/-- What a call done tells, and does. -/
def Did (w : World) (b : Nat) (s : Th × Bool) (c : C) (e : Ending) (w' : World) : Prop :=
  e = .returned (.bool (may s.1 s.2 c)) ∧ isMap w' b (step s c) ∧ Chg (· = b) w w'

set_option maxRecDepth 100000 in
set_option maxHeartbeats 2000000 in
theorem do_no (b : Nat) (s : Th × Bool) (c : C) (w : World) (h : isMap w b s) (hs : s.1.sz < 700000000) (hy : may s.1 s.2 c = false) : Calls Try.prog 18 #[.pointer (some ⟨b, 0, none⟩), .agg #[.int .i64 c.cl, .int .i64 c.id, .int .i64 c.kd, .int .i64 c.ky, .int .i64 c.vl, .int .i64 c.co, .int .i64 c.tt, .int .i64 c.be, .int .i64 c.wh, .int .i64 c.en, .int .i64 c.tk, .bool c.ok, .int .i64 c.rv]] w (Did w b s c) := by
  have hA : Ext w (w.alloc (Obj.cells #[.int .i64 c.cl, .int .i64 c.id, .int .i64 c.kd, .int .i64 c.ky, .int .i64 c.vl, .int .i64 c.co, .int .i64 c.tt, .int .i64 c.be, .int .i64 c.wh, .int .i64 c.en, .int .i64 c.tk, .bool c.ok, .int .i64 c.rv] 32)) := (Below.refl _ _).alloc (Nat.le_refl _) _
  have HP := Lib.hid (show Blk (w.alloc (Obj.cells #[.int .i64 c.cl, .int .i64 c.id, .int .i64 c.kd, .int .i64 c.ky, .int .i64 c.vl, .int .i64 c.co, .int .i64 c.tt, .int .i64 c.be, .int .i64 c.wh, .int .i64 c.en, .int .i64 c.tk, .bool c.ok, .int .i64 c.rv] 32)) w.heap.size #[.int .i64 c.cl, .int .i64 c.id, .int .i64 c.kd, .int .i64 c.ky, .int .i64 c.vl, .int .i64 c.co, .int .i64 c.tt, .int .i64 c.be, .int .i64 c.wh, .int .i64 c.en, .int .i64 c.tk, .bool c.ok, .int .i64 c.rv] 32 from Blk.new _ _ _)
  have HM := Lib.hid (h.ext hA)
  have HA := Lib.hid hA
  have HY := Lib.hid hy
  clear h hA hy
  have p0 := Blk.cell (i := 0) HP.out rfl
  have p1 := Blk.cell (i := 1) HP.out rfl
  have p2 := Blk.cell (i := 2) HP.out rfl
  have p3 := Blk.cell (i := 3) HP.out rfl
  have p4 := Blk.cell (i := 4) HP.out rfl
  have p5 := Blk.cell (i := 5) HP.out rfl
  have p6 := Blk.cell (i := 6) HP.out rfl
  have p7 := Blk.cell (i := 7) HP.out rfl
  have p8 := Blk.cell (i := 8) HP.out rfl
  have p9 := Blk.cell (i := 9) HP.out rfl
  have p10 := Blk.cell (i := 10) HP.out rfl
  have p11 := Blk.cell (i := 11) HP.out rfl
  have p12 := Blk.cell (i := 12) HP.out rfl
  go_enter Try.func18, Try.ntmps18
  go_wp2_with fail
  refine (may_any _ _ c _ HM.out (by omega)).mono ?_
  rintro e w1 ⟨rfl, hE⟩
  rw [HY.out]
  clear p0 p1 p2 p3 p4 p5 p6 p7 p8 p9 p10 p11 p12
  have HP1 := Lib.hid (HP.out.ext hE)
  obtain ⟨q, hB, hT⟩ := HM.out.ext hE
  have HB := Lib.hid hB
  have HT := Lib.hid hT
  have HE := Lib.hid (below_ext HA.out hE)
  clear hB hT hE
  go_wp2_with fail
  go_ret
  exact ⟨by rw [HY.out]; rfl, by unfold step; rw [if_neg (by rw [HY.out]; simp)]; exact ⟨q, HB.out, HT.out⟩, Chg.of_below HE.out⟩

set_option maxRecDepth 100000 in
set_option maxHeartbeats 2000000 in
theorem do_bare (b : Nat) (s : Th × Bool) (c : C) (w : World) (h : isMap w b s) (hs : s.1.sz < 700000000) (hy : may s.1 s.2 c = true) (ho : c.ok = false) : Calls Try.prog 18 #[.pointer (some ⟨b, 0, none⟩), .agg #[.int .i64 c.cl, .int .i64 c.id, .int .i64 c.kd, .int .i64 c.ky, .int .i64 c.vl, .int .i64 c.co, .int .i64 c.tt, .int .i64 c.be, .int .i64 c.wh, .int .i64 c.en, .int .i64 c.tk, .bool c.ok, .int .i64 c.rv]] w (Did w b s c) := by
  have HO := Lib.hid ho
  clear ho
  have hA : Ext w (w.alloc (Obj.cells #[.int .i64 c.cl, .int .i64 c.id, .int .i64 c.kd, .int .i64 c.ky, .int .i64 c.vl, .int .i64 c.co, .int .i64 c.tt, .int .i64 c.be, .int .i64 c.wh, .int .i64 c.en, .int .i64 c.tk, .bool c.ok, .int .i64 c.rv] 32)) := (Below.refl _ _).alloc (Nat.le_refl _) _
  have HP := Lib.hid (show Blk (w.alloc (Obj.cells #[.int .i64 c.cl, .int .i64 c.id, .int .i64 c.kd, .int .i64 c.ky, .int .i64 c.vl, .int .i64 c.co, .int .i64 c.tt, .int .i64 c.be, .int .i64 c.wh, .int .i64 c.en, .int .i64 c.tk, .bool c.ok, .int .i64 c.rv] 32)) w.heap.size #[.int .i64 c.cl, .int .i64 c.id, .int .i64 c.kd, .int .i64 c.ky, .int .i64 c.vl, .int .i64 c.co, .int .i64 c.tt, .int .i64 c.be, .int .i64 c.wh, .int .i64 c.en, .int .i64 c.tk, .bool c.ok, .int .i64 c.rv] 32 from Blk.new _ _ _)
  have HM := Lib.hid (h.ext hA)
  have HA := Lib.hid hA
  have HY := Lib.hid hy
  clear h hA hy
  have p0 := Blk.cell (i := 0) HP.out rfl
  have p1 := Blk.cell (i := 1) HP.out rfl
  have p2 := Blk.cell (i := 2) HP.out rfl
  have p3 := Blk.cell (i := 3) HP.out rfl
  have p4 := Blk.cell (i := 4) HP.out rfl
  have p5 := Blk.cell (i := 5) HP.out rfl
  have p6 := Blk.cell (i := 6) HP.out rfl
  have p7 := Blk.cell (i := 7) HP.out rfl
  have p8 := Blk.cell (i := 8) HP.out rfl
  have p9 := Blk.cell (i := 9) HP.out rfl
  have p10 := Blk.cell (i := 10) HP.out rfl
  have p11 := Blk.cell (i := 11) HP.out rfl
  have p12 := Blk.cell (i := 12) HP.out rfl
  go_enter Try.func18, Try.ntmps18
  go_wp2_with fail
  refine (may_any _ _ c _ HM.out (by omega)).mono ?_
  rintro e w1 ⟨rfl, hE⟩
  rw [HY.out]
  clear p0 p1 p2 p3 p4 p5 p6 p7 p8 p9 p10 p11 p12
  have HP1 := Lib.hid (HP.out.ext hE)
  obtain ⟨q, hB, hT⟩ := HM.out.ext hE
  have HB := Lib.hid hB
  have HT := Lib.hid hT
  have HE := Lib.hid (below_ext HA.out hE)
  clear hB hT hE
  have q11 := Blk.cell (i := 11) HP1.out rfl
  rw [HO.out] at q11
  go_wp2_with fail
  go_ret
  exact ⟨by rw [HY.out]; rfl, by unfold step after; rw [if_pos HY.out, if_pos HO.out]; exact ⟨q, HB.out, HT.out⟩, Chg.of_below HE.out⟩

set_option maxRecDepth 100000 in
set_option maxHeartbeats 2000000 in
theorem do_else (b : Nat) (s : Th × Bool) (c : C) (w : World) (h : isMap w b s) (hs : s.1.sz < 700000000) (hy : may s.1 s.2 c = true) (ho : c.ok = true) (h2 : c.kd ≠ 2) (h3 : c.kd ≠ 3) (h6 : c.kd ≠ 6) (h5 : c.kd ≠ 5) : Calls Try.prog 18 #[.pointer (some ⟨b, 0, none⟩), .agg #[.int .i64 c.cl, .int .i64 c.id, .int .i64 c.kd, .int .i64 c.ky, .int .i64 c.vl, .int .i64 c.co, .int .i64 c.tt, .int .i64 c.be, .int .i64 c.wh, .int .i64 c.en, .int .i64 c.tk, .bool c.ok, .int .i64 c.rv]] w (Did w b s c) := by
  have HO := Lib.hid ho
  have hst : step s c = s := by unfold step after; rw [if_pos hy, if_neg (by simp [ho]), if_neg h2, if_neg h3, if_neg h6, if_neg h5]
  have HST := Lib.hid hst
  have d2 : (c.kd == 2) = false := by simp [h2]
  have d3 : (c.kd == 3) = false := by simp [h3]
  have d6 : (c.kd == 6) = false := by simp [h6]
  have d5 : (c.kd == 5) = false := by simp [h5]
  clear ho h2 h3 h5 h6 hst
  have hA : Ext w (w.alloc (Obj.cells #[.int .i64 c.cl, .int .i64 c.id, .int .i64 c.kd, .int .i64 c.ky, .int .i64 c.vl, .int .i64 c.co, .int .i64 c.tt, .int .i64 c.be, .int .i64 c.wh, .int .i64 c.en, .int .i64 c.tk, .bool c.ok, .int .i64 c.rv] 32)) := (Below.refl _ _).alloc (Nat.le_refl _) _
  have HP := Lib.hid (show Blk (w.alloc (Obj.cells #[.int .i64 c.cl, .int .i64 c.id, .int .i64 c.kd, .int .i64 c.ky, .int .i64 c.vl, .int .i64 c.co, .int .i64 c.tt, .int .i64 c.be, .int .i64 c.wh, .int .i64 c.en, .int .i64 c.tk, .bool c.ok, .int .i64 c.rv] 32)) w.heap.size #[.int .i64 c.cl, .int .i64 c.id, .int .i64 c.kd, .int .i64 c.ky, .int .i64 c.vl, .int .i64 c.co, .int .i64 c.tt, .int .i64 c.be, .int .i64 c.wh, .int .i64 c.en, .int .i64 c.tk, .bool c.ok, .int .i64 c.rv] 32 from Blk.new _ _ _)
  have HM := Lib.hid (h.ext hA)
  have HA := Lib.hid hA
  have HY := Lib.hid hy
  clear h hA hy
  have p0 := Blk.cell (i := 0) HP.out rfl
  have p1 := Blk.cell (i := 1) HP.out rfl
  have p2 := Blk.cell (i := 2) HP.out rfl
  have p3 := Blk.cell (i := 3) HP.out rfl
  have p4 := Blk.cell (i := 4) HP.out rfl
  have p5 := Blk.cell (i := 5) HP.out rfl
  have p6 := Blk.cell (i := 6) HP.out rfl
  have p7 := Blk.cell (i := 7) HP.out rfl
  have p8 := Blk.cell (i := 8) HP.out rfl
  have p9 := Blk.cell (i := 9) HP.out rfl
  have p10 := Blk.cell (i := 10) HP.out rfl
  have p11 := Blk.cell (i := 11) HP.out rfl
  have p12 := Blk.cell (i := 12) HP.out rfl
  go_enter Try.func18, Try.ntmps18
  go_wp2_with fail
  refine (may_any _ _ c _ HM.out (by omega)).mono ?_
  rintro e w1 ⟨rfl, hE⟩
  rw [HY.out]
  clear p0 p1 p2 p3 p4 p5 p6 p7 p8 p9 p10 p11 p12
  have HP1 := Lib.hid (HP.out.ext hE)
  obtain ⟨q, hB, hT⟩ := HM.out.ext hE
  have HB := Lib.hid hB
  have HT := Lib.hid hT
  have HE := Lib.hid (below_ext HA.out hE)
  clear hB hT hE
  have q2 := Blk.cell (i := 2) HP1.out rfl
  have q11 := Blk.cell (i := 11) HP1.out rfl
  rw [HO.out] at q11
  go_wp2_with fail
  go_ret
  exact ⟨by rw [HY.out]; rfl, by rw [HST.out]; exact ⟨q, HB.out, HT.out⟩, Chg.of_below HE.out⟩

set_option maxRecDepth 100000 in
set_option maxHeartbeats 2000000 in
theorem do_set (b : Nat) (s : Th × Bool) (c : C) (w : World) (h : isMap w b s) (hs : s.1.sz < 700000000) (hy : may s.1 s.2 c = true) (ho : c.ok = true) (hk : c.kd = 2) : Calls Try.prog 18 #[.pointer (some ⟨b, 0, none⟩), .agg #[.int .i64 c.cl, .int .i64 c.id, .int .i64 c.kd, .int .i64 c.ky, .int .i64 c.vl, .int .i64 c.co, .int .i64 c.tt, .int .i64 c.be, .int .i64 c.wh, .int .i64 c.en, .int .i64 c.tk, .bool c.ok, .int .i64 c.rv]] w (Did w b s c) := by
  have HO := Lib.hid ho
  have hst : step s c = (T.put cint c.ky (c.vl, endOf c.tk c.tt) s.1, s.2) := by unfold step after; rw [if_pos hy, if_neg (by simp [ho])]; simp [hk]
  have HST := Lib.hid hst
  have d2 : (c.kd == 2) = true := by simp [hk]
  clear ho hk hst
  have hA : Ext w (w.alloc (Obj.cells #[.int .i64 c.cl, .int .i64 c.id, .int .i64 c.kd, .int .i64 c.ky, .int .i64 c.vl, .int .i64 c.co, .int .i64 c.tt, .int .i64 c.be, .int .i64 c.wh, .int .i64 c.en, .int .i64 c.tk, .bool c.ok, .int .i64 c.rv] 32)) := (Below.refl _ _).alloc (Nat.le_refl _) _
  have HP := Lib.hid (show Blk (w.alloc (Obj.cells #[.int .i64 c.cl, .int .i64 c.id, .int .i64 c.kd, .int .i64 c.ky, .int .i64 c.vl, .int .i64 c.co, .int .i64 c.tt, .int .i64 c.be, .int .i64 c.wh, .int .i64 c.en, .int .i64 c.tk, .bool c.ok, .int .i64 c.rv] 32)) w.heap.size #[.int .i64 c.cl, .int .i64 c.id, .int .i64 c.kd, .int .i64 c.ky, .int .i64 c.vl, .int .i64 c.co, .int .i64 c.tt, .int .i64 c.be, .int .i64 c.wh, .int .i64 c.en, .int .i64 c.tk, .bool c.ok, .int .i64 c.rv] 32 from Blk.new _ _ _)
  have HM := Lib.hid (h.ext hA)
  have HA := Lib.hid hA
  have HY := Lib.hid hy
  clear h hA hy
  have p0 := Blk.cell (i := 0) HP.out rfl
  have p1 := Blk.cell (i := 1) HP.out rfl
  have p2 := Blk.cell (i := 2) HP.out rfl
  have p3 := Blk.cell (i := 3) HP.out rfl
  have p4 := Blk.cell (i := 4) HP.out rfl
  have p5 := Blk.cell (i := 5) HP.out rfl
  have p6 := Blk.cell (i := 6) HP.out rfl
  have p7 := Blk.cell (i := 7) HP.out rfl
  have p8 := Blk.cell (i := 8) HP.out rfl
  have p9 := Blk.cell (i := 9) HP.out rfl
  have p10 := Blk.cell (i := 10) HP.out rfl
  have p11 := Blk.cell (i := 11) HP.out rfl
  have p12 := Blk.cell (i := 12) HP.out rfl
  go_enter Try.func18, Try.ntmps18
  go_wp2_with fail
  refine (may_any _ _ c _ HM.out (by omega)).mono ?_
  rintro e w1 ⟨rfl, hE⟩
  rw [HY.out]
  clear p0 p1 p2 p3 p4 p5 p6 p7 p8 p9 p10 p11 p12
  have HP1 := Lib.hid (HP.out.ext hE)
  obtain ⟨q, hB, hT⟩ := HM.out.ext hE
  have HB := Lib.hid hB
  have HT := Lib.hid hT
  have HE := Lib.hid (below_ext HA.out hE)
  clear hB hT hE
  have q2 := Blk.cell (i := 2) HP1.out rfl
  have q6 := Blk.cell (i := 6) HP1.out rfl
  have q10 := Blk.cell (i := 10) HP1.out rfl
  have q11 := Blk.cell (i := 11) HP1.out rfl
  rw [HO.out] at q11
  go_wp2_with fail
  refine (end_any _ _ _).mono ?_
  rintro e w' ⟨⟨eb, rfl⟩, rfl⟩
  go_wp2_with fail
  refine wp_region_segs 16 [([13, 4], false), ([2, 1], true)] (by kernel_rfl) (by kernel_rfl) ?_
  apply segs_cons
  · intro W hW
    have b0 := Blk.cell (i := 0) (HB.out.ext hW.of_drew) rfl
    have q3 := Blk.cell (i := 3) (HP1.out.ext hW.of_drew) rfl
    have q4 := Blk.cell (i := 4) (HP1.out.ext hW.of_drew) rfl
    simp only [runsT, runsF, rep, pick]
    go_wp2_with fail
    exact ⟨rfl, rfl⟩
  simp only [runsT, runsF, rep, left]
  go_wp2_with fail
  refine (Put_any c.ky (c.vl, endOf c.tk c.tt) _ _ _ (HT.out.ext (Ext.drew _)) (by omega)).mono ?_
  rintro e w2 ⟨q2, rfl, hq2, hE2⟩
  have hB2 := (HB.out.ext (Ext.drew _)).ext hE2
  have b0 := Blk.cell (i := 0) hB2 rfl
  have f0 := Blk.frozen hB2 0
  have HB2 := Lib.hid hB2
  have HQ := Lib.hid hq2
  clear hB2 hq2
  go_wp2_with fail
  refine ⟨fun _ => hE2, ?_⟩
  apply segs_cons
  · intro W hW
    simp only [runsT, runsF, rep, pick]
    go_wp2_with fail
    exact ⟨rfl, rfl⟩
  simp only [runsT, runsF, rep, left]
  go_wp2_with fail
  refine ⟨fun h => (by cases h), ?_⟩
  apply segs_nil
  go_wp2_with fail
  go_ret
  have hC : Chg (· = b) w2 (w2.setCell ⟨b, 0, none⟩ (.pointer q2)) := Chg.set _ _ _ _
  have HB3 := Blk.set (cs' := #[.pointer q2, .bool s.2]) HB2.out 0 (.pointer q2) rfl
  exact ⟨by rw [HY.out]; rfl, by rw [HST.out]; exact ⟨q2, HB3, HQ.out.chg hC (Off.one HB2.out (by decide)) (Off.one HB2.out (by decide))⟩, (Chg.of_below (below_ext (below_ext HE.out (Ext.drew _)) hE2)).trans hC⟩

set_option maxRecDepth 100000 in
set_option maxHeartbeats 2000000 in
theorem do_del (b : Nat) (s : Th × Bool) (c : C) (w : World) (h : isMap w b s) (hs : s.1.sz < 700000000) (hy : may s.1 s.2 c = true) (ho : c.ok = true) (hk : c.kd = 3) : Calls Try.prog 18 #[.pointer (some ⟨b, 0, none⟩), .agg #[.int .i64 c.cl, .int .i64 c.id, .int .i64 c.kd, .int .i64 c.ky, .int .i64 c.vl, .int .i64 c.co, .int .i64 c.tt, .int .i64 c.be, .int .i64 c.wh, .int .i64 c.en, .int .i64 c.tk, .bool c.ok, .int .i64 c.rv]] w (Did w b s c) := by
  have HO := Lib.hid ho
  have hst : step s c = (T.drop cint c.ky s.1, s.2) := by unfold step after; rw [if_pos hy, if_neg (by simp [ho])]; simp [hk]
  have HST := Lib.hid hst
  have d2 : (c.kd == 2) = false := by simp [hk]
  have d3 : (c.kd == 3) = true := by simp [hk]
  clear ho hk hst
  have hA : Ext w (w.alloc (Obj.cells #[.int .i64 c.cl, .int .i64 c.id, .int .i64 c.kd, .int .i64 c.ky, .int .i64 c.vl, .int .i64 c.co, .int .i64 c.tt, .int .i64 c.be, .int .i64 c.wh, .int .i64 c.en, .int .i64 c.tk, .bool c.ok, .int .i64 c.rv] 32)) := (Below.refl _ _).alloc (Nat.le_refl _) _
  have HP := Lib.hid (show Blk (w.alloc (Obj.cells #[.int .i64 c.cl, .int .i64 c.id, .int .i64 c.kd, .int .i64 c.ky, .int .i64 c.vl, .int .i64 c.co, .int .i64 c.tt, .int .i64 c.be, .int .i64 c.wh, .int .i64 c.en, .int .i64 c.tk, .bool c.ok, .int .i64 c.rv] 32)) w.heap.size #[.int .i64 c.cl, .int .i64 c.id, .int .i64 c.kd, .int .i64 c.ky, .int .i64 c.vl, .int .i64 c.co, .int .i64 c.tt, .int .i64 c.be, .int .i64 c.wh, .int .i64 c.en, .int .i64 c.tk, .bool c.ok, .int .i64 c.rv] 32 from Blk.new _ _ _)
  have HM := Lib.hid (h.ext hA)
  have HA := Lib.hid hA
  have HY := Lib.hid hy
  clear h hA hy
  have p0 := Blk.cell (i := 0) HP.out rfl
  have p1 := Blk.cell (i := 1) HP.out rfl
  have p2 := Blk.cell (i := 2) HP.out rfl
  have p3 := Blk.cell (i := 3) HP.out rfl
  have p4 := Blk.cell (i := 4) HP.out rfl
  have p5 := Blk.cell (i := 5) HP.out rfl
  have p6 := Blk.cell (i := 6) HP.out rfl
  have p7 := Blk.cell (i := 7) HP.out rfl
  have p8 := Blk.cell (i := 8) HP.out rfl
  have p9 := Blk.cell (i := 9) HP.out rfl
  have p10 := Blk.cell (i := 10) HP.out rfl
  have p11 := Blk.cell (i := 11) HP.out rfl
  have p12 := Blk.cell (i := 12) HP.out rfl
  go_enter Try.func18, Try.ntmps18
  go_wp2_with fail
  refine (may_any _ _ c _ HM.out (by omega)).mono ?_
  rintro e w1 ⟨rfl, hE⟩
  rw [HY.out]
  clear p0 p1 p2 p3 p4 p5 p6 p7 p8 p9 p10 p11 p12
  have HP1 := Lib.hid (HP.out.ext hE)
  obtain ⟨q, hB, hT⟩ := HM.out.ext hE
  have HB := Lib.hid hB
  have HT := Lib.hid hT
  have HE := Lib.hid (below_ext HA.out hE)
  clear hB hT hE
  have q2 := Blk.cell (i := 2) HP1.out rfl
  have q11 := Blk.cell (i := 11) HP1.out rfl
  rw [HO.out] at q11
  go_wp2_with fail
  refine wp_region_segs 11 [([8, 4], false), ([2, 1], true)] (by kernel_rfl) (by kernel_rfl) ?_
  apply segs_cons
  · intro W hW
    have b0 := Blk.cell (i := 0) (HB.out.ext hW.of_drew) rfl
    have q3 := Blk.cell (i := 3) (HP1.out.ext hW.of_drew) rfl
    simp only [runsT, runsF, rep, pick]
    go_wp2_with fail
    exact ⟨rfl, rfl⟩
  simp only [runsT, runsF, rep, left]
  go_wp2_with fail
  refine (Drop_any _ _ _ _ (HT.out.ext (Ext.drew _)) (by omega)).mono ?_
  rintro e w2 ⟨q2, rfl, hq2, hE2⟩
  have hB2 := (HB.out.ext (Ext.drew _)).ext hE2
  have b0 := Blk.cell (i := 0) hB2 rfl
  have f0 := Blk.frozen hB2 0
  have HB2 := Lib.hid hB2
  have HQ := Lib.hid hq2
  clear hB2 hq2
  go_wp2_with fail
  refine ⟨fun _ => hE2, ?_⟩
  apply segs_cons
  · intro W hW
    simp only [runsT, runsF, rep, pick]
    go_wp2_with fail
    exact ⟨rfl, rfl⟩
  simp only [runsT, runsF, rep, left]
  go_wp2_with fail
  refine ⟨fun h => (by cases h), ?_⟩
  apply segs_nil
  go_wp2_with fail
  go_ret
  have hC : Chg (· = b) w2 (w2.setCell ⟨b, 0, none⟩ (.pointer q2)) := Chg.set _ _ _ _
  have HB3 := Blk.set (cs' := #[.pointer q2, .bool s.2]) HB2.out 0 (.pointer q2) rfl
  exact ⟨by rw [HY.out]; rfl, by rw [HST.out]; exact ⟨q2, HB3, HQ.out.chg hC (Off.one HB2.out (by decide)) (Off.one HB2.out (by decide))⟩, (Chg.of_below (below_ext (below_ext HE.out (Ext.drew _)) hE2)).trans hC⟩

set_option maxRecDepth 100000 in
set_option maxHeartbeats 2000000 in
theorem do_close (b : Nat) (s : Th × Bool) (c : C) (w : World) (h : isMap w b s) (hs : s.1.sz < 700000000) (hy : may s.1 s.2 c = true) (ho : c.ok = true) (hk : c.kd = 6) : Calls Try.prog 18 #[.pointer (some ⟨b, 0, none⟩), .agg #[.int .i64 c.cl, .int .i64 c.id, .int .i64 c.kd, .int .i64 c.ky, .int .i64 c.vl, .int .i64 c.co, .int .i64 c.tt, .int .i64 c.be, .int .i64 c.wh, .int .i64 c.en, .int .i64 c.tk, .bool c.ok, .int .i64 c.rv]] w (Did w b s c) := by
  have HO := Lib.hid ho
  have hst : step s c = (.nil, true) := by unfold step after; rw [if_pos hy, if_neg (by simp [ho])]; simp [hk]
  have HST := Lib.hid hst
  have d2 : (c.kd == 2) = false := by simp [hk]
  have d3 : (c.kd == 3) = false := by simp [hk]
  have d6 : (c.kd == 6) = true := by simp [hk]
  clear ho hk hst
  have hA : Ext w (w.alloc (Obj.cells #[.int .i64 c.cl, .int .i64 c.id, .int .i64 c.kd, .int .i64 c.ky, .int .i64 c.vl, .int .i64 c.co, .int .i64 c.tt, .int .i64 c.be, .int .i64 c.wh, .int .i64 c.en, .int .i64 c.tk, .bool c.ok, .int .i64 c.rv] 32)) := (Below.refl _ _).alloc (Nat.le_refl _) _
  have HP := Lib.hid (show Blk (w.alloc (Obj.cells #[.int .i64 c.cl, .int .i64 c.id, .int .i64 c.kd, .int .i64 c.ky, .int .i64 c.vl, .int .i64 c.co, .int .i64 c.tt, .int .i64 c.be, .int .i64 c.wh, .int .i64 c.en, .int .i64 c.tk, .bool c.ok, .int .i64 c.rv] 32)) w.heap.size #[.int .i64 c.cl, .int .i64 c.id, .int .i64 c.kd, .int .i64 c.ky, .int .i64 c.vl, .int .i64 c.co, .int .i64 c.tt, .int .i64 c.be, .int .i64 c.wh, .int .i64 c.en, .int .i64 c.tk, .bool c.ok, .int .i64 c.rv] 32 from Blk.new _ _ _)
  have HM := Lib.hid (h.ext hA)
  have HA := Lib.hid hA
  have HY := Lib.hid hy
  clear h hA hy
  have p0 := Blk.cell (i := 0) HP.out rfl
  have p1 := Blk.cell (i := 1) HP.out rfl
  have p2 := Blk.cell (i := 2) HP.out rfl
  have p3 := Blk.cell (i := 3) HP.out rfl
  have p4 := Blk.cell (i := 4) HP.out rfl
  have p5 := Blk.cell (i := 5) HP.out rfl
  have p6 := Blk.cell (i := 6) HP.out rfl
  have p7 := Blk.cell (i := 7) HP.out rfl
  have p8 := Blk.cell (i := 8) HP.out rfl
  have p9 := Blk.cell (i := 9) HP.out rfl
  have p10 := Blk.cell (i := 10) HP.out rfl
  have p11 := Blk.cell (i := 11) HP.out rfl
  have p12 := Blk.cell (i := 12) HP.out rfl
  go_enter Try.func18, Try.ntmps18
  go_wp2_with fail
  refine (may_any _ _ c _ HM.out (by omega)).mono ?_
  rintro e w1 ⟨rfl, hE⟩
  rw [HY.out]
  clear p0 p1 p2 p3 p4 p5 p6 p7 p8 p9 p10 p11 p12
  have HP1 := Lib.hid (HP.out.ext hE)
  obtain ⟨q, hB, hT⟩ := HM.out.ext hE
  have HB := Lib.hid hB
  have HT := Lib.hid hT
  have HE := Lib.hid (below_ext HA.out hE)
  clear hB hT hE
  have q2 := Blk.cell (i := 2) HP1.out rfl
  have q11 := Blk.cell (i := 11) HP1.out rfl
  rw [HO.out] at q11
  have b1 := Blk.cell (i := 1) HB.out rfl
  have f1 := Blk.frozen HB.out 1
  have HB1 := Lib.hid (Blk.set (cs' := #[.pointer q, .bool true]) HB.out 1 (.bool true) rfl)
  go_wp2_with fail
  refine (none_any _).mono ?_
  rintro e w2 ⟨q2, rfl, hq2, hE2⟩
  have hB2 := HB1.out.ext hE2
  have b0 := Blk.cell (i := 0) hB2 rfl
  have f0 := Blk.frozen hB2 0
  have HB2 := Lib.hid hB2
  have HQ := Lib.hid hq2
  clear hB2 hq2
  go_wp2_with fail
  go_ret
  have hC : Chg (· = b) w2 (w2.setCell ⟨b, 0, none⟩ (.pointer q2)) := Chg.set _ _ _ _
  have HB3 := Blk.set (cs' := #[.pointer q2, .bool true]) HB2.out 0 (.pointer q2) rfl
  exact ⟨by rw [HY.out]; rfl, by rw [HST.out]; exact ⟨q2, HB3, HQ.out.chg hC (Off.one HB2.out (by decide)) (Off.one HB2.out (by decide))⟩, (Chg.of_below HE.out).trans ((Chg.set _ _ _ _).trans ((Chg.of_below hE2).trans hC))⟩


set_option maxRecDepth 100000 in
set_option maxHeartbeats 2000000 in
theorem do_clear (b : Nat) (s : Th × Bool) (c : C) (w : World) (h : isMap w b s) (hs : s.1.sz < 700000000) (hy : may s.1 s.2 c = true) (ho : c.ok = true) (hk : c.kd = 5) : Calls Try.prog 18 #[.pointer (some ⟨b, 0, none⟩), .agg #[.int .i64 c.cl, .int .i64 c.id, .int .i64 c.kd, .int .i64 c.ky, .int .i64 c.vl, .int .i64 c.co, .int .i64 c.tt, .int .i64 c.be, .int .i64 c.wh, .int .i64 c.en, .int .i64 c.tk, .bool c.ok, .int .i64 c.rv]] w (Did w b s c) := by
  have HO := Lib.hid ho
  have hst : step s c = (.nil, s.2) := by unfold step after; rw [if_pos hy, if_neg (by simp [ho])]; simp [hk]
  have HST := Lib.hid hst
  have d2 : (c.kd == 2) = false := by simp [hk]
  have d3 : (c.kd == 3) = false := by simp [hk]
  have d6 : (c.kd == 6) = false := by simp [hk]
  have d5 : (c.kd == 5) = true := by simp [hk]
  clear ho hk hst
  have hA : Ext w (w.alloc (Obj.cells #[.int .i64 c.cl, .int .i64 c.id, .int .i64 c.kd, .int .i64 c.ky, .int .i64 c.vl, .int .i64 c.co, .int .i64 c.tt, .int .i64 c.be, .int .i64 c.wh, .int .i64 c.en, .int .i64 c.tk, .bool c.ok, .int .i64 c.rv] 32)) := (Below.refl _ _).alloc (Nat.le_refl _) _
  have HP := Lib.hid (show Blk (w.alloc (Obj.cells #[.int .i64 c.cl, .int .i64 c.id, .int .i64 c.kd, .int .i64 c.ky, .int .i64 c.vl, .int .i64 c.co, .int .i64 c.tt, .int .i64 c.be, .int .i64 c.wh, .int .i64 c.en, .int .i64 c.tk, .bool c.ok, .int .i64 c.rv] 32)) w.heap.size #[.int .i64 c.cl, .int .i64 c.id, .int .i64 c.kd, .int .i64 c.ky, .int .i64 c.vl, .int .i64 c.co, .int .i64 c.tt, .int .i64 c.be, .int .i64 c.wh, .int .i64 c.en, .int .i64 c.tk, .bool c.ok, .int .i64 c.rv] 32 from Blk.new _ _ _)
  have HM := Lib.hid (h.ext hA)
  have HA := Lib.hid hA
  have HY := Lib.hid hy
  clear h hA hy
  have p0 := Blk.cell (i := 0) HP.out rfl
  have p1 := Blk.cell (i := 1) HP.out rfl
  have p2 := Blk.cell (i := 2) HP.out rfl
  have p3 := Blk.cell (i := 3) HP.out rfl
  have p4 := Blk.cell (i := 4) HP.out rfl
  have p5 := Blk.cell (i := 5) HP.out rfl
  have p6 := Blk.cell (i := 6) HP.out rfl
  have p7 := Blk.cell (i := 7) HP.out rfl
  have p8 := Blk.cell (i := 8) HP.out rfl
  have p9 := Blk.cell (i := 9) HP.out rfl
  have p10 := Blk.cell (i := 10) HP.out rfl
  have p11 := Blk.cell (i := 11) HP.out rfl
  have p12 := Blk.cell (i := 12) HP.out rfl
  go_enter Try.func18, Try.ntmps18
  go_wp2_with fail
  refine (may_any _ _ c _ HM.out (by omega)).mono ?_
  rintro e w1 ⟨rfl, hE⟩
  rw [HY.out]
  clear p0 p1 p2 p3 p4 p5 p6 p7 p8 p9 p10 p11 p12
  have HP1 := Lib.hid (HP.out.ext hE)
  obtain ⟨q, hB, hT⟩ := HM.out.ext hE
  have HB := Lib.hid hB
  have HT := Lib.hid hT
  have HE := Lib.hid (below_ext HA.out hE)
  clear hB hT hE
  have q2 := Blk.cell (i := 2) HP1.out rfl
  have q11 := Blk.cell (i := 11) HP1.out rfl
  rw [HO.out] at q11
  go_wp2_with fail
  refine (none_any _).mono ?_
  rintro e w2 ⟨q2, rfl, hq2, hE2⟩
  have hB2 := HB.out.ext hE2
  have b0 := Blk.cell (i := 0) hB2 rfl
  have f0 := Blk.frozen hB2 0
  have HB2 := Lib.hid hB2
  have HQ := Lib.hid hq2
  clear hB2 hq2
  go_wp2_with fail
  go_ret
  have hC : Chg (· = b) w2 (w2.setCell ⟨b, 0, none⟩ (.pointer q2)) := Chg.set _ _ _ _
  have HB3 := Blk.set (cs' := #[.pointer q2, .bool s.2]) HB2.out 0 (.pointer q2) rfl
  exact ⟨by rw [HY.out]; rfl, by rw [HST.out]; exact ⟨q2, HB3, HQ.out.chg hC (Off.one HB2.out (by decide)) (Off.one HB2.out (by decide))⟩, (Chg.of_below (below_ext HE.out hE2)).trans hC⟩


theorem do_any (b : Nat) (s : Th × Bool) (c : C) (w : World) (h : isMap w b s) (hs : s.1.sz < 700000000) : Calls Try.prog 18 #[.pointer (some ⟨b, 0, none⟩), .agg #[.int .i64 c.cl, .int .i64 c.id, .int .i64 c.kd, .int .i64 c.ky, .int .i64 c.vl, .int .i64 c.co, .int .i64 c.tt, .int .i64 c.be, .int .i64 c.wh, .int .i64 c.en, .int .i64 c.tk, .bool c.ok, .int .i64 c.rv]] w (Did w b s c) := by
  by_cases hy : may s.1 s.2 c = true
  · by_cases ho : c.ok = true
    · by_cases h2 : c.kd = 2
      · exact do_set b s c w h hs hy ho h2
      · by_cases h3 : c.kd = 3
        · exact do_del b s c w h hs hy ho h3
        · by_cases h6 : c.kd = 6
          · exact do_close b s c w h hs hy ho h6
          · by_cases h5 : c.kd = 5
            · exact do_clear b s c w h hs hy ho h5
            · exact do_else b s c w h hs hy ho h2 h3 h6 h5
    · exact do_bare b s c w h hs hy (by simpa using ho)
  · exact do_no b s c w h hs (by simpa using hy)

end Go.Proofs.Ytlnmnnoibimknab.Lo
