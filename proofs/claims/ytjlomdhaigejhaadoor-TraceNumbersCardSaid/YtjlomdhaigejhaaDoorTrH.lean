/-
  Layer 45: the law's awake; TraceTells.
  The library's table of powers and the kinds' names lie there; no other condition.
-/
import Derived.Test.YtjlomdhaigejhaaDoorTrG
namespace Go.Proofs.YtjlomdhaigejhaaDoor.Trc
open Go.RowKit Go.Shelf Go.Seg Go.Open Go.Lib Prg

theorem int_one (k : Nat) (h : k < 10) : intS (k : Int) = Str [UInt8.ofNat (48 + k)] := by unfold intS; rw [itoa_nonneg, decDigits_one h]
theorem aw_call : callS awC = ⟨#[48, 46, 51, 32, 115, 101, 116, 32, 49, 32, 53, 32, 51, 32, 48, 32, 61, 32, 111, 107, 32, 48, 32, 91, 52, 32, 54, 32, 55, 93, 32, 64, 48]⟩ := by
  have i0 : intS 0 = Str [48] := int_one 0 (by decide)
  have i1 : intS 1 = Str [49] := int_one 1 (by decide)
  have i3 : intS 3 = Str [51] := int_one 3 (by decide)
  have i4 : intS 4 = Str [52] := int_one 4 (by decide)
  have i5 : intS 5 = Str [53] := int_one 5 (by decide)
  have i6 : intS 6 = Str [54] := int_one 6 (by decide)
  have i7 : intS 7 = Str [55] := int_one 7 (by decide)
  have hr : rightB awC.f = true := by decide
  have ho : ownL (awC.f 0) = [1, 2, 3, 4] := by decide
  have e0 : awC.f 0 = 2 := rfl
  have e1 : awC.f 1 = 1 := rfl
  have e2 : awC.f 2 = 5 := rfl
  have e3 : awC.f 3 = 3 := rfl
  have e4 : awC.f 4 = 0 := rfl
  unfold callS
  rw [if_pos hr]
  unfold wordsW headW numW tailW
  rw [ho]
  simp only [List.length_cons, List.length_nil, List.take, List.map_cons, List.map_nil, e0, e1, e2, e3, e4, show awC.client = 0 from rfl, show awC.id = 3 from rfl, show awC.bgn = 4 from rfl, show awC.at_ = 6 from rfl, show awC.end_ = 7 from rfl, show awC.tick = 0 from rfl, show awC.ok = true from rfl, show awC.val = 0 from rfl, i0, i1, i3, i4, i5, i6, i7]
  rfl
set_option maxRecDepth 100000 in
theorem awake_any (w : World) (hT : Tab w) (hN : NamesAt w) : Calls Tryd.prog 11 #[] w fun e w' => e = .returned (.bool true) ∧ Ext w w' := by
  have HT := Lib.hid hT
  have HN := Lib.hid hN
  clear hT hN
  have hc := fun W => Call_any awC awC_ok W
  rw [aw_call] at hc
  have HCc := Lib.hid hc
  clear hc
  go_enter Tryd.func11, Tryd.ntmps11
  go_wp2_with fail
  obtain ⟨w1, hw1⟩ : ∃ W, w.alloc (.cells (#[.int .i64 awC.client, .int .i64 awC.id, .int .i64 (awC.f 0), .int .i64 (awC.f 1), .int .i64 (awC.f 2), .int .i64 (awC.f 3), .int .i64 (awC.f 4), .int .i64 awC.bgn, .int .i64 awC.at_, .int .i64 awC.end_, .int .i64 awC.tick, .bool awC.ok, .int .i64 awC.val]) 25) = W := ⟨_, rfl⟩
  have hE : Ext w w1 := by rw [← hw1]; exact (Below.refl _ _).alloc (Nat.le_refl _) _
  have HE := Lib.hid hE
  rw [show w.alloc (.cells (#[.int .i64 0, .int .i64 3, .int .i64 2, .int .i64 1, .int .i64 5, .int .i64 3, .int .i64 0, .int .i64 4, .int .i64 6, .int .i64 7, .int .i64 0, .bool true, .int .i64 0]) 25) = w1 from hw1]
  clear hw1 hE
  refine (HCc.out w1 (tab_ext HT.out HE.out) (HN.out.ext HE.out)).mono ?_
  rintro e w2 ⟨rfl, hE2⟩
  have HE2 := Lib.hid (HE.out.trans hE2)
  clear hE2
  go_wp2_with fail
  go_ret
  exact ⟨rfl, HE2.out⟩
set_option maxHeartbeats 4000000 in
set_option maxRecDepth 100000 in
theorem tells_walk (c : Cl) (who stage tick : Int) (sa : Option Addr) (sn sc : Nat) (cause : Int) (hash : Nat) (conf val id : Int) (h : Ok c ∧ (I64 who ∧ I64 tick) ∧ (I64 val ∧ I64 id ∧ hash < 18446744073709551616)) (w : World) (hN : NamesAt w) (hT : Tab w) :
    Calls Tryd.prog 3 #[.agg #[.int .i64 c.client, .int .i64 c.id, .int .i64 (c.f 0), .int .i64 (c.f 1), .int .i64 (c.f 2), .int .i64 (c.f 3), .int .i64 (c.f 4), .int .i64 c.bgn, .int .i64 c.at_, .int .i64 c.end_, .int .i64 c.tick, .bool c.ok, .int .i64 c.val], .agg #[.int .i64 who, .int .i64 stage, .int .i64 tick, .slice sa sn sc], .agg #[.int .i64 cause, .int .u64 hash, .int .u64 conf, .int .i64 val, .int .i64 id]] w fun e w' => e = .returned (.bool true) ∧ Ext w w' := by
  have HT := Lib.hid hT
  have HN := Lib.hid hN
  have HK := Lib.hid h
  clear hT hN h
  obtain ⟨w0, hw0⟩ : ∃ W, ((w.alloc (.cells (#[.int .i64 c.client, .int .i64 c.id, .int .i64 (c.f 0), .int .i64 (c.f 1), .int .i64 (c.f 2), .int .i64 (c.f 3), .int .i64 (c.f 4), .int .i64 c.bgn, .int .i64 c.at_, .int .i64 c.end_, .int .i64 c.tick, .bool c.ok, .int .i64 c.val]) 25)).alloc (.cells (#[.int .i64 who, .int .i64 stage, .int .i64 tick, .slice sa sn sc]) 28)).alloc (.cells (#[.int .i64 cause, .int .u64 hash, .int .u64 conf, .int .i64 val, .int .i64 id]) 31) = W := ⟨_, rfl⟩
  have hB : Blk w0 w.heap.size (#[.int .i64 c.client, .int .i64 c.id, .int .i64 (c.f 0), .int .i64 (c.f 1), .int .i64 (c.f 2), .int .i64 (c.f 3), .int .i64 (c.f 4), .int .i64 c.bgn, .int .i64 c.at_, .int .i64 c.end_, .int .i64 c.tick, .bool c.ok, .int .i64 c.val]) 25 := by rw [← hw0]; exact ((blk_at rfl).al _).al _
  have hB1 : Blk w0 (w.heap.size + 1) (#[.int .i64 who, .int .i64 stage, .int .i64 tick, .slice sa sn sc]) 28 := by rw [← hw0]; exact (blk_at (by simp)).al _
  have hB2 : Blk w0 (w.heap.size + 1 + 1) (#[.int .i64 cause, .int .u64 hash, .int .u64 conf, .int .i64 val, .int .i64 id]) 31 := by rw [← hw0]; exact blk_at (by simp)
  have hE0 : Ext w w0 := by rw [← hw0]; exact (((Below.refl _ _).alloc (Nat.le_refl _) _).alloc (by simp) _).alloc (by simp; omega) _
  have HX0 := Lib.hid hE0
  have HW0 := Lib.hid hw0
  have HB := Lib.hid (And.intro hB (And.intro hB1 hB2))
  clear hB hB1 hB2 hE0 hw0
  go_enter Tryd.func3, Tryd.ntmps3
  go_upto_region 1 with fail
  rw [HW0.out]
  refine wp_region_segs 27 [([1, 1, 1, 24], false), ([0, 24], false), ([5, 1, 3, 14], false), ([0, 14], false), ([4, 1, 1, 7], false), ([0, 7], false), ([3, 3], false), ([2], false)] (by kernel_rfl) (by kernel_rfl) ?_
  apply segs_cons
  · intro W hW
    have hc0 : ∀ i, W.cell? ⟨w.heap.size, i, none⟩ = (#[.int .i64 c.client, .int .i64 c.id, .int .i64 (c.f 0), .int .i64 (c.f 1), .int .i64 (c.f 2), .int .i64 (c.f 3), .int .i64 (c.f 4), .int .i64 c.bgn, .int .i64 c.at_, .int .i64 c.end_, .int .i64 c.tick, .bool c.ok, .int .i64 c.val] : Array Value)[i]? := fun i => ((HB.out.1).ext ((Ext.drew w0).trans hW)).cells i
    have hc1 : ∀ i, W.cell? ⟨w.heap.size + 1, i, none⟩ = (#[.int .i64 who, .int .i64 stage, .int .i64 tick, .slice sa sn sc] : Array Value)[i]? := fun i => ((HB.out.2.1).ext ((Ext.drew w0).trans hW)).cells i
    have hc2 : ∀ i, W.cell? ⟨w.heap.size + 1 + 1, i, none⟩ = (#[.int .i64 cause, .int .u64 hash, .int .u64 conf, .int .i64 val, .int .i64 id] : Array Value)[i]? := fun i => ((HB.out.2.2).ext ((Ext.drew w0).trans hW)).cells i
    simp only [runsT, runsF, rep, pick]
    go_wp2_with fail
    exact ⟨rfl, rfl⟩
  simp only [runsT, runsF, rep, left]
  go_wp2_with fail
  skip
  refine (Call_any c HK.out.1 _ (tab_ext HT.out (HX0.out.trans (Ext.drew w0))) (HN.out.ext (HX0.out.trans (Ext.drew w0)))).mono ?_
  rintro e q1 ⟨rfl, hq1⟩
  have HV1 := Lib.hid (show Ext w0 q1 from Ext.trans (Ext.drew w0) hq1)
  go_wp2_with fail
  refine ⟨fun _ => hq1, ?_⟩
  apply segs_cons
  · intro W hW
    exact ⟨rfl, rfl⟩
  simp only [runsT, runsF, rep, left]
  go_wp2_with fail
  clear hq1
  refine (rCall c HK.out.1 _).mono ?_
  rintro e q2 ⟨rfl, hq2⟩
  have HV2 := Lib.hid (show Ext w0 q2 from Ext.trans HV1.out hq2)
  go_wp2_with fail
  refine ⟨fun _ => hq2, ?_⟩
  apply segs_cons
  · intro W hW
    have hc0 : ∀ i, W.cell? ⟨w.heap.size, i, none⟩ = (#[.int .i64 c.client, .int .i64 c.id, .int .i64 (c.f 0), .int .i64 (c.f 1), .int .i64 (c.f 2), .int .i64 (c.f 3), .int .i64 (c.f 4), .int .i64 c.bgn, .int .i64 c.at_, .int .i64 c.end_, .int .i64 c.tick, .bool c.ok, .int .i64 c.val] : Array Value)[i]? := fun i => ((HB.out.1).ext (HV2.out.trans hW)).cells i
    have hc1 : ∀ i, W.cell? ⟨w.heap.size + 1, i, none⟩ = (#[.int .i64 who, .int .i64 stage, .int .i64 tick, .slice sa sn sc] : Array Value)[i]? := fun i => ((HB.out.2.1).ext (HV2.out.trans hW)).cells i
    have hc2 : ∀ i, W.cell? ⟨w.heap.size + 1 + 1, i, none⟩ = (#[.int .i64 cause, .int .u64 hash, .int .u64 conf, .int .i64 val, .int .i64 id] : Array Value)[i]? := fun i => ((HB.out.2.2).ext (HV2.out.trans hW)).cells i
    simp only [runsT, runsF, rep, pick]
    go_wp2_with fail
    exact ⟨rfl, rfl⟩
  simp only [runsT, runsF, rep, left]
  go_wp2_with fail
  clear hq2
  refine (Turn_any c.at_ who stage tick sa sn sc ⟨HK.out.1.at_, HK.out.2.1⟩ _ (tab_ext HT.out (HX0.out.trans HV2.out))).mono ?_
  rintro e q3 ⟨rfl, hq3⟩
  have HV3 := Lib.hid (show Ext w0 q3 from Ext.trans HV2.out hq3)
  go_wp2_with fail
  refine ⟨fun _ => hq3, ?_⟩
  apply segs_cons
  · intro W hW
    exact ⟨rfl, rfl⟩
  simp only [runsT, runsF, rep, left]
  go_wp2_with fail
  clear hq3
  refine (rTurn c.at_ who stage tick sa sn sc ⟨HK.out.1.at_, HK.out.2.1⟩ _).mono ?_
  rintro e q4 ⟨rfl, hq4⟩
  have HV4 := Lib.hid (show Ext w0 q4 from Ext.trans HV3.out hq4)
  go_wp2_with fail
  refine ⟨fun _ => hq4, ?_⟩
  apply segs_cons
  · intro W hW
    have hc0 : ∀ i, W.cell? ⟨w.heap.size, i, none⟩ = (#[.int .i64 c.client, .int .i64 c.id, .int .i64 (c.f 0), .int .i64 (c.f 1), .int .i64 (c.f 2), .int .i64 (c.f 3), .int .i64 (c.f 4), .int .i64 c.bgn, .int .i64 c.at_, .int .i64 c.end_, .int .i64 c.tick, .bool c.ok, .int .i64 c.val] : Array Value)[i]? := fun i => ((HB.out.1).ext (HV4.out.trans hW)).cells i
    have hc1 : ∀ i, W.cell? ⟨w.heap.size + 1, i, none⟩ = (#[.int .i64 who, .int .i64 stage, .int .i64 tick, .slice sa sn sc] : Array Value)[i]? := fun i => ((HB.out.2.1).ext (HV4.out.trans hW)).cells i
    have hc2 : ∀ i, W.cell? ⟨w.heap.size + 1 + 1, i, none⟩ = (#[.int .i64 cause, .int .u64 hash, .int .u64 conf, .int .i64 val, .int .i64 id] : Array Value)[i]? := fun i => ((HB.out.2.2).ext (HV4.out.trans hW)).cells i
    simp only [runsT, runsF, rep, pick]
    go_wp2_with fail
    exact ⟨rfl, rfl⟩
  simp only [runsT, runsF, rep, left]
  go_wp2_with fail
  clear hq4
  refine (Event_any cause hash conf val id HK.out.2.2 _ (tab_ext HT.out (HX0.out.trans HV4.out))).mono ?_
  rintro e q5 ⟨rfl, hq5⟩
  have HV5 := Lib.hid (show Ext w0 q5 from Ext.trans HV4.out hq5)
  go_wp2_with fail
  refine ⟨fun _ => hq5, ?_⟩
  apply segs_cons
  · intro W hW
    exact ⟨rfl, rfl⟩
  simp only [runsT, runsF, rep, left]
  go_wp2_with fail
  clear hq5
  refine (rEvent cause hash conf val id HK.out.2.2 _).mono ?_
  rintro e q6 ⟨rfl, hq6⟩
  have HV6 := Lib.hid (show Ext w0 q6 from Ext.trans HV5.out hq6)
  go_wp2_with fail
  refine ⟨fun _ => hq6, ?_⟩
  apply segs_cons
  · intro W hW
    simp only [runsT, runsF, rep, pick]
    go_wp2_with fail
    exact ⟨rfl, rfl⟩
  simp only [runsT, runsF, rep, left]
  go_wp2_with fail
  clear hq6
  refine (awake_any _ (tab_ext HT.out (HX0.out.trans HV6.out)) (HN.out.ext (HX0.out.trans HV6.out))).mono ?_
  rintro e q7 ⟨rfl, hq7⟩
  have HV7 := Lib.hid (show Ext w0 q7 from Ext.trans HV6.out hq7)
  go_wp2_with fail
  refine ⟨fun _ => hq7, ?_⟩
  apply segs_cons
  · intro W hW
    simp only [runsT, runsF, rep, pick]
    go_wp2_with fail
    exact ⟨rfl, rfl⟩
  simp only [runsT, runsF, rep, left]
  go_wp2_with fail
  go_ret
  exact ⟨rfl, HX0.out.trans HV7.out⟩
end Go.Proofs.YtjlomdhaigejhaaDoor.Trc
