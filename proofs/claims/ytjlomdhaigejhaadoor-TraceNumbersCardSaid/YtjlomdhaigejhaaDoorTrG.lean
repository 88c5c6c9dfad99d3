/-
  Package trace: the line of an event, and the document's; the law's awake.
  The library's table of powers and the kinds' names lie there; no other condition.
-/
import Derived.Test.YtjlomdhaigejhaaDoorTrE
import Derived.Test.YtjlomdhaigejhaaDoorTrF
namespace Go.Proofs.YtjlomdhaigejhaaDoor.Trc
open Go.RowKit Go.Shelf Go.Seg Go.Open Go.Lib Prg

def U64 (n : Int) : Prop := 0 ≤ n ∧ n ≤ 18446744073709551615
def eventS (cause : Int) (hash : Nat) (id val : Int) : ByteArray := cat (cat (cat (cat (cat (cat (nameE cause) ⟨#[32]⟩) (decS hash)) ⟨#[32]⟩) (intS id)) ⟨#[32]⟩) (intS val)
theorem FmtU (u : Nat) (hu64 : u < 18446744073709551616) (w : World) (htab : Tab w) : Calls Tryd.prog 26 #[.int .u64 u, .int .i64 10] w fun e w' => e = .returned (.string (decS u)) ∧ Ext w w' := FormatUint_any u hu64 w htab
theorem rDecS (u : Nat) (hu64 : u < 18446744073709551616) (w : World) : Calls Tryd.prog 27 #[.int .u64 u] w fun e w' => e = .returned (.string (decS u)) ∧ Ext w w' := rDec u w hu64
theorem evn_at (k : Nat) (h : k < 6) : (#[.string ⟨#[101, 118, 105, 99, 116]⟩, .string ⟨#[101, 120, 112, 105, 114, 101]⟩, .string ⟨#[100, 101, 108]⟩, .string ⟨#[99, 108, 101, 97, 114]⟩, .string ⟨#[99, 108, 111, 115, 101]⟩, .string ⟨#[114, 101, 106, 101, 99, 116]⟩] : Array Value)[k]? = some (.string (nameE (k + 1))) := by
  match k, h with
  | 0, _ => rfl
  | 1, _ => rfl
  | 2, _ => rfl
  | 3, _ => rfl
  | 4, _ => rfl
  | 5, _ => rfl
set_option maxHeartbeats 4000000 in
set_option maxRecDepth 100000 in
theorem Event_any (cause : Int) (hash : Nat) (conf val id : Int) (h : I64 val ∧ I64 id ∧ hash < 18446744073709551616) (w : World) (hT : Tab w) : Calls Tryd.prog 9 #[.agg #[.int .i64 cause, .int .u64 hash, .int .u64 conf, .int .i64 val, .int .i64 id]] w fun e w' => e = .returned (.string (eventS cause hash id val)) ∧ Ext w w' := by
  have HK := Lib.hid h
  have HT := Lib.hid hT
  have hB : Blk (w.alloc (.cells #[.int .i64 cause, .int .u64 hash, .int .u64 conf, .int .i64 val, .int .i64 id] 37)) w.heap.size #[.int .i64 cause, .int .u64 hash, .int .u64 conf, .int .i64 val, .int .i64 id] 37 := Blk.new _ _ _
  have hE0 : Ext w (w.alloc (.cells #[.int .i64 cause, .int .u64 hash, .int .u64 conf, .int .i64 val, .int .i64 id] 37)) := (Below.refl _ _).alloc (Nat.le_refl _) _
  obtain ⟨w0, hw0⟩ : ∃ W, w.alloc (.cells #[.int .i64 cause, .int .u64 hash, .int .u64 conf, .int .i64 val, .int .i64 id] 37) = W := ⟨_, rfl⟩
  have HW0 := Lib.hid hw0
  rw [hw0] at hB hE0
  have HX0 := Lib.hid hE0
  have HC := Lib.hid (show ∀ W, Ext w0 W → Blk W w.heap.size #[.int .i64 cause, .int .u64 hash, .int .u64 conf, .int .i64 val, .int .i64 id] 37 from fun W hW => hB.ext hW)
  obtain ⟨sn, hsn⟩ : ∃ s, nameE cause = s := ⟨_, rfl⟩
  obtain ⟨v1, hv1⟩ : ∃ s, cat sn ⟨#[32]⟩ = s := ⟨_, rfl⟩
  obtain ⟨v2, hv2⟩ : ∃ s, cat v1 (decS hash) = s := ⟨_, rfl⟩
  obtain ⟨v3, hv3⟩ : ∃ s, cat v2 ⟨#[32]⟩ = s := ⟨_, rfl⟩
  obtain ⟨v4, hv4⟩ : ∃ s, cat v3 (intS id) = s := ⟨_, rfl⟩
  obtain ⟨v5, hv5⟩ : ∃ s, cat v4 ⟨#[32]⟩ = s := ⟨_, rfl⟩
  obtain ⟨v6, hv6⟩ : ∃ s, cat v5 (intS val) = s := ⟨_, rfl⟩
  have l1 : (ByteArray.mk #[32]).size = 1 := rfl
  have zn : sn.size ≤ 6 := by rw [← hsn]; exact nameE_size _
  have z0 := intS_size h.1
  have zt := intS_size h.2.1
  have zd := decS_size h.2.2
  have z1 : v1.size ≤ 7 := by rw [← hv1, cat_size]; omega
  have z2 : v2.size ≤ 27 := by rw [← hv2, cat_size]; omega
  have z3 : v3.size ≤ 28 := by rw [← hv3, cat_size]; omega
  have z4 : v4.size ≤ 49 := by rw [← hv4, cat_size]; omega
  have z5 : v5.size ≤ 50 := by rw [← hv5, cat_size]; omega
  have a1 := sum _ _ _ hv1 (by omega) (by omega)
  have a2 := sum _ _ _ hv2 (by omega) (by omega)
  have a3 := sum _ _ _ hv3 (by omega) (by omega)
  have a4 := sum _ _ _ hv4 (by omega) (by omega)
  have a5 := sum _ _ _ hv5 (by omega) (by omega)
  have a6 := sum _ _ _ hv6 (by omega) (by omega)
  have HF := Lib.hid (show eventS cause hash id val = v6 by unfold eventS; rw [hsn, hv1, hv2, hv3, hv4, hv5, hv6])
  rw [HF.out]
  have HSn := Lib.hid hsn
  clear h hB hE0 hw0 hsn hv1 hv2 hv3 hv4 hv5 hv6 zn z0 zt zd z1 z2 z3 z4 z5 l1 hT
  go_enter Tryd.func9, Tryd.ntmps9
  go_wp2_with fail
  rw [HW0.out]
  refine wp_region_segs 19 [([2, 2, 2, 3, 2, 3, 2, 3], false), ([1, 9], false), ([2, 6], false), ([2, 3], false), ([2], false)] (by kernel_rfl) (by kernel_rfl) ?_
  apply segs_cons
  · intro W hW
    have hc : ∀ i, W.cell? ⟨w.heap.size, i, none⟩ = (#[.int .i64 cause, .int .u64 hash, .int .u64 conf, .int .i64 val, .int .i64 id] : Array Value)[i]? := fun i => (HC.out W ((Ext.refl w0).trans hW.of_drew)).cells i
    simp only [runsT, runsF, rep, pick]
    go_wp2_with fail
    exact ⟨rfl, rfl⟩
  simp only [runsT, runsF, rep, left]
  go_wp2_with fail
  refine (EName_any cause _).mono ?_
  rw [HSn.out]
  rintro e w' ⟨rfl, rfl⟩
  go_wp2_with fail
  refine ⟨fun _ => Ext.refl _, ?_⟩
  apply segs_cons
  · intro W hW
    simp only [runsT, runsF, rep, pick]
    go_wp2_with fail
    exact ⟨rfl, rfl⟩
  simp only [runsT, runsF, rep, left]
  go_wp2_with fail
  refine (FmtU hash HK.out.2.2 _ (tab_ext HT.out (HX0.out.trans ((Ext.refl w0).trans (Ext.drew w0))))).mono ?_
  rintro e q1 ⟨rfl, hq1⟩
  have HV1 := Lib.hid (show Ext w0 q1 from ((Ext.refl w0).trans (Ext.drew w0)).trans hq1)
  go_wp2_with fail
  refine ⟨fun _ => hq1, ?_⟩
  apply segs_cons
  · intro W hW
    simp only [runsT, runsF, rep, pick]
    go_wp2_with fail
    exact ⟨rfl, rfl⟩
  simp only [runsT, runsF, rep, left]
  go_wp2_with fail
  clear hq1
  refine (Int_any (id) HK.out.2.1 _ (tab_ext HT.out (HX0.out.trans HV1.out))).mono ?_
  rintro e q2 ⟨rfl, hq2⟩
  have HV2 := Lib.hid (show Ext w0 q2 from HV1.out.trans hq2)
  go_wp2_with fail
  refine ⟨fun _ => hq2, ?_⟩
  apply segs_cons
  · intro W hW
    simp only [runsT, runsF, rep, pick]
    go_wp2_with fail
    exact ⟨rfl, rfl⟩
  simp only [runsT, runsF, rep, left]
  go_wp2_with fail
  clear hq2
  refine (Int_any (val) HK.out.1 _ (tab_ext HT.out (HX0.out.trans HV2.out))).mono ?_
  rintro e q3 ⟨rfl, hq3⟩
  have HV3 := Lib.hid (show Ext w0 q3 from HV2.out.trans hq3)
  go_wp2_with fail
  refine ⟨fun _ => hq3, ?_⟩
  apply segs_cons
  · intro W hW
    simp only [runsT, runsF, rep, pick]
    go_wp2_with fail
    exact ⟨rfl, rfl⟩
  simp only [runsT, runsF, rep, left]
  go_wp2_with fail
  go_ret
  exact ⟨rfl, HX0.out.trans HV3.out⟩
set_option maxHeartbeats 4000000 in
set_option maxRecDepth 100000 in
theorem rEvent (cause : Int) (hash : Nat) (conf val id : Int) (h : I64 val ∧ I64 id ∧ hash < 18446744073709551616) (w : World) : Calls Tryd.prog 10 #[.agg #[.int .i64 cause, .int .u64 hash, .int .u64 conf, .int .i64 val, .int .i64 id]] w fun e w' => e = .returned (.string (eventS cause hash id val)) ∧ Ext w w' := by
  have HK := Lib.hid h

  have hB : Blk (w.alloc (.cells #[.int .i64 cause, .int .u64 hash, .int .u64 conf, .int .i64 val, .int .i64 id] 31)) w.heap.size #[.int .i64 cause, .int .u64 hash, .int .u64 conf, .int .i64 val, .int .i64 id] 31 := Blk.new _ _ _
  have hE0 : Ext w (w.alloc (.cells #[.int .i64 cause, .int .u64 hash, .int .u64 conf, .int .i64 val, .int .i64 id] 31)) := (Below.refl _ _).alloc (Nat.le_refl _) _
  obtain ⟨w0, hw0⟩ : ∃ W, w.alloc (.cells #[.int .i64 cause, .int .u64 hash, .int .u64 conf, .int .i64 val, .int .i64 id] 31) = W := ⟨_, rfl⟩
  have HW0 := Lib.hid hw0
  rw [hw0] at hB hE0
  have HX0 := Lib.hid hE0
  have HC := Lib.hid (show ∀ W, Ext w0 W → Blk W w.heap.size #[.int .i64 cause, .int .u64 hash, .int .u64 conf, .int .i64 val, .int .i64 id] 31 from fun W hW => hB.ext hW)
  obtain ⟨sn, hsn⟩ : ∃ s, nameE cause = s := ⟨_, rfl⟩
  obtain ⟨v1, hv1⟩ : ∃ s, cat sn ⟨#[32]⟩ = s := ⟨_, rfl⟩
  obtain ⟨v2, hv2⟩ : ∃ s, cat v1 (decS hash) = s := ⟨_, rfl⟩
  obtain ⟨v3, hv3⟩ : ∃ s, cat v2 ⟨#[32]⟩ = s := ⟨_, rfl⟩
  obtain ⟨v4, hv4⟩ : ∃ s, cat v3 (intS id) = s := ⟨_, rfl⟩
  obtain ⟨v5, hv5⟩ : ∃ s, cat v4 ⟨#[32]⟩ = s := ⟨_, rfl⟩
  obtain ⟨v6, hv6⟩ : ∃ s, cat v5 (intS val) = s := ⟨_, rfl⟩
  have l1 : (ByteArray.mk #[32]).size = 1 := rfl
  have zn : sn.size ≤ 6 := by rw [← hsn]; exact nameE_size _
  have z0 := intS_size h.1
  have zt := intS_size h.2.1
  have zd := decS_size h.2.2
  have z1 : v1.size ≤ 7 := by rw [← hv1, cat_size]; omega
  have z2 : v2.size ≤ 27 := by rw [← hv2, cat_size]; omega
  have z3 : v3.size ≤ 28 := by rw [← hv3, cat_size]; omega
  have z4 : v4.size ≤ 49 := by rw [← hv4, cat_size]; omega
  have z5 : v5.size ≤ 50 := by rw [← hv5, cat_size]; omega
  have a1 := sum _ _ _ hv1 (by omega) (by omega)
  have a2 := sum _ _ _ hv2 (by omega) (by omega)
  have a3 := sum _ _ _ hv3 (by omega) (by omega)
  have a4 := sum _ _ _ hv4 (by omega) (by omega)
  have a5 := sum _ _ _ hv5 (by omega) (by omega)
  have a6 := sum _ _ _ hv6 (by omega) (by omega)
  have HF := Lib.hid (show eventS cause hash id val = v6 by unfold eventS; rw [hsn, hv1, hv2, hv3, hv4, hv5, hv6])
  rw [HF.out]
  have HSn := Lib.hid hsn
  clear h hB hE0 hw0 hsn hv1 hv2 hv3 hv4 hv5 hv6 zn z0 zt zd z1 z2 z3 z4 z5 l1 
  by_cases h1 : 1 ≤ cause
  · by_cases h6 : cause ≤ 6
    · obtain ⟨k, rfl⟩ : ∃ k : Nat, cause = (k : Int) + 1 := ⟨(cause - 1).toNat, by omega⟩
      have hk : k < 6 := by omega
      have d1 : decide ((1 : Int) ≤ (k : Int) + 1) = true := decide_eq_true h1
      have d6 : decide ((k : Int) + 1 ≤ 6) = true := decide_eq_true h6
      have wq : wrap64 ((k : Int) + 1 - 1) = (k : Int) := by rw [show (k : Int) + 1 - 1 = (k : Int) by omega]; exact w64 ⟨by omega, by omega⟩
      have p0 : (0 : Int) ≤ (k : Int) := by omega
      have p1 : (k : Int) < 6 := by omega
      clear h1 h6
      go_enter Tryd.func10, Tryd.ntmps10
      go_upto_region 1 with fail
      rw [HW0.out]
      have hc : ∀ i, w0.cell? ⟨w.heap.size, i, none⟩ = (#[.int .i64 ((k : Int) + 1), .int .u64 hash, .int .u64 conf, .int .i64 val, .int .i64 id] : Array Value)[i]? := fun i => (HC.out w0 (Ext.refl _)).cells i
      have hcy : ∀ i, (w0.alloc (.cells #[.string ⟨#[101, 118, 105, 99, 116]⟩, .string ⟨#[101, 120, 112, 105, 114, 101]⟩, .string ⟨#[100, 101, 108]⟩, .string ⟨#[99, 108, 101, 97, 114]⟩, .string ⟨#[99, 108, 111, 115, 101]⟩, .string ⟨#[114, 101, 106, 101, 99, 116]⟩] 9)).cell? ⟨w.heap.size, i, none⟩ = (#[.int .i64 ((k : Int) + 1), .int .u64 hash, .int .u64 conf, .int .i64 val, .int .i64 id] : Array Value)[i]? := fun i => (HC.out _ ((Below.refl _ _).alloc (Nat.le_refl _) _)).cells i
      have hev : (w0.alloc (.cells #[.string ⟨#[101, 118, 105, 99, 116]⟩, .string ⟨#[101, 120, 112, 105, 114, 101]⟩, .string ⟨#[100, 101, 108]⟩, .string ⟨#[99, 108, 101, 97, 114]⟩, .string ⟨#[99, 108, 111, 115, 101]⟩, .string ⟨#[114, 101, 106, 101, 99, 116]⟩] 9)).cell? ⟨w0.heap.size, k, none⟩ = some (.string sn) := by
        rw [(show Blk (w0.alloc (.cells #[.string ⟨#[101, 118, 105, 99, 116]⟩, .string ⟨#[101, 120, 112, 105, 114, 101]⟩, .string ⟨#[100, 101, 108]⟩, .string ⟨#[99, 108, 101, 97, 114]⟩, .string ⟨#[99, 108, 111, 115, 101]⟩, .string ⟨#[114, 101, 106, 101, 99, 116]⟩] 9)) w0.heap.size #[.string ⟨#[101, 118, 105, 99, 116]⟩, .string ⟨#[101, 120, 112, 105, 114, 101]⟩, .string ⟨#[100, 101, 108]⟩, .string ⟨#[99, 108, 101, 97, 114]⟩, .string ⟨#[99, 108, 111, 115, 101]⟩, .string ⟨#[114, 101, 106, 101, 99, 116]⟩] 9 from Blk.new _ _ _).cells k, evn_at k hk, HSn.out]
      have hw1 : Ext w0 (w0.alloc (.cells #[.string ⟨#[101, 118, 105, 99, 116]⟩, .string ⟨#[101, 120, 112, 105, 114, 101]⟩, .string ⟨#[100, 101, 108]⟩, .string ⟨#[99, 108, 101, 97, 114]⟩, .string ⟨#[99, 108, 111, 115, 101]⟩, .string ⟨#[114, 101, 106, 101, 99, 116]⟩] 9)) := (Below.refl _ _).alloc (Nat.le_refl _) _
      have HW1 := Lib.hid hw1
      clear hw1
      go_upto_region 4 with fail
      clear hc hcy hev
      obtain ⟨w1, hw1⟩ : ∃ W, w0.alloc (.cells #[.string ⟨#[101, 118, 105, 99, 116]⟩, .string ⟨#[101, 120, 112, 105, 114, 101]⟩, .string ⟨#[100, 101, 108]⟩, .string ⟨#[99, 108, 101, 97, 114]⟩, .string ⟨#[99, 108, 111, 115, 101]⟩, .string ⟨#[114, 101, 106, 101, 99, 116]⟩] 9) = W := ⟨_, rfl⟩
      rw [hw1] at HW1 ⊢
      clear hw1
      refine wp_region_segs 17 [([4, 3, 2, 3, 2, 3], false), ([2, 6], false), ([2, 3], false), ([2], false)] (by kernel_rfl) (by kernel_rfl) ?_
      apply segs_cons
      · intro W hW
        have hc : ∀ i, W.cell? ⟨w.heap.size, i, none⟩ = (#[.int .i64 ((k : Int) + 1), .int .u64 hash, .int .u64 conf, .int .i64 val, .int .i64 id] : Array Value)[i]? := fun i => (HC.out W (HW1.out.trans hW.of_drew)).cells i
        simp only [runsT, runsF, rep, pick]
        go_wp2_with fail
        exact ⟨rfl, rfl⟩
      simp only [runsT, runsF, rep, left]
      go_wp2_with fail
      refine (rDecS hash HK.out.2.2 _).mono ?_
      rintro e q1 ⟨rfl, hq1⟩
      have HV1 := Lib.hid (show Ext w0 q1 from (HW1.out.trans (Ext.drew w1)).trans hq1)
      go_wp2_with fail
      refine ⟨fun _ => hq1, ?_⟩
      apply segs_cons
      · intro W hW
        simp only [runsT, runsF, rep, pick]
        go_wp2_with fail
        exact ⟨rfl, rfl⟩
      simp only [runsT, runsF, rep, left]
      go_wp2_with fail
      clear hq1
      refine (rInt (id) HK.out.2.1 _).mono ?_
      rintro e q2 ⟨rfl, hq2⟩
      have HV2 := Lib.hid (show Ext w0 q2 from HV1.out.trans hq2)
      go_wp2_with fail
      refine ⟨fun _ => hq2, ?_⟩
      apply segs_cons
      · intro W hW
        simp only [runsT, runsF, rep, pick]
        go_wp2_with fail
        exact ⟨rfl, rfl⟩
      simp only [runsT, runsF, rep, left]
      go_wp2_with fail
      clear hq2
      refine (rInt (val) HK.out.1 _).mono ?_
      rintro e q3 ⟨rfl, hq3⟩
      have HV3 := Lib.hid (show Ext w0 q3 from HV2.out.trans hq3)
      go_wp2_with fail
      refine ⟨fun _ => hq3, ?_⟩
      apply segs_cons
      · intro W hW
        simp only [runsT, runsF, rep, pick]
        go_wp2_with fail
        exact ⟨rfl, rfl⟩
      simp only [runsT, runsF, rep, left]
      go_wp2_with fail
      go_ret
      exact ⟨rfl, HX0.out.trans HV3.out⟩
    · have hs : (⟨#[]⟩ : ByteArray) = sn := by rw [← HSn.out]; unfold nameE; rw [if_neg (by omega), if_neg (by omega), if_neg (by omega), if_neg (by omega), if_neg (by omega), if_neg (by omega)]
      subst hs
      have d1 : decide (1 ≤ cause) = true := decide_eq_true h1
      have d6 : decide (cause ≤ 6) = false := decide_eq_false h6
      clear h1 h6
      go_enter Tryd.func10, Tryd.ntmps10
      go_upto_region 1 with fail
      rw [HW0.out]
      have hc : ∀ i, w0.cell? ⟨w.heap.size, i, none⟩ = (#[.int .i64 cause, .int .u64 hash, .int .u64 conf, .int .i64 val, .int .i64 id] : Array Value)[i]? := fun i => (HC.out w0 (Ext.refl _)).cells i
      go_upto_region 4 with fail
      clear hc
      refine wp_region_segs 17 [([4, 3, 2, 3, 2, 3], false), ([2, 6], false), ([2, 3], false), ([2], false)] (by kernel_rfl) (by kernel_rfl) ?_
      apply segs_cons
      · intro W hW
        have hc : ∀ i, W.cell? ⟨w.heap.size, i, none⟩ = (#[.int .i64 cause, .int .u64 hash, .int .u64 conf, .int .i64 val, .int .i64 id] : Array Value)[i]? := fun i => (HC.out W ((Ext.refl w0).trans hW.of_drew)).cells i
        simp only [runsT, runsF, rep, pick]
        go_wp2_with fail
        exact ⟨rfl, rfl⟩
      simp only [runsT, runsF, rep, left]
      go_wp2_with fail
      refine (rDecS hash HK.out.2.2 _).mono ?_
      rintro e q1 ⟨rfl, hq1⟩
      have HV1 := Lib.hid (show Ext w0 q1 from ((Ext.refl w0).trans (Ext.drew w0)).trans hq1)
      go_wp2_with fail
      refine ⟨fun _ => hq1, ?_⟩
      apply segs_cons
      · intro W hW
        simp only [runsT, runsF, rep, pick]
        go_wp2_with fail
        exact ⟨rfl, rfl⟩
      simp only [runsT, runsF, rep, left]
      go_wp2_with fail
      clear hq1
      refine (rInt (id) HK.out.2.1 _).mono ?_
      rintro e q2 ⟨rfl, hq2⟩
      have HV2 := Lib.hid (show Ext w0 q2 from HV1.out.trans hq2)
      go_wp2_with fail
      refine ⟨fun _ => hq2, ?_⟩
      apply segs_cons
      · intro W hW
        simp only [runsT, runsF, rep, pick]
        go_wp2_with fail
        exact ⟨rfl, rfl⟩
      simp only [runsT, runsF, rep, left]
      go_wp2_with fail
      clear hq2
      refine (rInt (val) HK.out.1 _).mono ?_
      rintro e q3 ⟨rfl, hq3⟩
      have HV3 := Lib.hid (show Ext w0 q3 from HV2.out.trans hq3)
      go_wp2_with fail
      refine ⟨fun _ => hq3, ?_⟩
      apply segs_cons
      · intro W hW
        simp only [runsT, runsF, rep, pick]
        go_wp2_with fail
        exact ⟨rfl, rfl⟩
      simp only [runsT, runsF, rep, left]
      go_wp2_with fail
      go_ret
      exact ⟨rfl, HX0.out.trans HV3.out⟩
  · have hs : (⟨#[]⟩ : ByteArray) = sn := by rw [← HSn.out]; unfold nameE; rw [if_neg (by omega), if_neg (by omega), if_neg (by omega), if_neg (by omega), if_neg (by omega), if_neg (by omega)]
    subst hs
    have d1 : decide (1 ≤ cause) = false := decide_eq_false h1
    clear h1
    go_enter Tryd.func10, Tryd.ntmps10
    go_upto_region 1 with fail
    rw [HW0.out]
    have hc : ∀ i, w0.cell? ⟨w.heap.size, i, none⟩ = (#[.int .i64 cause, .int .u64 hash, .int .u64 conf, .int .i64 val, .int .i64 id] : Array Value)[i]? := fun i => (HC.out w0 (Ext.refl _)).cells i
    go_upto_region 4 with fail
    clear hc
    refine wp_region_segs 17 [([4, 3, 2, 3, 2, 3], false), ([2, 6], false), ([2, 3], false), ([2], false)] (by kernel_rfl) (by kernel_rfl) ?_
    apply segs_cons
    · intro W hW
      have hc : ∀ i, W.cell? ⟨w.heap.size, i, none⟩ = (#[.int .i64 cause, .int .u64 hash, .int .u64 conf, .int .i64 val, .int .i64 id] : Array Value)[i]? := fun i => (HC.out W ((Ext.refl w0).trans hW.of_drew)).cells i
      simp only [runsT, runsF, rep, pick]
      go_wp2_with fail
      exact ⟨rfl, rfl⟩
    simp only [runsT, runsF, rep, left]
    go_wp2_with fail
    refine (rDecS hash HK.out.2.2 _).mono ?_
    rintro e q1 ⟨rfl, hq1⟩
    have HV1 := Lib.hid (show Ext w0 q1 from ((Ext.refl w0).trans (Ext.drew w0)).trans hq1)
    go_wp2_with fail
    refine ⟨fun _ => hq1, ?_⟩
    apply segs_cons
    · intro W hW
      simp only [runsT, runsF, rep, pick]
      go_wp2_with fail
      exact ⟨rfl, rfl⟩
    simp only [runsT, runsF, rep, left]
    go_wp2_with fail
    clear hq1
    refine (rInt (id) HK.out.2.1 _).mono ?_
    rintro e q2 ⟨rfl, hq2⟩
    have HV2 := Lib.hid (show Ext w0 q2 from HV1.out.trans hq2)
    go_wp2_with fail
    refine ⟨fun _ => hq2, ?_⟩
    apply segs_cons
    · intro W hW
      simp only [runsT, runsF, rep, pick]
      go_wp2_with fail
      exact ⟨rfl, rfl⟩
    simp only [runsT, runsF, rep, left]
    go_wp2_with fail
    clear hq2
    refine (rInt (val) HK.out.1 _).mono ?_
    rintro e q3 ⟨rfl, hq3⟩
    have HV3 := Lib.hid (show Ext w0 q3 from HV2.out.trans hq3)
    go_wp2_with fail
    refine ⟨fun _ => hq3, ?_⟩
    apply segs_cons
    · intro W hW
      simp only [runsT, runsF, rep, pick]
      go_wp2_with fail
      exact ⟨rfl, rfl⟩
    simp only [runsT, runsF, rep, left]
    go_wp2_with fail
    go_ret
    exact ⟨rfl, HX0.out.trans HV3.out⟩

/-- The law's own call. -/
def awC : Cl := ⟨0, 3, fun j => match j with | 0 => 2 | 1 => 1 | 2 => 5 | 3 => 3 | _ => 0, 4, 6, 7, 0, true, 0⟩
theorem awC_ok : Ok awC := by
  refine ⟨⟨by decide, by decide⟩, ⟨by decide, by decide⟩, fun j => ?_, ⟨by decide, by decide⟩, ⟨by decide, by decide⟩, ⟨by decide, by decide⟩, ⟨by decide, by decide⟩, ⟨by decide, by decide⟩⟩
  unfold awC
  dsimp only
  split <;> exact ⟨by decide, by decide⟩
end Go.Proofs.YtjlomdhaigejhaaDoor.Trc
