/-
  Package trace: the line of a turn, and the document's.
  The library's table of powers lies there; no other condition.
-/
import Derived.Test.YtjlomdhaigejhaaDoorTrD
import Derived.Deep.DeepCutAuto
namespace Go.Proofs.YtjlomdhaigejhaaDoor.Trc
open Go.RowKit Go.Shelf Go.Seg Go.Open Go.Lib Prg

def KS : List ByteArray := [⟨#[105, 100, 108, 101]⟩, ⟨#[108, 111, 99, 107]⟩, ⟨#[97, 99, 116]⟩, ⟨#[102, 114, 101, 101]⟩]
def CS : List ByteArray := [⟨#[98, 101, 103, 105, 110]⟩, ⟨#[108, 111, 99, 107]⟩, ⟨#[97, 99, 116]⟩, ⟨#[102, 114, 101, 101]⟩, ⟨#[108, 97, 115, 116]⟩]
theorem pick_size (L : List ByteArray) (i : Int) (h : ∀ x ∈ L, x.size ≤ 5) : (pickS L i).size ≤ 5 := by
  unfold pickS
  split
  · rename_i h1
    have hl : i.toNat < L.length := by omega
    rw [List.getD_eq_getElem?_getD, List.getElem?_eq_getElem hl]
    exact h _ (List.getElem_mem _)
  · decide
def whoS (who stage : Int) : ByteArray := if who = 1 then cat ⟨#[107, 101, 101, 112, 101, 114, 32]⟩ (pickS KS stage) else if 1 < who then cat (cat (cat ⟨#[99, 108, 105, 101, 110, 116, 32]⟩ (intS (who - 2))) ⟨#[32]⟩) (pickS CS stage) else ⟨#[99, 108, 111, 99, 107]⟩
def turnS (at_ who stage tick : Int) : ByteArray := cat (cat (cat (cat (intS at_) ⟨#[32]⟩) (whoS who stage)) ⟨#[32, 64]⟩) (intS tick)
theorem KS_size : ∀ x ∈ KS, x.size ≤ 5 := by decide
theorem CS_size : ∀ x ∈ CS, x.size ≤ 5 := by decide
theorem who_size {who stage : Int} (h : I64 who) : (whoS who stage).size ≤ 34 := by
  unfold whoS
  have h1 := pick_size KS stage KS_size
  have h2 := pick_size CS stage CS_size
  have l1 : (ByteArray.mk #[107, 101, 101, 112, 101, 114, 32]).size = 7 := rfl
  have l2 : (ByteArray.mk #[99, 108, 105, 101, 110, 116, 32]).size = 7 := rfl
  have l3 : (ByteArray.mk #[32]).size = 1 := rfl
  have l4 : (ByteArray.mk #[99, 108, 111, 99, 107]).size = 5 := rfl
  split
  · rw [cat_size]; omega
  · split
    · have := intS_size (n := who - 2) ⟨by have := h.1; omega, by have := h.2; omega⟩
      rw [cat_size, cat_size, cat_size]; omega
    · omega
theorem blkS (w : World) (L : List ByteArray) : ∀ W, Ext (w.alloc (.cells (L.map Value.string).toArray 9)) W → ∀ j, j < L.length → W.cell? ⟨w.heap.size, j, none⟩ = some (.string (L.getD j ⟨#[]⟩)) := fun W hW j hj => by
  have hB := (show Blk _ w.heap.size ((L.map Value.string).toArray) 9 from Blk.new w _ _).ext hW
  rw [hB.cells j]
  simp [List.getD_eq_getElem?_getD, hj]
theorem w64 {n : Int} (h : -9223372036854775808 ≤ n ∧ n ≤ 9223372036854775807) : wrap64 n = n := by unfold wrap64; omega
set_option maxHeartbeats 4000000 in
set_option maxRecDepth 100000 in
theorem Turn_any (at_ who stage tick : Int) (sa : Option Addr) (sn sc : Nat) (h : I64 at_ ∧ I64 who ∧ I64 tick) (w : World) (hT : Tab w) : Calls Tryd.prog 7 #[.int .i64 at_, .agg #[.int .i64 who, .int .i64 stage, .int .i64 tick, .slice sa sn sc]] w fun e w' => e = .returned (.string (turnS at_ who stage tick)) ∧ Ext w w' := by
  have HK := Lib.hid h
  have HT := Lib.hid hT
  have hB : Blk (w.alloc (.cells #[.int .i64 who, .int .i64 stage, .int .i64 tick, .slice sa sn sc] 34)) w.heap.size #[.int .i64 who, .int .i64 stage, .int .i64 tick, .slice sa sn sc] 34 := Blk.new _ _ _
  have hE0 : Ext w (w.alloc (.cells #[.int .i64 who, .int .i64 stage, .int .i64 tick, .slice sa sn sc] 34)) := (Below.refl _ _).alloc (Nat.le_refl _) _
  obtain ⟨w0, hw0⟩ : ∃ W, w.alloc (.cells #[.int .i64 who, .int .i64 stage, .int .i64 tick, .slice sa sn sc] 34) = W := ⟨_, rfl⟩
  have HW0 := Lib.hid hw0
  rw [hw0] at hB hE0
  have HX0 := Lib.hid hE0
  have HC := Lib.hid (show ∀ W, Ext w0 W → Blk W w.heap.size #[.int .i64 who, .int .i64 stage, .int .i64 tick, .slice sa sn sc] 34 from fun W hW => hB.ext hW)
  have hw34 := who_size (stage := stage) h.2.1
  obtain ⟨sw, hsw⟩ : ∃ s, whoS who stage = s := ⟨_, rfl⟩
  obtain ⟨v1, hv1⟩ : ∃ s, cat (intS at_) ⟨#[32]⟩ = s := ⟨_, rfl⟩
  obtain ⟨v2, hv2⟩ : ∃ s, cat v1 sw = s := ⟨_, rfl⟩
  obtain ⟨v3, hv3⟩ : ∃ s, cat v2 ⟨#[32, 64]⟩ = s := ⟨_, rfl⟩
  obtain ⟨v4, hv4⟩ : ∃ s, cat v3 (intS tick) = s := ⟨_, rfl⟩
  rw [hsw] at hw34
  have l1 : (ByteArray.mk #[32]).size = 1 := rfl
  have l2 : (ByteArray.mk #[32, 64]).size = 2 := rfl
  have z0 := intS_size h.1
  have zt := intS_size h.2.2
  have z1 : v1.size ≤ 22 := by rw [← hv1, cat_size]; omega
  have z2 : v2.size ≤ 56 := by rw [← hv2, cat_size]; omega
  have z3 : v3.size ≤ 58 := by rw [← hv3, cat_size]; omega
  have a1 := sum _ _ _ hv1 (by omega) (by omega)
  have a2 := sum _ _ _ hv2 (by omega) (by omega)
  have a3 := sum _ _ _ hv3 (by omega) (by omega)
  have a4 := sum _ _ _ hv4 (by omega) (by omega)
  have HF := Lib.hid (show turnS at_ who stage tick = v4 by unfold turnS; rw [hsw, hv1, hv2, hv3, hv4])
  rw [HF.out]
  have HSw := Lib.hid hsw
  clear h hB hE0 hw0 hsw hv1 hv2 hv3 hv4 z0 zt z1 z2 z3 l1 l2 hT
  by_cases h1 : who = 1
  · subst h1
    have hs : cat ⟨#[107, 101, 101, 112, 101, 114, 32]⟩ (pickS KS stage) = sw := HSw.out
    have zp := pick_size KS stage KS_size
    have b1 := sum _ _ _ hs (by decide) (by omega)
    obtain ⟨pk, hpk⟩ : ∃ s, pickS KS stage = s := ⟨_, rfl⟩
    rw [hpk] at b1
    have HPk := Lib.hid hpk
    clear hs zp hpk

    go_enter Tryd.func7, Tryd.ntmps7
    go_upto_region 1 with fail
    rw [HW0.out]
    have hc : ∀ i, w0.cell? ⟨w.heap.size, i, none⟩ = (#[.int .i64 1, .int .i64 stage, .int .i64 tick, .slice sa sn sc] : Array Value)[i]? := fun i => (HC.out w0 (Ext.refl _)).cells i
    have hcy : ∀ i, (w0.alloc (.cells #[.string ⟨#[105, 100, 108, 101]⟩, .string ⟨#[108, 111, 99, 107]⟩, .string ⟨#[97, 99, 116]⟩, .string ⟨#[102, 114, 101, 101]⟩] 9)).cell? ⟨w.heap.size, i, none⟩ = (#[.int .i64 1, .int .i64 stage, .int .i64 tick, .slice sa sn sc] : Array Value)[i]? := fun i => (HC.out _ (Ext.trans (Ext.refl w0) ((Below.refl _ _).alloc (Nat.le_refl _) _))).cells i
    go_wp2_with fail
    clear hc hcy
    have hbs := blkS w0 KS _ (Ext.refl _)
    have hy : Ext w0 (w0.alloc (.cells #[.string ⟨#[105, 100, 108, 101]⟩, .string ⟨#[108, 111, 99, 107]⟩, .string ⟨#[97, 99, 116]⟩, .string ⟨#[102, 114, 101, 101]⟩] 9)) := (Below.refl _ _).alloc (Nat.le_refl _) _
    have HBS := Lib.hid hbs
    have HY := Lib.hid (show Ext w0 _ from (Ext.refl w0).trans hy)
    clear hbs hy
    refine (stage_any w0.heap.size 4 KS rfl stage _ HBS.out).mono ?_
    rw [HPk.out]
    rintro e w' ⟨rfl, rfl⟩
    obtain ⟨y, hy⟩ : ∃ W, w0.alloc (.cells #[.string ⟨#[105, 100, 108, 101]⟩, .string ⟨#[108, 111, 99, 107]⟩, .string ⟨#[97, 99, 116]⟩, .string ⟨#[102, 114, 101, 101]⟩] 9) = W := ⟨_, rfl⟩
    rw [hy] at HY
    try rw [hy]
    have HYe := Lib.hid hy
    go_upto_region 6 with fail
    rw [show w0.alloc (.cells (KS.map Value.string).toArray 9) = y from HYe.out]
    refine wp_region_segs 11 [([1, 2, 1, 2, 2, 3], false), ([3, 3], false), ([2], false)] (by kernel_rfl) (by kernel_rfl) ?_
    apply segs_cons
    · intro W hW
      have hc : ∀ i, W.cell? ⟨w.heap.size, i, none⟩ = (#[.int .i64 1, .int .i64 stage, .int .i64 tick, .slice sa sn sc] : Array Value)[i]? := fun i => (HC.out W (HY.out.trans hW.of_drew)).cells i
      simp only [runsT, runsF, rep, pick]
      go_wp2_with fail
      exact ⟨rfl, rfl⟩
    simp only [runsT, runsF, rep, left]
    go_wp2_with fail
    refine (Int_any (at_) HK.out.1 _ (tab_ext HT.out (HX0.out.trans (HY.out.trans (Ext.drew _))))).mono ?_
    rintro e q1 ⟨rfl, hq1⟩
    have HV1 := Lib.hid (show Ext w0 q1 from (HY.out.trans (Ext.drew _)).trans hq1)
    go_wp2_with fail
    refine ⟨fun _ => hq1, ?_⟩
    apply segs_cons
    · intro W hW
      simp only [runsT, runsF, rep, pick]
      go_wp2_with fail
      exact ⟨rfl, rfl⟩
    simp only [runsT, runsF, rep, left]
    go_wp2_with fail
    clear hq1
    refine (Int_any (tick) HK.out.2.2 _ (tab_ext HT.out (HX0.out.trans HV1.out))).mono ?_
    rintro e q2 ⟨rfl, hq2⟩
    have HV2 := Lib.hid (show Ext w0 q2 from HV1.out.trans hq2)
    go_wp2_with fail
    refine ⟨fun _ => hq2, ?_⟩
    apply segs_cons
    · intro W hW
      simp only [runsT, runsF, rep, pick]
      go_wp2_with fail
      exact ⟨rfl, rfl⟩
    simp only [runsT, runsF, rep, left]
    go_wp2_with fail
    go_ret
    exact ⟨rfl, HX0.out.trans HV2.out⟩
  · by_cases h2 : 1 < who
    · have hs : cat (cat (cat ⟨#[99, 108, 105, 101, 110, 116, 32]⟩ (intS (who - 2))) ⟨#[32]⟩) (pickS CS stage) = sw := by rw [← HSw.out]; unfold whoS; rw [if_neg h1, if_pos h2]
      have hi : I64 (who - 2) := ⟨by omega, by have := HK.out.2.1.2; omega⟩
      have zi := intS_size hi
      have zp := pick_size CS stage CS_size
      obtain ⟨b1, hb1⟩ : ∃ s, cat ⟨#[99, 108, 105, 101, 110, 116, 32]⟩ (intS (who - 2)) = s := ⟨_, rfl⟩
      obtain ⟨b2, hb2⟩ : ∃ s, cat b1 ⟨#[32]⟩ = s := ⟨_, rfl⟩
      obtain ⟨pk, hpk⟩ : ∃ s, pickS CS stage = s := ⟨_, rfl⟩
      rw [hb1, hb2, hpk] at hs
      rw [hpk] at zp
      have l1 : (ByteArray.mk #[99, 108, 105, 101, 110, 116, 32]).size = 7 := rfl
      have l2 : (ByteArray.mk #[32]).size = 1 := rfl
      have y1 : b1.size ≤ 28 := by rw [← hb1, cat_size]; omega
      have y2 : b2.size ≤ 29 := by rw [← hb2, cat_size]; omega
      have c1 := sum _ _ _ hb1 (by omega) (by omega)
      have c2 := sum _ _ _ hb2 (by omega) (by omega)
      have c3 := sum _ _ _ hs (by omega) (by omega)
      have HPk := Lib.hid hpk
      have HI := Lib.hid hi
      have d1 : (who == 1) = false := by simpa using h1
      have d2 : decide (1 < who) = true := decide_eq_true h2
      have wq : wrap64 (who - 2) = who - 2 := w64 hi
      have HH := Lib.hid (And.intro h1 h2)
      clear hs hi zi zp hb1 hb2 hpk l1 l2 y1 y2 h1 h2

      go_enter Tryd.func7, Tryd.ntmps7
      go_upto_region 1 with fail
      rw [HW0.out]
      have hc : ∀ i, w0.cell? ⟨w.heap.size, i, none⟩ = (#[.int .i64 who, .int .i64 stage, .int .i64 tick, .slice sa sn sc] : Array Value)[i]? := fun i => (HC.out w0 (Ext.refl _)).cells i
      go_upto_region 5 with fail
      clear hc
      refine wp_region_segsE (fun W => Blk W w.heap.size #[.int .i64 who, .int .i64 stage, .int .i64 tick, .slice sa sn sc] 34) (.quiet [3, 4, 2, 3] (.alt 0 (.quiet [2, 4] (.alt 0 (.alt 0 (.quiet [2] .done) .stop) .stop)) (.alt 3 (.alt 0 (.quiet [2, 3] (.alt 0 (.quiet [2] .done) .stop)) .stop) .stop))) (by kernel_rfl) (by kernel_rfl) (HC.out _ ((Ext.refl w0).trans (Ext.drew w0))) ?_
      apply segE_quiet
      · intro W hW
        have hc : ∀ i, W.cell? ⟨w.heap.size, i, none⟩ = (#[.int .i64 who, .int .i64 stage, .int .i64 tick, .slice sa sn sc] : Array Value)[i]? := fun i => Blk.cells hW i
        simp only [runsT, runsF, rep, pick]
        go_wp2_with fail
        exact ⟨rfl, rfl⟩
      simp only [runsT, runsF, rep, left]
      refine segE_alt _ rfl ?_ ?_
      · skip
        go_wp2_with fail
        refine (Int_any (who - 2) HI.out _ (tab_ext HT.out (HX0.out.trans ((Ext.refl w0).trans (Ext.drew w0))))).mono ?_
        rintro e y1 ⟨rfl, hy1⟩
        have HY1 := Lib.hid (show Ext w0 y1 from ((Ext.refl w0).trans (Ext.drew w0)).trans hy1)
        clear hy1
        go_wp2_with fail
        refine ⟨HC.out _ HY1.out, ?_⟩
        try dsimp only [List.eraseIdx]
        apply segE_quiet
        · intro W hW
          simp only [runsT, runsF, rep, pick]
          go_wp2_with fail
          exact ⟨rfl, rfl⟩
        simp only [runsT, runsF, rep, left]
        refine segE_alt _ rfl ?_ ?_
        · skip
          go_wp2_with fail
          refine ⟨(HC.out _ HY1.out).al _, ?_⟩
          try dsimp only [List.eraseIdx]
          refine segE_alt _ rfl ?_ ?_
          · skip
            have hbs := blkS y1 CS _ (Ext.refl _)
            have hy : Ext w0 (y1.alloc (.cells #[.string ⟨#[98, 101, 103, 105, 110]⟩, .string ⟨#[108, 111, 99, 107]⟩, .string ⟨#[97, 99, 116]⟩, .string ⟨#[102, 114, 101, 101]⟩, .string ⟨#[108, 97, 115, 116]⟩] 9)) := HY1.out.trans ((Below.refl _ _).alloc (Nat.le_refl _) _)
            have HBS := Lib.hid hbs
            obtain ⟨y, hyy⟩ : ∃ W, y1.alloc (.cells #[.string ⟨#[98, 101, 103, 105, 110]⟩, .string ⟨#[108, 111, 99, 107]⟩, .string ⟨#[97, 99, 116]⟩, .string ⟨#[102, 114, 101, 101]⟩, .string ⟨#[108, 97, 115, 116]⟩] 9) = W := ⟨_, rfl⟩
            have hk : ∀ j, j < 5 → y.cell? ⟨y1.heap.size, j, none⟩ = some (.string (CS.getD j ⟨#[]⟩)) := by rw [← hyy]; exact hbs
            rw [hyy] at hy ⊢
            have HY := Lib.hid hy
            have HBk := Lib.hid hk
            clear hbs hy hyy hk HBS
            go_wp2_with fail
            refine (stage_any y1.heap.size 5 CS rfl stage _ HBk.out).mono ?_
            rw [HPk.out]
            rintro e w' ⟨rfl, rfl⟩
            go_wp2_with fail
            refine ⟨HC.out _ HY.out, ?_⟩
            try dsimp only [List.eraseIdx]
            apply segE_quiet
            · intro W hW
              simp only [runsT, runsF, rep, pick]
              go_wp2_with fail
              exact ⟨rfl, rfl⟩
            simp only [runsT, runsF, rep, left]
            apply segE_done
            go_upto_region 6 with fail
            refine wp_region_segs 11 [([1, 2, 1, 2, 2, 3], false), ([3, 3], false), ([2], false)] (by kernel_rfl) (by kernel_rfl) ?_
            apply segs_cons
            · intro W hW
              have hc : ∀ i, W.cell? ⟨w.heap.size, i, none⟩ = (#[.int .i64 who, .int .i64 stage, .int .i64 tick, .slice sa sn sc] : Array Value)[i]? := fun i => (HC.out W (HY.out.trans hW.of_drew)).cells i
              simp only [runsT, runsF, rep, pick]
              go_wp2_with fail
              exact ⟨rfl, rfl⟩
            simp only [runsT, runsF, rep, left]
            go_wp2_with fail
            refine (Int_any (at_) HK.out.1 _ (tab_ext HT.out (HX0.out.trans (HY.out.trans (Ext.drew _))))).mono ?_
            rintro e q1 ⟨rfl, hq1⟩
            have HV1 := Lib.hid (show Ext w0 q1 from (HY.out.trans (Ext.drew _)).trans hq1)
            go_wp2_with fail
            refine ⟨fun _ => hq1, ?_⟩
            apply segs_cons
            · intro W hW
              simp only [runsT, runsF, rep, pick]
              go_wp2_with fail
              exact ⟨rfl, rfl⟩
            simp only [runsT, runsF, rep, left]
            go_wp2_with fail
            clear hq1
            refine (Int_any (tick) HK.out.2.2 _ (tab_ext HT.out (HX0.out.trans HV1.out))).mono ?_
            rintro e q2 ⟨rfl, hq2⟩
            have HV2 := Lib.hid (show Ext w0 q2 from HV1.out.trans hq2)
            go_wp2_with fail
            refine ⟨fun _ => hq2, ?_⟩
            apply segs_cons
            · intro W hW
              simp only [runsT, runsF, rep, pick]
              go_wp2_with fail
              exact ⟨rfl, rfl⟩
            simp only [runsT, runsF, rep, left]
            go_wp2_with fail
            go_ret
            exact ⟨rfl, HX0.out.trans HV2.out⟩
          exact segE_stop
        exact segE_stop
      refine segE_alt _ rfl ?_ ?_
      · skip
        go_wp2_with fail
        refine ⟨((HC.out _ (Ext.refl w0)).al _), ?_⟩
        try dsimp only [List.eraseIdx]
        refine segE_alt _ rfl ?_ ?_
        · skip
          have hbs := blkS w0.drew CS
          have hy0 : Ext w0 (w0.drew.alloc (.cells #[.string ⟨#[98, 101, 103, 105, 110]⟩, .string ⟨#[108, 111, 99, 107]⟩, .string ⟨#[97, 99, 116]⟩, .string ⟨#[102, 114, 101, 101]⟩, .string ⟨#[108, 97, 115, 116]⟩] 9)) := ((Ext.refl w0).trans (Ext.drew w0)).trans ((Below.refl _ _).alloc (Nat.le_refl _) _)
          obtain ⟨y0, hyy⟩ : ∃ W, w0.drew.alloc (.cells #[.string ⟨#[98, 101, 103, 105, 110]⟩, .string ⟨#[108, 111, 99, 107]⟩, .string ⟨#[97, 99, 116]⟩, .string ⟨#[102, 114, 101, 101]⟩, .string ⟨#[108, 97, 115, 116]⟩] 9) = W := ⟨_, rfl⟩
          have hbs' : ∀ W, Ext y0 W → ∀ j, j < CS.length → W.cell? ⟨w0.drew.heap.size, j, none⟩ = some (.string (CS.getD j ⟨#[]⟩)) := by rw [← hyy]; exact hbs
          rw [hyy] at hy0
          have HBS0 := Lib.hid hbs'
          have HY0 := Lib.hid hy0
          have hyy' : (w0.alloc (.cells #[.string ⟨#[98, 101, 103, 105, 110]⟩, .string ⟨#[108, 111, 99, 107]⟩, .string ⟨#[97, 99, 116]⟩, .string ⟨#[102, 114, 101, 101]⟩, .string ⟨#[108, 97, 115, 116]⟩] 9)).drew = y0 := hyy
          rw [hyy']
          clear hbs hbs' hy0 hyy hyy'
          go_wp2_with fail
          refine (Int_any (who - 2) HI.out _ (tab_ext HT.out (HX0.out.trans HY0.out))).mono ?_
          rintro e y1 ⟨rfl, hy1⟩
          have HBS := Lib.hid (HBS0.out y1 hy1)
          have HY1 := Lib.hid (show Ext w0 y1 from HY0.out.trans hy1)
          clear hy1
          go_wp2_with fail
          refine ⟨HC.out _ HY1.out, ?_⟩
          try dsimp only [List.eraseIdx]
          apply segE_quiet
          · intro W hW
            simp only [runsT, runsF, rep, pick]
            go_wp2_with fail
            exact ⟨rfl, rfl⟩
          simp only [runsT, runsF, rep, left]
          refine segE_alt _ rfl ?_ ?_
          · skip
            have HY := Lib.hid (show Ext w0 y1 from HY1.out)
            obtain ⟨y, hyy⟩ : ∃ W, y1 = W := ⟨_, rfl⟩
            rw [hyy] at HY HBS ⊢
            clear hyy
            go_wp2_with fail
            refine (stage_any w0.heap.size 5 CS rfl stage _ HBS.out).mono ?_
            rw [HPk.out]
            rintro e w' ⟨rfl, rfl⟩
            go_wp2_with fail
            refine ⟨HC.out _ HY.out, ?_⟩
            try dsimp only [List.eraseIdx]
            apply segE_quiet
            · intro W hW
              simp only [runsT, runsF, rep, pick]
              go_wp2_with fail
              exact ⟨rfl, rfl⟩
            simp only [runsT, runsF, rep, left]
            apply segE_done
            go_upto_region 6 with fail
            refine wp_region_segs 11 [([1, 2, 1, 2, 2, 3], false), ([3, 3], false), ([2], false)] (by kernel_rfl) (by kernel_rfl) ?_
            apply segs_cons
            · intro W hW
              have hc : ∀ i, W.cell? ⟨w.heap.size, i, none⟩ = (#[.int .i64 who, .int .i64 stage, .int .i64 tick, .slice sa sn sc] : Array Value)[i]? := fun i => (HC.out W (HY.out.trans hW.of_drew)).cells i
              simp only [runsT, runsF, rep, pick]
              go_wp2_with fail
              exact ⟨rfl, rfl⟩
            simp only [runsT, runsF, rep, left]
            go_wp2_with fail
            refine (Int_any (at_) HK.out.1 _ (tab_ext HT.out (HX0.out.trans (HY.out.trans (Ext.drew _))))).mono ?_
            rintro e q1 ⟨rfl, hq1⟩
            have HV1 := Lib.hid (show Ext w0 q1 from (HY.out.trans (Ext.drew _)).trans hq1)
            go_wp2_with fail
            refine ⟨fun _ => hq1, ?_⟩
            apply segs_cons
            · intro W hW
              simp only [runsT, runsF, rep, pick]
              go_wp2_with fail
              exact ⟨rfl, rfl⟩
            simp only [runsT, runsF, rep, left]
            go_wp2_with fail
            clear hq1
            refine (Int_any (tick) HK.out.2.2 _ (tab_ext HT.out (HX0.out.trans HV1.out))).mono ?_
            rintro e q2 ⟨rfl, hq2⟩
            have HV2 := Lib.hid (show Ext w0 q2 from HV1.out.trans hq2)
            go_wp2_with fail
            refine ⟨fun _ => hq2, ?_⟩
            apply segs_cons
            · intro W hW
              simp only [runsT, runsF, rep, pick]
              go_wp2_with fail
              exact ⟨rfl, rfl⟩
            simp only [runsT, runsF, rep, left]
            go_wp2_with fail
            go_ret
            exact ⟨rfl, HX0.out.trans HV2.out⟩
          exact segE_stop
        exact segE_stop
      exact segE_stop
    · have hs : (⟨#[99, 108, 111, 99, 107]⟩ : ByteArray) = sw := by rw [← HSw.out]; unfold whoS; rw [if_neg h1, if_neg h2]
      have d1 : (who == 1) = false := by simpa using h1
      have d2 : decide (1 < who) = false := decide_eq_false h2
      rw [← hs] at a2
      clear hs h1 h2

      go_enter Tryd.func7, Tryd.ntmps7
      go_upto_region 1 with fail
      rw [HW0.out]
      have hc : ∀ i, w0.cell? ⟨w.heap.size, i, none⟩ = (#[.int .i64 who, .int .i64 stage, .int .i64 tick, .slice sa sn sc] : Array Value)[i]? := fun i => (HC.out w0 (Ext.refl _)).cells i
      go_upto_region 6 with fail
      clear hc
      refine wp_region_segs 11 [([1, 2, 1, 2, 2, 3], false), ([3, 3], false), ([2], false)] (by kernel_rfl) (by kernel_rfl) ?_
      apply segs_cons
      · intro W hW
        have hc : ∀ i, W.cell? ⟨w.heap.size, i, none⟩ = (#[.int .i64 who, .int .i64 stage, .int .i64 tick, .slice sa sn sc] : Array Value)[i]? := fun i => (HC.out W ((Ext.refl w0).trans hW.of_drew)).cells i
        simp only [runsT, runsF, rep, pick]
        go_wp2_with fail
        exact ⟨rfl, rfl⟩
      simp only [runsT, runsF, rep, left]
      go_wp2_with fail
      refine (Int_any (at_) HK.out.1 _ (tab_ext HT.out (HX0.out.trans ((Ext.refl w0).trans (Ext.drew _))))).mono ?_
      rintro e q1 ⟨rfl, hq1⟩
      have HV1 := Lib.hid (show Ext w0 q1 from ((Ext.refl w0).trans (Ext.drew _)).trans hq1)
      go_wp2_with fail
      refine ⟨fun _ => hq1, ?_⟩
      apply segs_cons
      · intro W hW
        simp only [runsT, runsF, rep, pick]
        go_wp2_with fail
        exact ⟨rfl, rfl⟩
      simp only [runsT, runsF, rep, left]
      go_wp2_with fail
      clear hq1
      refine (Int_any (tick) HK.out.2.2 _ (tab_ext HT.out (HX0.out.trans HV1.out))).mono ?_
      rintro e q2 ⟨rfl, hq2⟩
      have HV2 := Lib.hid (show Ext w0 q2 from HV1.out.trans hq2)
      go_wp2_with fail
      refine ⟨fun _ => hq2, ?_⟩
      apply segs_cons
      · intro W hW
        simp only [runsT, runsF, rep, pick]
        go_wp2_with fail
        exact ⟨rfl, rfl⟩
      simp only [runsT, runsF, rep, left]
      go_wp2_with fail
      go_ret
      exact ⟨rfl, HX0.out.trans HV2.out⟩
set_option maxHeartbeats 4000000 in
set_option maxRecDepth 100000 in
theorem rTurn (at_ who stage tick : Int) (sa : Option Addr) (sn sc : Nat) (h : I64 at_ ∧ I64 who ∧ I64 tick) (w : World) : Calls Tryd.prog 8 #[.int .i64 at_, .agg #[.int .i64 who, .int .i64 stage, .int .i64 tick, .slice sa sn sc]] w fun e w' => e = .returned (.string (turnS at_ who stage tick)) ∧ Ext w w' := by
  have HK := Lib.hid h

  have hB : Blk (w.alloc (.cells #[.int .i64 who, .int .i64 stage, .int .i64 tick, .slice sa sn sc] 28)) w.heap.size #[.int .i64 who, .int .i64 stage, .int .i64 tick, .slice sa sn sc] 28 := Blk.new _ _ _
  have hE0 : Ext w (w.alloc (.cells #[.int .i64 who, .int .i64 stage, .int .i64 tick, .slice sa sn sc] 28)) := (Below.refl _ _).alloc (Nat.le_refl _) _
  obtain ⟨w0, hw0⟩ : ∃ W, w.alloc (.cells #[.int .i64 who, .int .i64 stage, .int .i64 tick, .slice sa sn sc] 28) = W := ⟨_, rfl⟩
  have HW0 := Lib.hid hw0
  rw [hw0] at hB hE0
  have HX0 := Lib.hid hE0
  have HC := Lib.hid (show ∀ W, Ext w0 W → Blk W w.heap.size #[.int .i64 who, .int .i64 stage, .int .i64 tick, .slice sa sn sc] 28 from fun W hW => hB.ext hW)
  have hw34 := who_size (stage := stage) h.2.1
  obtain ⟨sw, hsw⟩ : ∃ s, whoS who stage = s := ⟨_, rfl⟩
  obtain ⟨v1, hv1⟩ : ∃ s, cat (intS at_) ⟨#[32]⟩ = s := ⟨_, rfl⟩
  obtain ⟨v2, hv2⟩ : ∃ s, cat v1 sw = s := ⟨_, rfl⟩
  obtain ⟨v3, hv3⟩ : ∃ s, cat v2 ⟨#[32, 64]⟩ = s := ⟨_, rfl⟩
  obtain ⟨v4, hv4⟩ : ∃ s, cat v3 (intS tick) = s := ⟨_, rfl⟩
  rw [hsw] at hw34
  have l1 : (ByteArray.mk #[32]).size = 1 := rfl
  have l2 : (ByteArray.mk #[32, 64]).size = 2 := rfl
  have z0 := intS_size h.1
  have zt := intS_size h.2.2
  have z1 : v1.size ≤ 22 := by rw [← hv1, cat_size]; omega
  have z2 : v2.size ≤ 56 := by rw [← hv2, cat_size]; omega
  have z3 : v3.size ≤ 58 := by rw [← hv3, cat_size]; omega
  have a1 := sum _ _ _ hv1 (by omega) (by omega)
  have a2 := sum _ _ _ hv2 (by omega) (by omega)
  have a3 := sum _ _ _ hv3 (by omega) (by omega)
  have a4 := sum _ _ _ hv4 (by omega) (by omega)
  have HF := Lib.hid (show turnS at_ who stage tick = v4 by unfold turnS; rw [hsw, hv1, hv2, hv3, hv4])
  rw [HF.out]
  have HSw := Lib.hid hsw
  clear h hB hE0 hw0 hsw hv1 hv2 hv3 hv4 z0 zt z1 z2 z3 l1 l2 
  by_cases h1 : who = 1
  · subst h1
    have hs : cat ⟨#[107, 101, 101, 112, 101, 114, 32]⟩ (pickS KS stage) = sw := HSw.out
    have zp := pick_size KS stage KS_size
    have b1 := sum _ _ _ hs (by decide) (by omega)
    obtain ⟨pk, hpk⟩ : ∃ s, pickS KS stage = s := ⟨_, rfl⟩
    rw [hpk] at b1
    have HPk := Lib.hid hpk
    clear hs zp hpk

    go_enter Tryd.func8, Tryd.ntmps8
    go_upto_region 1 with fail
    rw [HW0.out]
    have hc : ∀ i, w0.cell? ⟨w.heap.size, i, none⟩ = (#[.int .i64 1, .int .i64 stage, .int .i64 tick, .slice sa sn sc] : Array Value)[i]? := fun i => (HC.out w0 (Ext.refl _)).cells i
    go_wp2_with fail
    clear hc
    refine (rInt (at_) HK.out.1 _).mono ?_
    rintro e x1 ⟨rfl, hx1⟩
    have HA1 := Lib.hid hx1
    clear hx1
    have hc : ∀ i, x1.cell? ⟨w.heap.size, i, none⟩ = (#[.int .i64 1, .int .i64 stage, .int .i64 tick, .slice sa sn sc] : Array Value)[i]? := fun i => (HC.out x1 (HA1.out)).cells i
    have hcy : ∀ i, (x1.alloc (.cells #[.string ⟨#[105, 100, 108, 101]⟩, .string ⟨#[108, 111, 99, 107]⟩, .string ⟨#[97, 99, 116]⟩, .string ⟨#[102, 114, 101, 101]⟩] 9)).cell? ⟨w.heap.size, i, none⟩ = (#[.int .i64 1, .int .i64 stage, .int .i64 tick, .slice sa sn sc] : Array Value)[i]? := fun i => (HC.out _ (Ext.trans HA1.out ((Below.refl _ _).alloc (Nat.le_refl _) _))).cells i
    go_wp2_with fail
    clear hc hcy
    have hbs := blkS x1 KS _ (Ext.refl _)
    have hy : Ext x1 (x1.alloc (.cells #[.string ⟨#[105, 100, 108, 101]⟩, .string ⟨#[108, 111, 99, 107]⟩, .string ⟨#[97, 99, 116]⟩, .string ⟨#[102, 114, 101, 101]⟩] 9)) := (Below.refl _ _).alloc (Nat.le_refl _) _
    have HBS := Lib.hid hbs
    have HY := Lib.hid (show Ext w0 _ from HA1.out.trans hy)
    clear hbs hy
    refine (word_any x1.heap.size 4 KS rfl stage _ HBS.out).mono ?_
    rw [HPk.out]
    rintro e w' ⟨rfl, rfl⟩
    obtain ⟨y, hy⟩ : ∃ W, x1.alloc (.cells #[.string ⟨#[105, 100, 108, 101]⟩, .string ⟨#[108, 111, 99, 107]⟩, .string ⟨#[97, 99, 116]⟩, .string ⟨#[102, 114, 101, 101]⟩] 9) = W := ⟨_, rfl⟩
    rw [hy] at HY
    try rw [hy]
    have HYe := Lib.hid hy
    go_upto_region 7 with fail
    rw [show x1.alloc (.cells (KS.map Value.string).toArray 9) = y from HYe.out]
    have hc : ∀ i, y.cell? ⟨w.heap.size, i, none⟩ = (#[.int .i64 1, .int .i64 stage, .int .i64 tick, .slice sa sn sc] : Array Value)[i]? := fun i => (HC.out y (HY.out)).cells i
    go_wp2_with fail
    clear hc
    refine (rInt (tick) HK.out.2.2 _).mono ?_
    rintro e q2 ⟨rfl, hq2⟩
    have HV2 := Lib.hid (show Ext w0 q2 from HY.out.trans hq2)
    clear hq2
    go_wp2_with fail
    go_ret
    exact ⟨rfl, HX0.out.trans HV2.out⟩
  · by_cases h2 : 1 < who
    · have hs : cat (cat (cat ⟨#[99, 108, 105, 101, 110, 116, 32]⟩ (intS (who - 2))) ⟨#[32]⟩) (pickS CS stage) = sw := by rw [← HSw.out]; unfold whoS; rw [if_neg h1, if_pos h2]
      have hi : I64 (who - 2) := ⟨by omega, by have := HK.out.2.1.2; omega⟩
      have zi := intS_size hi
      have zp := pick_size CS stage CS_size
      obtain ⟨b1, hb1⟩ : ∃ s, cat ⟨#[99, 108, 105, 101, 110, 116, 32]⟩ (intS (who - 2)) = s := ⟨_, rfl⟩
      obtain ⟨b2, hb2⟩ : ∃ s, cat b1 ⟨#[32]⟩ = s := ⟨_, rfl⟩
      obtain ⟨pk, hpk⟩ : ∃ s, pickS CS stage = s := ⟨_, rfl⟩
      rw [hb1, hb2, hpk] at hs
      rw [hpk] at zp
      have l1 : (ByteArray.mk #[99, 108, 105, 101, 110, 116, 32]).size = 7 := rfl
      have l2 : (ByteArray.mk #[32]).size = 1 := rfl
      have y1 : b1.size ≤ 28 := by rw [← hb1, cat_size]; omega
      have y2 : b2.size ≤ 29 := by rw [← hb2, cat_size]; omega
      have c1 := sum _ _ _ hb1 (by omega) (by omega)
      have c2 := sum _ _ _ hb2 (by omega) (by omega)
      have c3 := sum _ _ _ hs (by omega) (by omega)
      have HPk := Lib.hid hpk
      have HI := Lib.hid hi
      have d1 : (who == 1) = false := by simpa using h1
      have d2 : decide (1 < who) = true := decide_eq_true h2
      have wq : wrap64 (who - 2) = who - 2 := w64 hi
      have HH := Lib.hid (And.intro h1 h2)
      clear hs hi zi zp hb1 hb2 hpk l1 l2 y1 y2 h1 h2

      go_enter Tryd.func8, Tryd.ntmps8
      go_upto_region 1 with fail
      rw [HW0.out]
      have hc : ∀ i, w0.cell? ⟨w.heap.size, i, none⟩ = (#[.int .i64 who, .int .i64 stage, .int .i64 tick, .slice sa sn sc] : Array Value)[i]? := fun i => (HC.out w0 (Ext.refl _)).cells i
      go_wp2_with fail
      clear hc
      refine (rInt (at_) HK.out.1 _).mono ?_
      rintro e x1 ⟨rfl, hx1⟩
      have HA1 := Lib.hid hx1
      clear hx1
      have hc : ∀ i, x1.cell? ⟨w.heap.size, i, none⟩ = (#[.int .i64 who, .int .i64 stage, .int .i64 tick, .slice sa sn sc] : Array Value)[i]? := fun i => (HC.out x1 (HA1.out)).cells i
      go_upto_region 5 with fail
      clear hc
      refine wp_region_segsE (fun W => Blk W w.heap.size #[.int .i64 who, .int .i64 stage, .int .i64 tick, .slice sa sn sc] 28) (.quiet [4, 4, 2, 4] (.alt 0 (.quiet [2, 5] (.alt 0 (.alt 0 (.quiet [3] .done) .stop) .stop)) (.alt 3 (.alt 0 (.quiet [2, 4] (.alt 0 (.quiet [3] .done) .stop)) .stop) .stop))) (by kernel_rfl) (by kernel_rfl) (HC.out _ (HA1.out.trans (Ext.drew x1))) ?_
      apply segE_quiet
      · intro W hW
        have hc : ∀ i, W.cell? ⟨w.heap.size, i, none⟩ = (#[.int .i64 who, .int .i64 stage, .int .i64 tick, .slice sa sn sc] : Array Value)[i]? := fun i => Blk.cells hW i
        simp only [runsT, runsF, rep, pick]
        go_wp2_with fail
        exact ⟨rfl, rfl⟩
      simp only [runsT, runsF, rep, left]
      refine segE_alt _ rfl ?_ ?_
      · skip
        go_wp2_with fail
        refine (rInt (who - 2) HI.out _).mono ?_
        rintro e y1 ⟨rfl, hy1⟩
        have HY1 := Lib.hid (show Ext w0 y1 from (HA1.out.trans (Ext.drew x1)).trans hy1)
        clear hy1
        go_wp2_with fail
        refine ⟨HC.out _ HY1.out, ?_⟩
        try dsimp only [List.eraseIdx]
        apply segE_quiet
        · intro W hW
          simp only [runsT, runsF, rep, pick]
          go_wp2_with fail
          exact ⟨rfl, rfl⟩
        simp only [runsT, runsF, rep, left]
        refine segE_alt _ rfl ?_ ?_
        · skip
          go_wp2_with fail
          refine ⟨(HC.out _ HY1.out).al _, ?_⟩
          try dsimp only [List.eraseIdx]
          refine segE_alt _ rfl ?_ ?_
          · skip
            have hbs := blkS y1 CS _ (Ext.refl _)
            have hy : Ext w0 (y1.alloc (.cells #[.string ⟨#[98, 101, 103, 105, 110]⟩, .string ⟨#[108, 111, 99, 107]⟩, .string ⟨#[97, 99, 116]⟩, .string ⟨#[102, 114, 101, 101]⟩, .string ⟨#[108, 97, 115, 116]⟩] 9)) := HY1.out.trans ((Below.refl _ _).alloc (Nat.le_refl _) _)
            have HBS := Lib.hid hbs
            obtain ⟨y, hyy⟩ : ∃ W, y1.alloc (.cells #[.string ⟨#[98, 101, 103, 105, 110]⟩, .string ⟨#[108, 111, 99, 107]⟩, .string ⟨#[97, 99, 116]⟩, .string ⟨#[102, 114, 101, 101]⟩, .string ⟨#[108, 97, 115, 116]⟩] 9) = W := ⟨_, rfl⟩
            have hk : ∀ j, j < 5 → y.cell? ⟨y1.heap.size, j, none⟩ = some (.string (CS.getD j ⟨#[]⟩)) := by rw [← hyy]; exact hbs
            rw [hyy] at hy ⊢
            have HY := Lib.hid hy
            have HBk := Lib.hid hk
            clear hbs hy hyy hk HBS
            go_wp2_with fail
            refine (word_any y1.heap.size 5 CS rfl stage _ HBk.out).mono ?_
            rw [HPk.out]
            rintro e w' ⟨rfl, rfl⟩
            go_wp2_with fail
            refine ⟨HC.out _ HY.out, ?_⟩
            try dsimp only [List.eraseIdx]
            apply segE_quiet
            · intro W hW
              simp only [runsT, runsF, rep, pick]
              go_wp2_with fail
              exact ⟨rfl, rfl⟩
            simp only [runsT, runsF, rep, left]
            apply segE_done
            go_upto_region 7 with fail
            have hc : ∀ i, y.cell? ⟨w.heap.size, i, none⟩ = (#[.int .i64 who, .int .i64 stage, .int .i64 tick, .slice sa sn sc] : Array Value)[i]? := fun i => (HC.out y (HY.out)).cells i
            go_wp2_with fail
            clear hc
            refine (rInt (tick) HK.out.2.2 _).mono ?_
            rintro e q2 ⟨rfl, hq2⟩
            have HV2 := Lib.hid (show Ext w0 q2 from HY.out.trans hq2)
            clear hq2
            go_wp2_with fail
            go_ret
            exact ⟨rfl, HX0.out.trans HV2.out⟩
          exact segE_stop
        exact segE_stop
      refine segE_alt _ rfl ?_ ?_
      · skip
        go_wp2_with fail
        refine ⟨((HC.out _ HA1.out).al _), ?_⟩
        try dsimp only [List.eraseIdx]
        refine segE_alt _ rfl ?_ ?_
        · skip
          have hbs := blkS x1.drew CS
          have hy0 : Ext w0 (x1.drew.alloc (.cells #[.string ⟨#[98, 101, 103, 105, 110]⟩, .string ⟨#[108, 111, 99, 107]⟩, .string ⟨#[97, 99, 116]⟩, .string ⟨#[102, 114, 101, 101]⟩, .string ⟨#[108, 97, 115, 116]⟩] 9)) := (HA1.out.trans (Ext.drew x1)).trans ((Below.refl _ _).alloc (Nat.le_refl _) _)
          obtain ⟨y0, hyy⟩ : ∃ W, x1.drew.alloc (.cells #[.string ⟨#[98, 101, 103, 105, 110]⟩, .string ⟨#[108, 111, 99, 107]⟩, .string ⟨#[97, 99, 116]⟩, .string ⟨#[102, 114, 101, 101]⟩, .string ⟨#[108, 97, 115, 116]⟩] 9) = W := ⟨_, rfl⟩
          have hbs' : ∀ W, Ext y0 W → ∀ j, j < CS.length → W.cell? ⟨x1.drew.heap.size, j, none⟩ = some (.string (CS.getD j ⟨#[]⟩)) := by rw [← hyy]; exact hbs
          rw [hyy] at hy0
          have HBS0 := Lib.hid hbs'
          have HY0 := Lib.hid hy0
          have hyy' : (x1.alloc (.cells #[.string ⟨#[98, 101, 103, 105, 110]⟩, .string ⟨#[108, 111, 99, 107]⟩, .string ⟨#[97, 99, 116]⟩, .string ⟨#[102, 114, 101, 101]⟩, .string ⟨#[108, 97, 115, 116]⟩] 9)).drew = y0 := hyy
          rw [hyy']
          clear hbs hbs' hy0 hyy hyy'
          go_wp2_with fail
          refine (rInt (who - 2) HI.out _).mono ?_
          rintro e y1 ⟨rfl, hy1⟩
          have HBS := Lib.hid (HBS0.out y1 hy1)
          have HY1 := Lib.hid (show Ext w0 y1 from HY0.out.trans hy1)
          clear hy1
          go_wp2_with fail
          refine ⟨HC.out _ HY1.out, ?_⟩
          try dsimp only [List.eraseIdx]
          apply segE_quiet
          · intro W hW
            simp only [runsT, runsF, rep, pick]
            go_wp2_with fail
            exact ⟨rfl, rfl⟩
          simp only [runsT, runsF, rep, left]
          refine segE_alt _ rfl ?_ ?_
          · skip
            have HY := Lib.hid (show Ext w0 y1 from HY1.out)
            obtain ⟨y, hyy⟩ : ∃ W, y1 = W := ⟨_, rfl⟩
            rw [hyy] at HY HBS ⊢
            clear hyy
            go_wp2_with fail
            refine (word_any x1.heap.size 5 CS rfl stage _ HBS.out).mono ?_
            rw [HPk.out]
            rintro e w' ⟨rfl, rfl⟩
            go_wp2_with fail
            refine ⟨HC.out _ HY.out, ?_⟩
            try dsimp only [List.eraseIdx]
            apply segE_quiet
            · intro W hW
              simp only [runsT, runsF, rep, pick]
              go_wp2_with fail
              exact ⟨rfl, rfl⟩
            simp only [runsT, runsF, rep, left]
            apply segE_done
            go_upto_region 7 with fail
            have hc : ∀ i, y.cell? ⟨w.heap.size, i, none⟩ = (#[.int .i64 who, .int .i64 stage, .int .i64 tick, .slice sa sn sc] : Array Value)[i]? := fun i => (HC.out y (HY.out)).cells i
            go_wp2_with fail
            clear hc
            refine (rInt (tick) HK.out.2.2 _).mono ?_
            rintro e q2 ⟨rfl, hq2⟩
            have HV2 := Lib.hid (show Ext w0 q2 from HY.out.trans hq2)
            clear hq2
            go_wp2_with fail
            go_ret
            exact ⟨rfl, HX0.out.trans HV2.out⟩
          exact segE_stop
        exact segE_stop
      exact segE_stop
    · have hs : (⟨#[99, 108, 111, 99, 107]⟩ : ByteArray) = sw := by rw [← HSw.out]; unfold whoS; rw [if_neg h1, if_neg h2]
      have d1 : (who == 1) = false := by simpa using h1
      have d2 : decide (1 < who) = false := decide_eq_false h2
      rw [← hs] at a2
      clear hs h1 h2

      go_enter Tryd.func8, Tryd.ntmps8
      go_upto_region 1 with fail
      rw [HW0.out]
      have hc : ∀ i, w0.cell? ⟨w.heap.size, i, none⟩ = (#[.int .i64 who, .int .i64 stage, .int .i64 tick, .slice sa sn sc] : Array Value)[i]? := fun i => (HC.out w0 (Ext.refl _)).cells i
      go_wp2_with fail
      clear hc
      refine (rInt (at_) HK.out.1 _).mono ?_
      rintro e x1 ⟨rfl, hx1⟩
      have HA1 := Lib.hid hx1
      clear hx1
      have hc : ∀ i, x1.cell? ⟨w.heap.size, i, none⟩ = (#[.int .i64 who, .int .i64 stage, .int .i64 tick, .slice sa sn sc] : Array Value)[i]? := fun i => (HC.out x1 (HA1.out)).cells i
      go_upto_region 7 with fail
      clear hc
      have hc : ∀ i, x1.cell? ⟨w.heap.size, i, none⟩ = (#[.int .i64 who, .int .i64 stage, .int .i64 tick, .slice sa sn sc] : Array Value)[i]? := fun i => (HC.out x1 (HA1.out)).cells i
      go_wp2_with fail
      clear hc
      refine (rInt (tick) HK.out.2.2 _).mono ?_
      rintro e q2 ⟨rfl, hq2⟩
      have HV2 := Lib.hid (show Ext w0 q2 from HA1.out.trans hq2)
      clear hq2
      go_wp2_with fail
      go_ret
      exact ⟨rfl, HX0.out.trans HV2.out⟩

end Go.Proofs.YtjlomdhaigejhaaDoor.Trc
