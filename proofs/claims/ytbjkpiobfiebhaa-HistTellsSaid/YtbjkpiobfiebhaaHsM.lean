/-
  Histories: the document's Right.
  At most 60 calls; no other condition.
-/
import Derived.Test.YtbjkpiobfiebhaaHsL
import Derived.Deep.DeepCutAuto
namespace Go.Proofs.Ytbjkpiobfiebhaa.Hs
open Go.RowKit Go.Seg Go.Open Go.Lib Go.Arr Go.Stab Go.Row

/-- What the document finds wrong of one call. -/
def badR (x : C) : Bool := !opR x || (decide (x.bgn < 0) || ((decide (0 ≤ x.at_) && decide (x.at_ < x.bgn)) || (decide (0 ≤ x.en) && (decide (x.at_ < 0) || decide (x.en < x.at_)))))
theorem badR_iff (x : C) : badR x = false ↔ opR x = true ∧ timed x = true := by
  unfold badR timed
  simp only [Bool.or_eq_false_iff, Bool.and_eq_false_iff, Bool.not_eq_false', decide_eq_false_iff_not]
  constructor
  · rintro ⟨h0, h1, h2, h3⟩
    refine ⟨h0, ?_⟩
    rw [if_neg h1]
    split
    · simp; omega
    · simp; omega
  · rintro ⟨h0, h1⟩
    refine ⟨h0, ?_⟩
    split at h1
    · cases h1
    · rename_i h2
      split at h1
      · have := of_decide_eq_true h1
        omega
      · simp only [Bool.and_eq_true, Bool.or_eq_true, decide_eq_true_eq] at h1
        omega
/-- What it finds wrong of two. -/
def alikeR (x y : C) : Bool := y.id == x.id || (decide (0 ≤ y.at_) && y.at_ == x.at_)
def closeR (x y : C) : Bool := y.cl == x.cl && (!ahead y x && !ahead x y)
theorem apart_iff (x y : C) : apart x y = true ↔ alikeR x y = false ∧ closeR x y = false := by
  unfold apart alike alikeR closeR
  by_cases h1 : x.id = y.id
  · simp [h1]
  · have h1' : ¬ y.id = x.id := fun e => h1 e.symm
    by_cases h2 : x.at_ = y.at_
    · by_cases h3 : x.cl = y.cl
      · simp [h1, h1', h2, h3]
        cases ahead x y <;> cases ahead y x <;> simp
      · have h3' : ¬ y.cl = x.cl := fun e => h3 e.symm
        simp [h1, h1', h2, h3, h3']
    · have h2' : ¬ y.at_ = x.at_ := fun e => h2 e.symm
      by_cases h3 : x.cl = y.cl
      · simp [h1, h1', h2, h2', h3]
        cases ahead x y <;> cases ahead y x <;> simp
      · have h3' : ¬ y.cl = x.cl := fun e => h3 e.symm
        simp [h1, h1', h2, h2', h3, h3']
set_option maxRecDepth 100000 in
set_option maxHeartbeats 8000000 in
theorem rRight_any (T : List C) (a : Option Addr) (len cap b off : Nat) (w : World) (hV : VC w a len b off T) (hl : len ≤ 60) (hc : len ≤ cap) :
    Calls Try.prog 6 #[.slice a len cap] w fun e w' => (∃ r : Bool, e = .returned (.bool r) ∧ (r = true ↔ RightP T)) ∧ Ext w w' := by
  have HV := Lib.hid hV
  clear hV
  go_enter Try.func6, Try.ntmps6
  go_wp2_with fail
  go_loopg [3] len (fun g s wr => ∃ i : Nat, s = .int .i64 i ∧ i ≤ len ∧ Hid (Ext w wr ∧ ∀ S x R, T = S ++ x :: R → S.length < i → Good S x) ∧ len - i ≤ g)
  case atStart => exact ⟨0, rfl, Nat.zero_le _, Lib.hid ⟨Ext.refl _, fun S x R _ h => by omega⟩, Nat.le_refl _⟩
  case round =>
    obtain ⟨i, rfl, hi, HR, hg⟩ := hrel
    by_cases hil : i < len
    · have d0 : decide (i < len) = true := decide_eq_true hil
      obtain rfl := HV.out.ad (by omega)
      obtain ⟨S, x, R, eT, hS, hx⟩ := HV.out.get hil
      have HX := Lib.hid (And.intro eT hS)
      have l1 := hx.ld wr HR.out.1
      have s1 := st_new wr x
      have HB := Lib.hid (one_box wr x)
      obtain ⟨w2, hw2⟩ : ∃ w2, w2 = wr.alloc (.cells (enc x).toArray 29) := ⟨_, rfl⟩
      rw [← hw2] at s1
      have HA := Lib.hid (show At1 w2 wr.heap.size 0 x by rw [hw2]; exact at1_blk HB.out.1)
      have HE2 := Lib.hid (show Ext wr w2 by rw [hw2]; exact HB.out.2)
      unfold ZC at s1
      have l2 := HA.out.op w2 (Ext.refl _)
      simp only [Nat.zero_add] at l2
      clear hx eT hS HB hw2
      go_upto_region 5 with (first | refine Arr.wpList_ldA rfl _ _ rfl _ l1 ?_ | refine Arr.wpList_stA rfl _ _ _ rfl rfl s1 ?_)
      clear s1 l1
      go_cut [53] (fun s wx => s = .bool (badR x) ∧ Hid (Ext w2 wx))
      case first =>
        go_wp2_with (first | refine Arr.wpList_ldA rfl _ _ rfl _ l2 ?_)
        refine (rOpR_any x _).mono ?_
        rintro e w3 ⟨rfl, hE3⟩
        have HE3 := Lib.hid hE3
        have p3 := HA.out.cl w3 hE3 7 _ rfl
        have p4 := HA.out.cl w3 hE3 8 _ rfl
        have p5 := HA.out.cl w3 hE3 9 _ rfl
        simp only [Nat.zero_add] at p3 p4 p5
        clear hE3 l2
        cases h0 : opR x with
        | false =>
          have E : Hid (badR x = true) := Lib.hid (by unfold badR; rw [h0]; rfl)
          clear h0
          go_wp2_with fail
          go_meet
          exact ⟨by rw [E.out], HE3⟩
        | true =>
          by_cases h1 : x.bgn < 0
          · have d1 : decide (x.bgn < 0) = true := decide_eq_true h1
            have E : Hid (badR x = true) := Lib.hid (by unfold badR; simp [h0, d1])
            clear h0 h1
            go_wp2_with fail
            go_meet
            exact ⟨by rw [E.out], HE3⟩
          · have d1 : decide (x.bgn < 0) = false := decide_eq_false h1
            by_cases h2 : 0 ≤ x.at_
            · have d2 : decide (0 ≤ x.at_) = true := decide_eq_true h2
              by_cases h3 : x.at_ < x.bgn
              · have d3 : decide (x.at_ < x.bgn) = true := decide_eq_true h3
                have E : Hid (badR x = true) := Lib.hid (by unfold badR; simp [h0, d1, d2, d3])
                clear h0 h1 h2 h3
                go_wp2_with fail
                go_meet
                exact ⟨by rw [E.out], HE3⟩
              · have d3 : decide (x.at_ < x.bgn) = false := decide_eq_false h3
                by_cases h4 : 0 ≤ x.en
                · have d4 : decide (0 ≤ x.en) = true := decide_eq_true h4
                  have d5 : decide (x.at_ < 0) = false := decide_eq_false (by omega)
                  by_cases h6 : x.en < x.at_
                  · have d6 : decide (x.en < x.at_) = true := decide_eq_true h6
                    have E : Hid (badR x = true) := Lib.hid (by unfold badR; simp [h0, d1, d2, d3, d4, d5, d6])
                    clear h0 h1 h2 h3 h4 h6
                    go_wp2_with fail
                    go_meet
                    exact ⟨by rw [E.out], HE3⟩
                  · have d6 : decide (x.en < x.at_) = false := decide_eq_false h6
                    have E : Hid (badR x = false) := Lib.hid (by unfold badR; simp [h0, d1, d2, d3, d4, d5, d6])
                    clear h0 h1 h2 h3 h4 h6
                    go_wp2_with fail
                    go_meet
                    exact ⟨by rw [E.out], HE3⟩
                · have d4 : decide (0 ≤ x.en) = false := decide_eq_false h4
                  have E : Hid (badR x = false) := Lib.hid (by unfold badR; simp [h0, d1, d2, d3, d4])
                  clear h0 h1 h2 h3 h4
                  go_wp2_with fail
                  go_meet
                  exact ⟨by rw [E.out], HE3⟩
            · have d2 : decide (0 ≤ x.at_) = false := decide_eq_false h2
              by_cases h4 : 0 ≤ x.en
              · have d4 : decide (0 ≤ x.en) = true := decide_eq_true h4
                have d5 : decide (x.at_ < 0) = true := decide_eq_true (by omega)
                have E : Hid (badR x = true) := Lib.hid (by unfold badR; simp [h0, d1, d2, d4, d5])
                clear h0 h1 h2 h4
                go_wp2_with fail
                go_meet
                exact ⟨by rw [E.out], HE3⟩
              · have d4 : decide (0 ≤ x.en) = false := decide_eq_false h4
                have E : Hid (badR x = false) := Lib.hid (by unfold badR; simp [h0, d1, d2, d4])
                clear h0 h1 h2 h4
                go_wp2_with fail
                go_meet
                exact ⟨by rw [E.out], HE3⟩
      case rest =>
      obtain ⟨rfl, HE3⟩ := hcut
      obtain ⟨bb, hbb⟩ : ∃ bb, badR x = bb := ⟨_, rfl⟩
      rw [hbb]
      cases bb with
      | true =>
        have HBB := Lib.hid hbb
        clear hbb
        go_wp2_with fail
        go_ret
        refine ⟨⟨false, rfl, ⟨fun h => (by cases h), fun h => ?_⟩⟩, HR.out.1.trans (HE2.out.trans HE3.out)⟩
        have h1 := h S x R HX.out.1
        have h2 := (badR_iff x).2 ⟨h1.1, h1.2.1⟩
        have h3 := HBB.out
        rw [h2] at h3
        cases h3
      | false =>
        have HBB := Lib.hid ((badR_iff x).1 hbb)
        clear hbb l2
        have HEr := Lib.hid (HR.out.1.trans (HE2.out.trans HE3.out))
        go_wp2_with fail
        go_loopg [5] i (fun g s wk => ∃ k : Nat, s = .int .i64 k ∧ k ≤ i ∧ Hid (Ext wc wk ∧ ∀ S1 y R1, S = S1 ++ y :: R1 → S1.length < k → apart x y = true) ∧ i - k ≤ g)
        case atStart => exact ⟨0, rfl, Nat.zero_le _, Lib.hid ⟨Ext.refl _, fun S1 y R1 _ h => by omega⟩, Nat.le_refl _⟩
        case round =>
          obtain ⟨k, rfl, hk, HK, hg2⟩ := hrel
          by_cases hki : k < i
          · have d1 : decide (k < i) = true := decide_eq_true hki
            obtain ⟨S1, y, R1, eS, hS1⟩ := split_at S k (by rw [HX.out.2]; exact hki)
            have HS1 := Lib.hid (And.intro eS hS1)
            have hy := HV.out.at1 S1 (R1 ++ x :: R) y (by rw [HX.out.1, eS]; simp) k hS1.symm
            have HY := Lib.hid (show At1 wr b (off + k * 13) y from ⟨fun W hW => hy.ld W (HEr.out.trans (HK.out.1.trans hW)), fun W hW => hy.cl W (HEr.out.trans (HK.out.1.trans hW))⟩)
            have HXA := Lib.hid (show At1 wr _ 0 x from ⟨fun W hW => HA.out.ld W (HE3.out.trans (HK.out.1.trans hW)), fun W hW => HA.out.cl W (HE3.out.trans (HK.out.1.trans hW))⟩)
            have kc : k < len := by omega
            clear hy eS hS1
            go_upto_region 10 with fail
            have HYd := Lib.hid (show At1 wr.drew b (off + k * 13) y from ⟨fun W hW => HY.out.ld W ((Ext.drew _).trans hW), fun W hW => HY.out.cl W ((Ext.drew _).trans hW)⟩)
            have HXd := Lib.hid (show At1 wr.drew _ 0 x from ⟨fun W hW => HXA.out.ld W ((Ext.drew _).trans hW), fun W hW => HXA.out.cl W ((Ext.drew _).trans hW)⟩)
            go_cut [84] (fun s wx => s = .bool (alikeR x y) ∧ wx = wr.drew)
            case first =>
              have y1 := HYd.out.cl wr.drew (Ext.refl _) 1 _ rfl
              have y8 := HYd.out.cl wr.drew (Ext.refl _) 8 _ rfl
              have x1 := HXd.out.cl wr.drew (Ext.refl _) 1 _ rfl
              have x8 := HXd.out.cl wr.drew (Ext.refl _) 8 _ rfl
              simp only [Nat.zero_add] at x1 x8
              by_cases ha : y.id = x.id
              · have da : (y.id == x.id) = true := by simp [ha]
                have E : Hid (alikeR x y = true) := Lib.hid (by unfold alikeR; simp [da])
                clear ha
                refine wp_region_segsK [([4, 1, 1, 20], 0, 0), ([8, 13], 2, 13), ([1, 12], 2, 14), ([6, 1, 1, 4], 0, 0), ([5], 2, 26)] (by kernel_rfl) (by kernel_rfl) ?_
                apply segsK_pure
                · intro W
                  simp only [runsT, runsF, rep, pick]
                  go_wp2_with fail
                  exact ⟨rfl, rfl⟩
                simp only [runsT, runsF, rep, left]
                apply segsK_look
                · simp only [runsT, runsF, rep, pick]
                  go_wp2_with fail
                  exact ⟨rfl, rfl⟩
                simp only [runsT, runsF, rep, left]
                apply segsK_look
                · simp only [runsT, runsF, rep, pick]
                  go_wp2_with fail
                  exact ⟨rfl, rfl⟩
                simp only [runsT, runsF, rep, left]
                apply segsK_pure
                · intro W
                  simp only [runsT, runsF, rep, pick]
                  go_wp2_with fail
                  exact ⟨rfl, rfl⟩
                simp only [runsT, runsF, rep, left]
                apply segsK_look
                · simp only [runsT, runsF, rep, pick]
                  go_wp2_with fail
                  exact ⟨rfl, rfl⟩
                simp only [runsT, runsF, rep, left]
                apply segsK_nil
                go_wp2_with fail
                go_meet
                exact ⟨by rw [E.out], rfl⟩
              · have da : (y.id == x.id) = false := by simp [ha]
                by_cases hb : 0 ≤ y.at_
                · have db : decide (0 ≤ y.at_) = true := by simp [hb]
                  by_cases hc : y.at_ = x.at_
                  · have dc : (y.at_ == x.at_) = true := by simp [hc]
                    have E : Hid (alikeR x y = true) := Lib.hid (by unfold alikeR; simp [da, db, dc])
                    clear ha hb hc
                    refine wp_region_segsK [([4, 1, 1, 20], 0, 0), ([8, 13], 2, 13), ([1, 12], 2, 14), ([6, 1, 1, 4], 0, 0), ([5], 2, 26)] (by kernel_rfl) (by kernel_rfl) ?_
                    apply segsK_pure
                    · intro W
                      simp only [runsT, runsF, rep, pick]
                      go_wp2_with fail
                      exact ⟨rfl, rfl⟩
                    simp only [runsT, runsF, rep, left]
                    apply segsK_look
                    · simp only [runsT, runsF, rep, pick]
                      go_wp2_with fail
                      exact ⟨rfl, rfl⟩
                    simp only [runsT, runsF, rep, left]
                    apply segsK_look
                    · simp only [runsT, runsF, rep, pick]
                      go_wp2_with fail
                      exact ⟨rfl, rfl⟩
                    simp only [runsT, runsF, rep, left]
                    apply segsK_pure
                    · intro W
                      simp only [runsT, runsF, rep, pick]
                      go_wp2_with fail
                      exact ⟨rfl, rfl⟩
                    simp only [runsT, runsF, rep, left]
                    apply segsK_look
                    · simp only [runsT, runsF, rep, pick]
                      go_wp2_with fail
                      exact ⟨rfl, rfl⟩
                    simp only [runsT, runsF, rep, left]
                    apply segsK_nil
                    go_wp2_with fail
                    go_meet
                    exact ⟨by rw [E.out], rfl⟩
                  · have dc : (y.at_ == x.at_) = false := by simp [hc]
                    have E : Hid (alikeR x y = false) := Lib.hid (by unfold alikeR; simp [da, db, dc])
                    clear ha hb hc
                    refine wp_region_segsK [([4, 1, 1, 20], 0, 0), ([8, 13], 2, 13), ([1, 12], 2, 14), ([6, 1, 1, 4], 0, 0), ([5], 2, 26)] (by kernel_rfl) (by kernel_rfl) ?_
                    apply segsK_pure
                    · intro W
                      simp only [runsT, runsF, rep, pick]
                      go_wp2_with fail
                      exact ⟨rfl, rfl⟩
                    simp only [runsT, runsF, rep, left]
                    apply segsK_look
                    · simp only [runsT, runsF, rep, pick]
                      go_wp2_with fail
                      exact ⟨rfl, rfl⟩
                    simp only [runsT, runsF, rep, left]
                    apply segsK_look
                    · simp only [runsT, runsF, rep, pick]
                      go_wp2_with fail
                      exact ⟨rfl, rfl⟩
                    simp only [runsT, runsF, rep, left]
                    apply segsK_pure
                    · intro W
                      simp only [runsT, runsF, rep, pick]
                      go_wp2_with fail
                      exact ⟨rfl, rfl⟩
                    simp only [runsT, runsF, rep, left]
                    apply segsK_look
                    · simp only [runsT, runsF, rep, pick]
                      go_wp2_with fail
                      exact ⟨rfl, rfl⟩
                    simp only [runsT, runsF, rep, left]
                    apply segsK_nil
                    go_wp2_with fail
                    go_meet
                    exact ⟨by rw [E.out], rfl⟩
                · have db : decide (0 ≤ y.at_) = false := by simp [hb]
                  have E : Hid (alikeR x y = false) := Lib.hid (by unfold alikeR; simp [da, db])
                  clear ha hb
                  refine wp_region_segsK [([4, 1, 1, 20], 0, 0), ([8, 13], 2, 13), ([1, 12], 2, 14), ([6, 1, 1, 4], 0, 0), ([5], 2, 26)] (by kernel_rfl) (by kernel_rfl) ?_
                  apply segsK_pure
                  · intro W
                    simp only [runsT, runsF, rep, pick]
                    go_wp2_with fail
                    exact ⟨rfl, rfl⟩
                  simp only [runsT, runsF, rep, left]
                  apply segsK_look
                  · simp only [runsT, runsF, rep, pick]
                    go_wp2_with fail
                    exact ⟨rfl, rfl⟩
                  simp only [runsT, runsF, rep, left]
                  apply segsK_look
                  · simp only [runsT, runsF, rep, pick]
                    go_wp2_with fail
                    exact ⟨rfl, rfl⟩
                  simp only [runsT, runsF, rep, left]
                  apply segsK_pure
                  · intro W
                    simp only [runsT, runsF, rep, pick]
                    go_wp2_with fail
                    exact ⟨rfl, rfl⟩
                  simp only [runsT, runsF, rep, left]
                  apply segsK_look
                  · simp only [runsT, runsF, rep, pick]
                    go_wp2_with fail
                    exact ⟨rfl, rfl⟩
                  simp only [runsT, runsF, rep, left]
                  apply segsK_nil
                  go_wp2_with fail
                  go_meet
                  exact ⟨by rw [E.out], rfl⟩
            case rest =>
            obtain ⟨rfl, rfl⟩ := hcut
            obtain ⟨ba, hba⟩ : ∃ ba, alikeR x y = ba := ⟨_, rfl⟩
            rw [hba]
            cases ba with
            | true =>
              have HBA := Lib.hid hba
              clear hba
              go_wp2_with fail
              go_ret
              refine ⟨⟨false, rfl, ⟨fun h => (by cases h), fun h => ?_⟩⟩, HEr.out.trans (HK.out.1.trans (Ext.drew _))⟩
              have h1 := (h S x R HX.out.1).2.2
              rw [List.any_eq_false] at h1
              have h2 := h1 y (by rw [HS1.out.1]; simp)
              have h3 := ((apart_iff x y).1 (by simpa using h2)).1
              rw [HBA.out] at h3
              cases h3
            | false =>
              have HBA := Lib.hid hba
              clear hba
              go_upto_region 12 with fail
              go_cut [110] (fun s wx => s = .bool (closeR x y) ∧ Hid (Ext wr wx))
              case first =>
                have HYe := Lib.hid (show At1 wr.drew.drew b (off + k * 13) y from ⟨fun W hW => HYd.out.ld W ((Ext.drew _).trans hW), fun W hW => HYd.out.cl W ((Ext.drew _).trans hW)⟩)
                have HXe := Lib.hid (show At1 wr.drew.drew _ 0 x from ⟨fun W hW => HXd.out.ld W ((Ext.drew _).trans hW), fun W hW => HXd.out.cl W ((Ext.drew _).trans hW)⟩)
                have y0 := HYe.out.cl wr.drew.drew (Ext.refl _) 0 _ rfl
                have x0 := HXe.out.cl wr.drew.drew (Ext.refl _) 0 _ rfl
                have l1 := HYe.out.ld wr.drew.drew (Ext.refl _)
                have l2 := HXe.out.ld wr.drew.drew (Ext.refl _)
                simp only [Nat.zero_add, Nat.add_zero] at y0 x0
                by_cases ha : y.cl = x.cl
                · have da : (y.cl == x.cl) = true := by simp [ha]
                  obtain ⟨o1, ho1⟩ : ∃ o1, ahead y x = o1 := ⟨_, rfl⟩
                  cases o1 with
                  | true =>
                    have E : Hid (closeR x y = false) := Lib.hid (by unfold closeR; rw [ho1]; simp)
                    replace ho1 := Lib.hid ho1
                    clear ha
                    refine wp_region_segsK [([4, 1, 1, 20], 0, 0), ([2, 19], 2, 7), ([5, 14], 0, 0), ([2, 12], 2, 14), ([1, 11], 1, 0), ([3, 1, 3, 4], 0, 0), ([2, 3], 2, 23), ([1, 2], 1, 0), ([2], 0, 0)] (by kernel_rfl) (by kernel_rfl) ?_
                    apply segsK_pure
                    · intro W
                      simp only [runsT, runsF, rep, pick]
                      go_wp2_with (first | refine Arr.wpList_ldA rfl _ _ rfl _ l1 ?_ | refine Arr.wpList_ldA rfl _ _ rfl _ l2 ?_)
                      exact ⟨rfl, rfl⟩
                    simp only [runsT, runsF, rep, left]
                    apply segsK_look
                    · simp only [runsT, runsF, rep, pick]
                      go_wp2_with (first | refine Arr.wpList_ldA rfl _ _ rfl _ l1 ?_ | refine Arr.wpList_ldA rfl _ _ rfl _ l2 ?_)
                      exact ⟨rfl, rfl⟩
                    simp only [runsT, runsF, rep, left]
                    apply segsK_pure
                    · intro W
                      simp only [runsT, runsF, rep, pick]
                      go_wp2_with (first | refine Arr.wpList_ldA rfl _ _ rfl _ l1 ?_ | refine Arr.wpList_ldA rfl _ _ rfl _ l2 ?_)
                      exact ⟨rfl, rfl⟩
                    simp only [runsT, runsF, rep, left]
                    apply segsK_look
                    · simp only [runsT, runsF, rep, pick]
                      go_wp2_with (first | refine Arr.wpList_ldA rfl _ _ rfl _ l1 ?_ | refine Arr.wpList_ldA rfl _ _ rfl _ l2 ?_)
                      exact ⟨rfl, rfl⟩
                    simp only [runsT, runsF, rep, left]
                    apply segsK_op
                    go_wp2_with fail
                    refine (rAhead_any y x _).mono ?_
                    rintro e w5 ⟨rfl, hE5⟩
                    have HE5 := Lib.hid hE5
                    have l3 := HYe.out.ld w5 hE5
                    have l4 := HXe.out.ld w5 hE5
                    clear hE5
                    rw [ho1.out]
                    go_wp2_with fail
                    refine ⟨fun h => (by cases h), ?_⟩
                    apply segsK_pure
                    · intro W
                      simp only [runsT, runsF, rep, pick]
                      go_wp2_with (first | refine Arr.wpList_ldA rfl _ _ rfl _ l1 ?_ | refine Arr.wpList_ldA rfl _ _ rfl _ l2 ?_ | refine Arr.wpList_ldA rfl _ _ rfl _ l3 ?_ | refine Arr.wpList_ldA rfl _ _ rfl _ l4 ?_)
                      exact ⟨rfl, rfl⟩
                    simp only [runsT, runsF, rep, left]
                    apply segsK_look
                    · simp only [runsT, runsF, rep, pick]
                      go_wp2_with (first | refine Arr.wpList_ldA rfl _ _ rfl _ l1 ?_ | refine Arr.wpList_ldA rfl _ _ rfl _ l2 ?_ | refine Arr.wpList_ldA rfl _ _ rfl _ l3 ?_ | refine Arr.wpList_ldA rfl _ _ rfl _ l4 ?_)
                      exact ⟨rfl, rfl⟩
                    simp only [runsT, runsF, rep, left]
                    apply segsK_op
                    go_wp2_with fail
                    refine ⟨fun h => (by cases h), ?_⟩
                    apply segsK_pure
                    · intro W
                      simp only [runsT, runsF, rep, pick]
                      go_wp2_with (first | refine Arr.wpList_ldA rfl _ _ rfl _ l1 ?_ | refine Arr.wpList_ldA rfl _ _ rfl _ l2 ?_ | refine Arr.wpList_ldA rfl _ _ rfl _ l3 ?_ | refine Arr.wpList_ldA rfl _ _ rfl _ l4 ?_)
                      exact ⟨rfl, rfl⟩
                    simp only [runsT, runsF, rep, left]
                    apply segsK_nil
                    go_wp2_with fail
                    go_meet
                    exact ⟨by rw [E.out], Lib.hid (((Ext.drew _).trans (Ext.drew _)).trans HE5.out)⟩
                  | false =>
                    have E : Hid (closeR x y = !ahead x y) := Lib.hid (by unfold closeR; rw [ho1, da]; simp)
                    replace ho1 := Lib.hid ho1
                    clear ha
                    refine wp_region_segsK [([4, 1, 1, 20], 0, 0), ([2, 19], 2, 7), ([5, 14], 0, 0), ([2, 12], 2, 14), ([1, 11], 1, 0), ([3, 1, 3, 4], 0, 0), ([2, 3], 2, 23), ([1, 2], 1, 0), ([2], 0, 0)] (by kernel_rfl) (by kernel_rfl) ?_
                    apply segsK_pure
                    · intro W
                      simp only [runsT, runsF, rep, pick]
                      go_wp2_with (first | refine Arr.wpList_ldA rfl _ _ rfl _ l1 ?_ | refine Arr.wpList_ldA rfl _ _ rfl _ l2 ?_)
                      exact ⟨rfl, rfl⟩
                    simp only [runsT, runsF, rep, left]
                    apply segsK_look
                    · simp only [runsT, runsF, rep, pick]
                      go_wp2_with (first | refine Arr.wpList_ldA rfl _ _ rfl _ l1 ?_ | refine Arr.wpList_ldA rfl _ _ rfl _ l2 ?_)
                      exact ⟨rfl, rfl⟩
                    simp only [runsT, runsF, rep, left]
                    apply segsK_pure
                    · intro W
                      simp only [runsT, runsF, rep, pick]
                      go_wp2_with (first | refine Arr.wpList_ldA rfl _ _ rfl _ l1 ?_ | refine Arr.wpList_ldA rfl _ _ rfl _ l2 ?_)
                      exact ⟨rfl, rfl⟩
                    simp only [runsT, runsF, rep, left]
                    apply segsK_look
                    · simp only [runsT, runsF, rep, pick]
                      go_wp2_with (first | refine Arr.wpList_ldA rfl _ _ rfl _ l1 ?_ | refine Arr.wpList_ldA rfl _ _ rfl _ l2 ?_)
                      exact ⟨rfl, rfl⟩
                    simp only [runsT, runsF, rep, left]
                    apply segsK_op
                    go_wp2_with fail
                    refine (rAhead_any y x _).mono ?_
                    rintro e w5 ⟨rfl, hE5⟩
                    have HE5 := Lib.hid hE5
                    have l3 := HYe.out.ld w5 hE5
                    have l4 := HXe.out.ld w5 hE5
                    clear hE5
                    rw [ho1.out]
                    go_wp2_with fail
                    refine ⟨fun h => (by cases h), ?_⟩
                    apply segsK_pure
                    · intro W
                      simp only [runsT, runsF, rep, pick]
                      go_wp2_with (first | refine Arr.wpList_ldA rfl _ _ rfl _ l1 ?_ | refine Arr.wpList_ldA rfl _ _ rfl _ l2 ?_ | refine Arr.wpList_ldA rfl _ _ rfl _ l3 ?_ | refine Arr.wpList_ldA rfl _ _ rfl _ l4 ?_)
                      exact ⟨rfl, rfl⟩
                    simp only [runsT, runsF, rep, left]
                    apply segsK_look
                    · simp only [runsT, runsF, rep, pick]
                      go_wp2_with (first | refine Arr.wpList_ldA rfl _ _ rfl _ l1 ?_ | refine Arr.wpList_ldA rfl _ _ rfl _ l2 ?_ | refine Arr.wpList_ldA rfl _ _ rfl _ l3 ?_ | refine Arr.wpList_ldA rfl _ _ rfl _ l4 ?_)
                      exact ⟨rfl, rfl⟩
                    simp only [runsT, runsF, rep, left]
                    apply segsK_op
                    go_wp2_with fail
                    refine (rAhead_any x y _).mono ?_
                    rintro e w6 ⟨rfl, hE6⟩
                    have HE6 := Lib.hid hE6
                    clear hE6
                    go_wp2_with fail
                    refine ⟨fun h => (by cases h), ?_⟩
                    apply segsK_pure
                    · intro W
                      simp only [runsT, runsF, rep, pick]
                      go_wp2_with (first | refine Arr.wpList_ldA rfl _ _ rfl _ l1 ?_ | refine Arr.wpList_ldA rfl _ _ rfl _ l2 ?_ | refine Arr.wpList_ldA rfl _ _ rfl _ l3 ?_ | refine Arr.wpList_ldA rfl _ _ rfl _ l4 ?_)
                      exact ⟨rfl, rfl⟩
                    simp only [runsT, runsF, rep, left]
                    apply segsK_nil
                    go_wp2_with fail
                    go_meet
                    exact ⟨by rw [E.out], Lib.hid (((Ext.drew _).trans (Ext.drew _)).trans (HE5.out.trans HE6.out))⟩
                · have da : (y.cl == x.cl) = false := by simp [ha]
                  have E : Hid (closeR x y = false) := Lib.hid (by unfold closeR; simp [da])
                  clear ha
                  refine wp_region_segsK [([4, 1, 1, 20], 0, 0), ([2, 19], 2, 7), ([5, 14], 0, 0), ([2, 12], 2, 14), ([1, 11], 1, 0), ([3, 1, 3, 4], 0, 0), ([2, 3], 2, 23), ([1, 2], 1, 0), ([2], 0, 0)] (by kernel_rfl) (by kernel_rfl) ?_
                  apply segsK_pure
                  · intro W
                    simp only [runsT, runsF, rep, pick]
                    go_wp2_with (first | refine Arr.wpList_ldA rfl _ _ rfl _ l1 ?_ | refine Arr.wpList_ldA rfl _ _ rfl _ l2 ?_)
                    exact ⟨rfl, rfl⟩
                  simp only [runsT, runsF, rep, left]
                  apply segsK_look
                  · simp only [runsT, runsF, rep, pick]
                    go_wp2_with (first | refine Arr.wpList_ldA rfl _ _ rfl _ l1 ?_ | refine Arr.wpList_ldA rfl _ _ rfl _ l2 ?_)
                    exact ⟨rfl, rfl⟩
                  simp only [runsT, runsF, rep, left]
                  apply segsK_pure
                  · intro W
                    simp only [runsT, runsF, rep, pick]
                    go_wp2_with (first | refine Arr.wpList_ldA rfl _ _ rfl _ l1 ?_ | refine Arr.wpList_ldA rfl _ _ rfl _ l2 ?_)
                    exact ⟨rfl, rfl⟩
                  simp only [runsT, runsF, rep, left]
                  apply segsK_look
                  · simp only [runsT, runsF, rep, pick]
                    go_wp2_with (first | refine Arr.wpList_ldA rfl _ _ rfl _ l1 ?_ | refine Arr.wpList_ldA rfl _ _ rfl _ l2 ?_)
                    exact ⟨rfl, rfl⟩
                  simp only [runsT, runsF, rep, left]
                  apply segsK_op
                  go_wp2_with fail
                  refine ⟨fun h => (by cases h), ?_⟩
                  apply segsK_pure
                  · intro W
                    simp only [runsT, runsF, rep, pick]
                    go_wp2_with (first | refine Arr.wpList_ldA rfl _ _ rfl _ l1 ?_ | refine Arr.wpList_ldA rfl _ _ rfl _ l2 ?_)
                    exact ⟨rfl, rfl⟩
                  simp only [runsT, runsF, rep, left]
                  apply segsK_look
                  · simp only [runsT, runsF, rep, pick]
                    go_wp2_with (first | refine Arr.wpList_ldA rfl _ _ rfl _ l1 ?_ | refine Arr.wpList_ldA rfl _ _ rfl _ l2 ?_)
                    exact ⟨rfl, rfl⟩
                  simp only [runsT, runsF, rep, left]
                  apply segsK_op
                  go_wp2_with fail
                  refine ⟨fun h => (by cases h), ?_⟩
                  apply segsK_pure
                  · intro W
                    simp only [runsT, runsF, rep, pick]
                    go_wp2_with (first | refine Arr.wpList_ldA rfl _ _ rfl _ l1 ?_ | refine Arr.wpList_ldA rfl _ _ rfl _ l2 ?_)
                    exact ⟨rfl, rfl⟩
                  simp only [runsT, runsF, rep, left]
                  apply segsK_nil
                  go_wp2_with fail
                  go_meet
                  exact ⟨by rw [E.out], Lib.hid ((Ext.drew _).trans (Ext.drew _))⟩
              case rest =>
              obtain ⟨rfl, HE5⟩ := hcut
              obtain ⟨bc, hbc⟩ : ∃ bc, closeR x y = bc := ⟨_, rfl⟩
              rw [hbc]
              cases bc with
              | true =>
                have HBC := Lib.hid hbc
                clear hbc
                go_wp2_with fail
                go_ret
                refine ⟨⟨false, rfl, ⟨fun h => (by cases h), fun h => ?_⟩⟩, HEr.out.trans (HK.out.1.trans HE5.out)⟩
                have h1 := (h S x R HX.out.1).2.2
                rw [List.any_eq_false] at h1
                have h2 := h1 y (by rw [HS1.out.1]; simp)
                have h3 := ((apart_iff x y).1 (by simpa using h2)).2
                rw [HBC.out] at h3
                cases h3
              | false =>
                have HBC := Lib.hid hbc
                clear hbc
                go_wp2_with fail
                go_roundg (i - (k + 1))
                case measure => omega
                case rel =>
                  refine ⟨k + 1, by go_num, by omega, Lib.hid ⟨HK.out.1.trans HE5.out, fun S' y' R' e' hlt => ?_⟩, Nat.le_refl _⟩
                  by_cases hlt2 : S'.length < k
                  · exact HK.out.2 S' y' R' e' hlt2
                  · have := uniq_at (HS1.out.1.symm.trans e') (by have := HS1.out.2; omega)
                    rw [← this]
                    exact (apart_iff x y).2 ⟨HBA.out, HBC.out⟩
          · obtain rfl : k = i := by omega
            have d1 : decide (k < k) = false := decide_eq_false (by omega)
            go_wp2_with fail
            go_roundg (len - (k + 1))
            case measure => omega
            case rel =>
              refine ⟨k + 1, by go_num, by omega, Lib.hid ⟨HEr.out.trans HK.out.1, fun S' x' R' e' hlt => ?_⟩, Nat.le_refl _⟩
              by_cases hlt2 : S'.length < k
              · exact HR.out.2 S' x' R' e' hlt2
              · obtain ⟨rfl, rfl, rfl⟩ := split_uniq (HX.out.1.symm.trans e') (by have := HX.out.2; omega)
                refine ⟨HBB.out.1, HBB.out.2, ?_⟩
                rw [List.any_eq_false]
                intro y hy
                obtain ⟨S1, R1, e⟩ := List.append_of_mem hy
                have := HK.out.2 S1 y R1 e (by have h := HX.out.2; rw [e] at h; simp at h; omega)
                rw [this]
                decide
    · obtain rfl : i = len := by omega
      have d0 : decide (i < i) = false := decide_eq_false (by omega)
      go_wp2_with fail
      go_ret
      exact ⟨⟨true, rfl, ⟨fun _ S x R e => HR.out.2 S x R e (by have := HV.out.len; rw [e] at this; simp at this; omega), fun _ => rfl⟩⟩, HR.out.1⟩
end Go.Proofs.Ytbjkpiobfiebhaa.Hs
