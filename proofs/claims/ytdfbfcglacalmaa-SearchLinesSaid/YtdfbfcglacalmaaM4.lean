/-
  Histories: the document's Right. At most 60 calls; no other condition.
  PLAIN LAW: the ranked tree of package rank, as a Lean datatype: put, drop, find, at, and what they do to the list of keys and things in order. No program in sight; no condition.
  PLAIN LAW of LossyHits: what a lossy map does call by call, and that a get's answer is what was set last. No program in sight; no condition.
  Search: lines of calls, and the search that goes on call by call. PLAIN LAW: no walk; no condition.
  Histories: the document's rows of calls: literals and appends; its Ended, Swaps, Of; two rows compared. At most 60 calls; no other condition.
  Histories: the document's Ended, Swaps, Of; two rows compared. At most 60 calls; no other condition.
  Search: rows of places; whether a place is among them; whether a place may come next. At most 60 calls; no other condition.
  Search: whether a place may come next. At most 60 calls; no other condition.
  Search: the lines that go on so, the least one first. PLAIN LAW: no walk; no condition.
-/
import Derived.Test.YtdfbfcglacalmaaM3
import Derived.Deep.DeepCutAuto
section
namespace Go.Proofs.Ytdfbfcglacalmaa.Hs
open Go.RowKit Go.Seg Go.Open Go.Lib Go.Arr Go.Stab Go.Row

/-- What the document finds wrong of one call. -/
def badR (x : C) : Bool := !opR x || (decide (x.bgn < 0) || ((decide (0 ≤ x.at_) && decide (x.at_ < x.bgn)) || (decide (0 ≤ x.en) && (decide (x.at_ < 0) || decide (x.en < x.at_)))))
theorem badR_iff (x : C) : badR x = false ↔ opR x = true ∧ timed x = true := by
  unfold badR timed
  simp only [Bool.or_eq_false_iff, Bool.and_eq_false_iff, Bool.not_eq_false', decide_eq_false_iff_not]
  constructor
  · rintro ⟨h0, h1, h2, h3⟩
    refine ⟨h0, ?_⟩
    rw [if_neg h1]
    split
    · simp; omega
    · simp; omega
  · rintro ⟨h0, h1⟩
    refine ⟨h0, ?_⟩
    split at h1
    · cases h1
    · rename_i h2
      split at h1
      · have := of_decide_eq_true h1
        omega
      · simp only [Bool.and_eq_true, Bool.or_eq_true, decide_eq_true_eq] at h1
        omega
/-- What it finds wrong of two. -/
def alikeR (x y : C) : Bool := y.id == x.id || (decide (0 ≤ y.at_) && y.at_ == x.at_)
def closeR (x y : C) : Bool := y.cl == x.cl && (!ahead y x && !ahead x y)
theorem apart_iff (x y : C) : apart x y = true ↔ alikeR x y = false ∧ closeR x y = false := by
  unfold apart alike alikeR closeR
  by_cases h1 : x.id = y.id
  · simp [h1]
  · have h1' : ¬ y.id = x.id := fun e => h1 e.symm
    by_cases h2 : x.at_ = y.at_
    · by_cases h3 : x.cl = y.cl
      · simp [h1, h1', h2, h3]
        cases ahead x y <;> cases ahead y x <;> simp
      · have h3' : ¬ y.cl = x.cl := fun e => h3 e.symm
        simp [h1, h1', h2, h3, h3']
    · have h2' : ¬ y.at_ = x.at_ := fun e => h2 e.symm
      by_cases h3 : x.cl = y.cl
      · simp [h1, h1', h2, h2', h3]
        cases ahead x y <;> cases ahead y x <;> simp
      · have h3' : ¬ y.cl = x.cl := fun e => h3 e.symm
        simp [h1, h1', h2, h2', h3, h3']
set_option maxRecDepth 100000 in
set_option maxHeartbeats 8000000 in
theorem rRight_any (T : List C) (a : Option Addr) (len cap b off : Nat) (w : World) (hV : VC w a len b off T) (hl : len ≤ 60) (hc : len ≤ cap) :
    Calls Try.prog 17 #[.slice a len cap] w fun e w' => (∃ r : Bool, e = .returned (.bool r) ∧ (r = true ↔ RightP T)) ∧ Ext w w' := by
  have HV := Lib.hid hV
  clear hV
  go_enter Try.func17, Try.ntmps17
  go_wp2_with fail
  go_loopg [3] len (fun g s wr => ∃ i : Nat, s = .int .i64 i ∧ i ≤ len ∧ Hid (Ext w wr ∧ ∀ S x R, T = S ++ x :: R → S.length < i → Good S x) ∧ len - i ≤ g)
  case atStart => exact ⟨0, rfl, Nat.zero_le _, Lib.hid ⟨Ext.refl _, fun S x R _ h => by omega⟩, Nat.le_refl _⟩
  case round =>
    obtain ⟨i, rfl, hi, HR, hg⟩ := hrel
    by_cases hil : i < len
    · have d0 : decide (i < len) = true := decide_eq_true hil
      obtain rfl := HV.out.ad (by omega)
      obtain ⟨S, x, R, eT, hS, hx⟩ := HV.out.get hil
      have HX := Lib.hid (And.intro eT hS)
      have l1 := hx.ld wr HR.out.1
      have s1 := st_new wr x
      have HB := Lib.hid (one_box wr x)
      obtain ⟨w2, hw2⟩ : ∃ w2, w2 = wr.alloc (.cells (enc x).toArray 41) := ⟨_, rfl⟩
      rw [← hw2] at s1
      have HA := Lib.hid (show At1 w2 wr.heap.size 0 x by rw [hw2]; exact at1_blk HB.out.1)
      have HE2 := Lib.hid (show Ext wr w2 by rw [hw2]; exact HB.out.2)
      unfold ZC at s1
      have l2 := HA.out.op w2 (Ext.refl _)
      simp only [Nat.zero_add] at l2
      clear hx eT hS HB hw2
      go_upto_region 5 with (first | refine Arr.wpList_ldA rfl _ _ rfl _ l1 ?_ | refine Arr.wpList_stA rfl _ _ _ rfl rfl s1 ?_)
      clear s1 l1
      go_cut [53] (fun s wx => s = .bool (badR x) ∧ Hid (Ext w2 wx))
      case first =>
        go_wp2_with (first | refine Arr.wpList_ldA rfl _ _ rfl _ l2 ?_)
        refine (rOpR_any x _).mono ?_
        rintro e w3 ⟨rfl, hE3⟩
        have HE3 := Lib.hid hE3
        have p3 := HA.out.cl w3 hE3 7 _ rfl
        have p4 := HA.out.cl w3 hE3 8 _ rfl
        have p5 := HA.out.cl w3 hE3 9 _ rfl
        simp only [Nat.zero_add] at p3 p4 p5
        clear hE3 l2
        cases h0 : opR x with
        | false =>
          have E : Hid (badR x = true) := Lib.hid (by unfold badR; rw [h0]; rfl)
          clear h0
          go_wp2_with fail
          go_meet
          exact ⟨by rw [E.out], HE3⟩
        | true =>
          by_cases h1 : x.bgn < 0
          · have d1 : decide (x.bgn < 0) = true := decide_eq_true h1
            have E : Hid (badR x = true) := Lib.hid (by unfold badR; simp [h0, d1])
            clear h0 h1
            go_wp2_with fail
            go_meet
            exact ⟨by rw [E.out], HE3⟩
          · have d1 : decide (x.bgn < 0) = false := decide_eq_false h1
            by_cases h2 : 0 ≤ x.at_
            · have d2 : decide (0 ≤ x.at_) = true := decide_eq_true h2
              by_cases h3 : x.at_ < x.bgn
              · have d3 : decide (x.at_ < x.bgn) = true := decide_eq_true h3
                have E : Hid (badR x = true) := Lib.hid (by unfold badR; simp [h0, d1, d2, d3])
                clear h0 h1 h2 h3
                go_wp2_with fail
                go_meet
                exact ⟨by rw [E.out], HE3⟩
              · have d3 : decide (x.at_ < x.bgn) = false := decide_eq_false h3
                by_cases h4 : 0 ≤ x.en
                · have d4 : decide (0 ≤ x.en) = true := decide_eq_true h4
                  have d5 : decide (x.at_ < 0) = false := decide_eq_false (by omega)
                  by_cases h6 : x.en < x.at_
                  · have d6 : decide (x.en < x.at_) = true := decide_eq_true h6
                    have E : Hid (badR x = true) := Lib.hid (by unfold badR; simp [h0, d1, d2, d3, d4, d5, d6])
                    clear h0 h1 h2 h3 h4 h6
                    go_wp2_with fail
                    go_meet
                    exact ⟨by rw [E.out], HE3⟩
                  · have d6 : decide (x.en < x.at_) = false := decide_eq_false h6
                    have E : Hid (badR x = false) := Lib.hid (by unfold badR; simp [h0, d1, d2, d3, d4, d5, d6])
                    clear h0 h1 h2 h3 h4 h6
                    go_wp2_with fail
                    go_meet
                    exact ⟨by rw [E.out], HE3⟩
                · have d4 : decide (0 ≤ x.en) = false := decide_eq_false h4
                  have E : Hid (badR x = false) := Lib.hid (by unfold badR; simp [h0, d1, d2, d3, d4])
                  clear h0 h1 h2 h3 h4
                  go_wp2_with fail
                  go_meet
                  exact ⟨by rw [E.out], HE3⟩
            · have d2 : decide (0 ≤ x.at_) = false := decide_eq_false h2
              by_cases h4 : 0 ≤ x.en
              · have d4 : decide (0 ≤ x.en) = true := decide_eq_true h4
                have d5 : decide (x.at_ < 0) = true := decide_eq_true (by omega)
                have E : Hid (badR x = true) := Lib.hid (by unfold badR; simp [h0, d1, d2, d4, d5])
                clear h0 h1 h2 h4
                go_wp2_with fail
                go_meet
                exact ⟨by rw [E.out], HE3⟩
              · have d4 : decide (0 ≤ x.en) = false := decide_eq_false h4
                have E : Hid (badR x = false) := Lib.hid (by unfold badR; simp [h0, d1, d2, d4])
                clear h0 h1 h2 h4
                go_wp2_with fail
                go_meet
                exact ⟨by rw [E.out], HE3⟩
      case rest =>
      obtain ⟨rfl, HE3⟩ := hcut
      obtain ⟨bb, hbb⟩ : ∃ bb, badR x = bb := ⟨_, rfl⟩
      rw [hbb]
      cases bb with
      | true =>
        have HBB := Lib.hid hbb
        clear hbb
        go_wp2_with fail
        go_ret
        refine ⟨⟨false, rfl, ⟨fun h => (by cases h), fun h => ?_⟩⟩, HR.out.1.trans (HE2.out.trans HE3.out)⟩
        have h1 := h S x R HX.out.1
        have h2 := (badR_iff x).2 ⟨h1.1, h1.2.1⟩
        have h3 := HBB.out
        rw [h2] at h3
        cases h3
      | false =>
        have HBB := Lib.hid ((badR_iff x).1 hbb)
        clear hbb l2
        have HEr := Lib.hid (HR.out.1.trans (HE2.out.trans HE3.out))
        go_wp2_with fail
        go_loopg [5] i (fun g s wk => ∃ k : Nat, s = .int .i64 k ∧ k ≤ i ∧ Hid (Ext wc wk ∧ ∀ S1 y R1, S = S1 ++ y :: R1 → S1.length < k → apart x y = true) ∧ i - k ≤ g)
        case atStart => exact ⟨0, rfl, Nat.zero_le _, Lib.hid ⟨Ext.refl _, fun S1 y R1 _ h => by omega⟩, Nat.le_refl _⟩
        case round =>
          obtain ⟨k, rfl, hk, HK, hg2⟩ := hrel
          by_cases hki : k < i
          · have d1 : decide (k < i) = true := decide_eq_true hki
            obtain ⟨S1, y, R1, eS, hS1⟩ := split_at S k (by rw [HX.out.2]; exact hki)
            have HS1 := Lib.hid (And.intro eS hS1)
            have hy := HV.out.at1 S1 (R1 ++ x :: R) y (by rw [HX.out.1, eS]; simp) k hS1.symm
            have HY := Lib.hid (show At1 wr b (off + k * 13) y from ⟨fun W hW => hy.ld W (HEr.out.trans (HK.out.1.trans hW)), fun W hW => hy.cl W (HEr.out.trans (HK.out.1.trans hW))⟩)
            have HXA := Lib.hid (show At1 wr _ 0 x from ⟨fun W hW => HA.out.ld W (HE3.out.trans (HK.out.1.trans hW)), fun W hW => HA.out.cl W (HE3.out.trans (HK.out.1.trans hW))⟩)
            have kc : k < len := by omega
            clear hy eS hS1
            go_upto_region 10 with fail
            have HYd := Lib.hid (show At1 wr.drew b (off + k * 13) y from ⟨fun W hW => HY.out.ld W ((Ext.drew _).trans hW), fun W hW => HY.out.cl W ((Ext.drew _).trans hW)⟩)
            have HXd := Lib.hid (show At1 wr.drew _ 0 x from ⟨fun W hW => HXA.out.ld W ((Ext.drew _).trans hW), fun W hW => HXA.out.cl W ((Ext.drew _).trans hW)⟩)
            go_cut [84] (fun s wx => s = .bool (alikeR x y) ∧ wx = wr.drew)
            case first =>
              have y1 := HYd.out.cl wr.drew (Ext.refl _) 1 _ rfl
              have y8 := HYd.out.cl wr.drew (Ext.refl _) 8 _ rfl
              have x1 := HXd.out.cl wr.drew (Ext.refl _) 1 _ rfl
              have x8 := HXd.out.cl wr.drew (Ext.refl _) 8 _ rfl
              simp only [Nat.zero_add] at x1 x8
              by_cases ha : y.id = x.id
              · have da : (y.id == x.id) = true := by simp [ha]
                have E : Hid (alikeR x y = true) := Lib.hid (by unfold alikeR; simp [da])
                clear ha
                refine wp_region_segsK [([4, 1, 1, 20], 0, 0), ([8, 13], 2, 13), ([1, 12], 2, 14), ([6, 1, 1, 4], 0, 0), ([5], 2, 26)] (by kernel_rfl) (by kernel_rfl) ?_
                apply segsK_pure
                · intro W
                  simp only [runsT, runsF, rep, pick]
                  go_wp2_with fail
                  exact ⟨rfl, rfl⟩
                simp only [runsT, runsF, rep, left]
                apply segsK_look
                · simp only [runsT, runsF, rep, pick]
                  go_wp2_with fail
                  exact ⟨rfl, rfl⟩
                simp only [runsT, runsF, rep, left]
                apply segsK_look
                · simp only [runsT, runsF, rep, pick]
                  go_wp2_with fail
                  exact ⟨rfl, rfl⟩
                simp only [runsT, runsF, rep, left]
                apply segsK_pure
                · intro W
                  simp only [runsT, runsF, rep, pick]
                  go_wp2_with fail
                  exact ⟨rfl, rfl⟩
                simp only [runsT, runsF, rep, left]
                apply segsK_look
                · simp only [runsT, runsF, rep, pick]
                  go_wp2_with fail
                  exact ⟨rfl, rfl⟩
                simp only [runsT, runsF, rep, left]
                apply segsK_nil
                go_wp2_with fail
                go_meet
                exact ⟨by rw [E.out], rfl⟩
              · have da : (y.id == x.id) = false := by simp [ha]
                by_cases hb : 0 ≤ y.at_
                · have db : decide (0 ≤ y.at_) = true := by simp [hb]
                  by_cases hc : y.at_ = x.at_
                  · have dc : (y.at_ == x.at_) = true := by simp [hc]
                    have E : Hid (alikeR x y = true) := Lib.hid (by unfold alikeR; simp [da, db, dc])
                    clear ha hb hc
                    refine wp_region_segsK [([4, 1, 1, 20], 0, 0), ([8, 13], 2, 13), ([1, 12], 2, 14), ([6, 1, 1, 4], 0, 0), ([5], 2, 26)] (by kernel_rfl) (by kernel_rfl) ?_
                    apply segsK_pure
                    · intro W
                      simp only [runsT, runsF, rep, pick]
                      go_wp2_with fail
                      exact ⟨rfl, rfl⟩
                    simp only [runsT, runsF, rep, left]
                    apply segsK_look
                    · simp only [runsT, runsF, rep, pick]
                      go_wp2_with fail
                      exact ⟨rfl, rfl⟩
                    simp only [runsT, runsF, rep, left]
                    apply segsK_look
                    · simp only [runsT, runsF, rep, pick]
                      go_wp2_with fail
                      exact ⟨rfl, rfl⟩
                    simp only [runsT, runsF, rep, left]
                    apply segsK_pure
                    · intro W
                      simp only [runsT, runsF, rep, pick]
                      go_wp2_with fail
                      exact ⟨rfl, rfl⟩
                    simp only [runsT, runsF, rep, left]
                    apply segsK_look
                    · simp only [runsT, runsF, rep, pick]
                      go_wp2_with fail
                      exact ⟨rfl, rfl⟩
                    simp only [runsT, runsF, rep, left]
                    apply segsK_nil
                    go_wp2_with fail
                    go_meet
                    exact ⟨by rw [E.out], rfl⟩
                  · have dc : (y.at_ == x.at_) = false := by simp [hc]
                    have E : Hid (alikeR x y = false) := Lib.hid (by unfold alikeR; simp [da, db, dc])
                    clear ha hb hc
                    refine wp_region_segsK [([4, 1, 1, 20], 0, 0), ([8, 13], 2, 13), ([1, 12], 2, 14), ([6, 1, 1, 4], 0, 0), ([5], 2, 26)] (by kernel_rfl) (by kernel_rfl) ?_
                    apply segsK_pure
                    · intro W
                      simp only [runsT, runsF, rep, pick]
                      go_wp2_with fail
                      exact ⟨rfl, rfl⟩
                    simp only [runsT, runsF, rep, left]
                    apply segsK_look
                    · simp only [runsT, runsF, rep, pick]
                      go_wp2_with fail
                      exact ⟨rfl, rfl⟩
                    simp only [runsT, runsF, rep, left]
                    apply segsK_look
                    · simp only [runsT, runsF, rep, pick]
                      go_wp2_with fail
                      exact ⟨rfl, rfl⟩
                    simp only [runsT, runsF, rep, left]
                    apply segsK_pure
                    · intro W
                      simp only [runsT, runsF, rep, pick]
                      go_wp2_with fail
                      exact ⟨rfl, rfl⟩
                    simp only [runsT, runsF, rep, left]
                    apply segsK_look
                    · simp only [runsT, runsF, rep, pick]
                      go_wp2_with fail
                      exact ⟨rfl, rfl⟩
                    simp only [runsT, runsF, rep, left]
                    apply segsK_nil
                    go_wp2_with fail
                    go_meet
                    exact ⟨by rw [E.out], rfl⟩
                · have db : decide (0 ≤ y.at_) = false := by simp [hb]
                  have E : Hid (alikeR x y = false) := Lib.hid (by unfold alikeR; simp [da, db])
                  clear ha hb
                  refine wp_region_segsK [([4, 1, 1, 20], 0, 0), ([8, 13], 2, 13), ([1, 12], 2, 14), ([6, 1, 1, 4], 0, 0), ([5], 2, 26)] (by kernel_rfl) (by kernel_rfl) ?_
                  apply segsK_pure
                  · intro W
                    simp only [runsT, runsF, rep, pick]
                    go_wp2_with fail
                    exact ⟨rfl, rfl⟩
                  simp only [runsT, runsF, rep, left]
                  apply segsK_look
                  · simp only [runsT, runsF, rep, pick]
                    go_wp2_with fail
                    exact ⟨rfl, rfl⟩
                  simp only [runsT, runsF, rep, left]
                  apply segsK_look
                  · simp only [runsT, runsF, rep, pick]
                    go_wp2_with fail
                    exact ⟨rfl, rfl⟩
                  simp only [runsT, runsF, rep, left]
                  apply segsK_pure
                  · intro W
                    simp only [runsT, runsF, rep, pick]
                    go_wp2_with fail
                    exact ⟨rfl, rfl⟩
                  simp only [runsT, runsF, rep, left]
                  apply segsK_look
                  · simp only [runsT, runsF, rep, pick]
                    go_wp2_with fail
                    exact ⟨rfl, rfl⟩
                  simp only [runsT, runsF, rep, left]
                  apply segsK_nil
                  go_wp2_with fail
                  go_meet
                  exact ⟨by rw [E.out], rfl⟩
            case rest =>
            obtain ⟨rfl, rfl⟩ := hcut
            obtain ⟨ba, hba⟩ : ∃ ba, alikeR x y = ba := ⟨_, rfl⟩
            rw [hba]
            cases ba with
            | true =>
              have HBA := Lib.hid hba
              clear hba
              go_wp2_with fail
              go_ret
              refine ⟨⟨false, rfl, ⟨fun h => (by cases h), fun h => ?_⟩⟩, HEr.out.trans (HK.out.1.trans (Ext.drew _))⟩
              have h1 := (h S x R HX.out.1).2.2
              rw [List.any_eq_false] at h1
              have h2 := h1 y (by rw [HS1.out.1]; simp)
              have h3 := ((apart_iff x y).1 (by simpa using h2)).1
              rw [HBA.out] at h3
              cases h3
            | false =>
              have HBA := Lib.hid hba
              clear hba
              go_upto_region 12 with fail
              go_cut [110] (fun s wx => s = .bool (closeR x y) ∧ Hid (Ext wr wx))
              case first =>
                have HYe := Lib.hid (show At1 wr.drew.drew b (off + k * 13) y from ⟨fun W hW => HYd.out.ld W ((Ext.drew _).trans hW), fun W hW => HYd.out.cl W ((Ext.drew _).trans hW)⟩)
                have HXe := Lib.hid (show At1 wr.drew.drew _ 0 x from ⟨fun W hW => HXd.out.ld W ((Ext.drew _).trans hW), fun W hW => HXd.out.cl W ((Ext.drew _).trans hW)⟩)
                have y0 := HYe.out.cl wr.drew.drew (Ext.refl _) 0 _ rfl
                have x0 := HXe.out.cl wr.drew.drew (Ext.refl _) 0 _ rfl
                have l1 := HYe.out.ld wr.drew.drew (Ext.refl _)
                have l2 := HXe.out.ld wr.drew.drew (Ext.refl _)
                simp only [Nat.add_zero] at y0 x0
                by_cases ha : y.cl = x.cl
                · have da : (y.cl == x.cl) = true := by simp [ha]
                  obtain ⟨o1, ho1⟩ : ∃ o1, ahead y x = o1 := ⟨_, rfl⟩
                  cases o1 with
                  | true =>
                    have E : Hid (closeR x y = false) := Lib.hid (by unfold closeR; rw [ho1]; simp)
                    replace ho1 := Lib.hid ho1
                    clear ha
                    refine wp_region_segsK [([4, 1, 1, 20], 0, 0), ([2, 19], 2, 7), ([5, 14], 0, 0), ([2, 12], 2, 14), ([1, 11], 1, 0), ([3, 1, 3, 4], 0, 0), ([2, 3], 2, 23), ([1, 2], 1, 0), ([2], 0, 0)] (by kernel_rfl) (by kernel_rfl) ?_
                    apply segsK_pure
                    · intro W
                      simp only [runsT, runsF, rep, pick]
                      go_wp2_with (first | refine Arr.wpList_ldA rfl _ _ rfl _ l1 ?_ | refine Arr.wpList_ldA rfl _ _ rfl _ l2 ?_)
                      exact ⟨rfl, rfl⟩
                    simp only [runsT, runsF, rep, left]
                    apply segsK_look
                    · simp only [runsT, runsF, rep, pick]
                      go_wp2_with (first | refine Arr.wpList_ldA rfl _ _ rfl _ l1 ?_ | refine Arr.wpList_ldA rfl _ _ rfl _ l2 ?_)
                      exact ⟨rfl, rfl⟩
                    simp only [runsT, runsF, rep, left]
                    apply segsK_pure
                    · intro W
                      simp only [runsT, runsF, rep, pick]
                      go_wp2_with (first | refine Arr.wpList_ldA rfl _ _ rfl _ l1 ?_ | refine Arr.wpList_ldA rfl _ _ rfl _ l2 ?_)
                      exact ⟨rfl, rfl⟩
                    simp only [runsT, runsF, rep, left]
                    apply segsK_look
                    · simp only [runsT, runsF, rep, pick]
                      go_wp2_with (first | refine Arr.wpList_ldA rfl _ _ rfl _ l1 ?_ | refine Arr.wpList_ldA rfl _ _ rfl _ l2 ?_)
                      exact ⟨rfl, rfl⟩
                    simp only [runsT, runsF, rep, left]
                    apply segsK_op
                    go_wp2_with fail
                    refine (rAhead_any y x _).mono ?_
                    rintro e w5 ⟨rfl, hE5⟩
                    have HE5 := Lib.hid hE5
                    have l3 := HYe.out.ld w5 hE5
                    have l4 := HXe.out.ld w5 hE5
                    clear hE5
                    rw [ho1.out]
                    go_wp2_with fail
                    refine ⟨fun h => (by cases h), ?_⟩
                    apply segsK_pure
                    · intro W
                      simp only [runsT, runsF, rep, pick]
                      go_wp2_with (first | refine Arr.wpList_ldA rfl _ _ rfl _ l1 ?_ | refine Arr.wpList_ldA rfl _ _ rfl _ l2 ?_ | refine Arr.wpList_ldA rfl _ _ rfl _ l3 ?_ | refine Arr.wpList_ldA rfl _ _ rfl _ l4 ?_)
                      exact ⟨rfl, rfl⟩
                    simp only [runsT, runsF, rep, left]
                    apply segsK_look
                    · simp only [runsT, runsF, rep, pick]
                      go_wp2_with (first | refine Arr.wpList_ldA rfl _ _ rfl _ l1 ?_ | refine Arr.wpList_ldA rfl _ _ rfl _ l2 ?_ | refine Arr.wpList_ldA rfl _ _ rfl _ l3 ?_ | refine Arr.wpList_ldA rfl _ _ rfl _ l4 ?_)
                      exact ⟨rfl, rfl⟩
                    simp only [runsT, runsF, rep, left]
                    apply segsK_op
                    go_wp2_with fail
                    refine ⟨fun h => (by cases h), ?_⟩
                    apply segsK_pure
                    · intro W
                      simp only [runsT, runsF, rep, pick]
                      go_wp2_with (first | refine Arr.wpList_ldA rfl _ _ rfl _ l1 ?_ | refine Arr.wpList_ldA rfl _ _ rfl _ l2 ?_ | refine Arr.wpList_ldA rfl _ _ rfl _ l3 ?_ | refine Arr.wpList_ldA rfl _ _ rfl _ l4 ?_)
                      exact ⟨rfl, rfl⟩
                    simp only [runsT, runsF, rep, left]
                    apply segsK_nil
                    go_wp2_with fail
                    go_meet
                    exact ⟨by rw [E.out], Lib.hid (((Ext.drew _).trans (Ext.drew _)).trans HE5.out)⟩
                  | false =>
                    have E : Hid (closeR x y = !ahead x y) := Lib.hid (by unfold closeR; rw [ho1, da]; simp)
                    replace ho1 := Lib.hid ho1
                    clear ha
                    refine wp_region_segsK [([4, 1, 1, 20], 0, 0), ([2, 19], 2, 7), ([5, 14], 0, 0), ([2, 12], 2, 14), ([1, 11], 1, 0), ([3, 1, 3, 4], 0, 0), ([2, 3], 2, 23), ([1, 2], 1, 0), ([2], 0, 0)] (by kernel_rfl) (by kernel_rfl) ?_
                    apply segsK_pure
                    · intro W
                      simp only [runsT, runsF, rep, pick]
                      go_wp2_with (first | refine Arr.wpList_ldA rfl _ _ rfl _ l1 ?_ | refine Arr.wpList_ldA rfl _ _ rfl _ l2 ?_)
                      exact ⟨rfl, rfl⟩
                    simp only [runsT, runsF, rep, left]
                    apply segsK_look
                    · simp only [runsT, runsF, rep, pick]
                      go_wp2_with (first | refine Arr.wpList_ldA rfl _ _ rfl _ l1 ?_ | refine Arr.wpList_ldA rfl _ _ rfl _ l2 ?_)
                      exact ⟨rfl, rfl⟩
                    simp only [runsT, runsF, rep, left]
                    apply segsK_pure
                    · intro W
                      simp only [runsT, runsF, rep, pick]
                      go_wp2_with (first | refine Arr.wpList_ldA rfl _ _ rfl _ l1 ?_ | refine Arr.wpList_ldA rfl _ _ rfl _ l2 ?_)
                      exact ⟨rfl, rfl⟩
                    simp only [runsT, runsF, rep, left]
                    apply segsK_look
                    · simp only [runsT, runsF, rep, pick]
                      go_wp2_with (first | refine Arr.wpList_ldA rfl _ _ rfl _ l1 ?_ | refine Arr.wpList_ldA rfl _ _ rfl _ l2 ?_)
                      exact ⟨rfl, rfl⟩
                    simp only [runsT, runsF, rep, left]
                    apply segsK_op
                    go_wp2_with fail
                    refine (rAhead_any y x _).mono ?_
                    rintro e w5 ⟨rfl, hE5⟩
                    have HE5 := Lib.hid hE5
                    have l3 := HYe.out.ld w5 hE5
                    have l4 := HXe.out.ld w5 hE5
                    clear hE5
                    rw [ho1.out]
                    go_wp2_with fail
                    refine ⟨fun h => (by cases h), ?_⟩
                    apply segsK_pure
                    · intro W
                      simp only [runsT, runsF, rep, pick]
                      go_wp2_with (first | refine Arr.wpList_ldA rfl _ _ rfl _ l1 ?_ | refine Arr.wpList_ldA rfl _ _ rfl _ l2 ?_ | refine Arr.wpList_ldA rfl _ _ rfl _ l3 ?_ | refine Arr.wpList_ldA rfl _ _ rfl _ l4 ?_)
                      exact ⟨rfl, rfl⟩
                    simp only [runsT, runsF, rep, left]
                    apply segsK_look
                    · simp only [runsT, runsF, rep, pick]
                      go_wp2_with (first | refine Arr.wpList_ldA rfl _ _ rfl _ l1 ?_ | refine Arr.wpList_ldA rfl _ _ rfl _ l2 ?_ | refine Arr.wpList_ldA rfl _ _ rfl _ l3 ?_ | refine Arr.wpList_ldA rfl _ _ rfl _ l4 ?_)
                      exact ⟨rfl, rfl⟩
                    simp only [runsT, runsF, rep, left]
                    apply segsK_op
                    go_wp2_with fail
                    refine (rAhead_any x y _).mono ?_
                    rintro e w6 ⟨rfl, hE6⟩
                    have HE6 := Lib.hid hE6
                    clear hE6
                    go_wp2_with fail
                    refine ⟨fun h => (by cases h), ?_⟩
                    apply segsK_pure
                    · intro W
                      simp only [runsT, runsF, rep, pick]
                      go_wp2_with (first | refine Arr.wpList_ldA rfl _ _ rfl _ l1 ?_ | refine Arr.wpList_ldA rfl _ _ rfl _ l2 ?_ | refine Arr.wpList_ldA rfl _ _ rfl _ l3 ?_ | refine Arr.wpList_ldA rfl _ _ rfl _ l4 ?_)
                      exact ⟨rfl, rfl⟩
                    simp only [runsT, runsF, rep, left]
                    apply segsK_nil
                    go_wp2_with fail
                    go_meet
                    exact ⟨by rw [E.out], Lib.hid (((Ext.drew _).trans (Ext.drew _)).trans (HE5.out.trans HE6.out))⟩
                · have da : (y.cl == x.cl) = false := by simp [ha]
                  have E : Hid (closeR x y = false) := Lib.hid (by unfold closeR; simp [da])
                  clear ha
                  refine wp_region_segsK [([4, 1, 1, 20], 0, 0), ([2, 19], 2, 7), ([5, 14], 0, 0), ([2, 12], 2, 14), ([1, 11], 1, 0), ([3, 1, 3, 4], 0, 0), ([2, 3], 2, 23), ([1, 2], 1, 0), ([2], 0, 0)] (by kernel_rfl) (by kernel_rfl) ?_
                  apply segsK_pure
                  · intro W
                    simp only [runsT, runsF, rep, pick]
                    go_wp2_with (first | refine Arr.wpList_ldA rfl _ _ rfl _ l1 ?_ | refine Arr.wpList_ldA rfl _ _ rfl _ l2 ?_)
                    exact ⟨rfl, rfl⟩
                  simp only [runsT, runsF, rep, left]
                  apply segsK_look
                  · simp only [runsT, runsF, rep, pick]
                    go_wp2_with (first | refine Arr.wpList_ldA rfl _ _ rfl _ l1 ?_ | refine Arr.wpList_ldA rfl _ _ rfl _ l2 ?_)
                    exact ⟨rfl, rfl⟩
                  simp only [runsT, runsF, rep, left]
                  apply segsK_pure
                  · intro W
                    simp only [runsT, runsF, rep, pick]
                    go_wp2_with (first | refine Arr.wpList_ldA rfl _ _ rfl _ l1 ?_ | refine Arr.wpList_ldA rfl _ _ rfl _ l2 ?_)
                    exact ⟨rfl, rfl⟩
                  simp only [runsT, runsF, rep, left]
                  apply segsK_look
                  · simp only [runsT, runsF, rep, pick]
                    go_wp2_with (first | refine Arr.wpList_ldA rfl _ _ rfl _ l1 ?_ | refine Arr.wpList_ldA rfl _ _ rfl _ l2 ?_)
                    exact ⟨rfl, rfl⟩
                  simp only [runsT, runsF, rep, left]
                  apply segsK_op
                  go_wp2_with fail
                  refine ⟨fun h => (by cases h), ?_⟩
                  apply segsK_pure
                  · intro W
                    simp only [runsT, runsF, rep, pick]
                    go_wp2_with (first | refine Arr.wpList_ldA rfl _ _ rfl _ l1 ?_ | refine Arr.wpList_ldA rfl _ _ rfl _ l2 ?_)
                    exact ⟨rfl, rfl⟩
                  simp only [runsT, runsF, rep, left]
                  apply segsK_look
                  · simp only [runsT, runsF, rep, pick]
                    go_wp2_with (first | refine Arr.wpList_ldA rfl _ _ rfl _ l1 ?_ | refine Arr.wpList_ldA rfl _ _ rfl _ l2 ?_)
                    exact ⟨rfl, rfl⟩
                  simp only [runsT, runsF, rep, left]
                  apply segsK_op
                  go_wp2_with fail
                  refine ⟨fun h => (by cases h), ?_⟩
                  apply segsK_pure
                  · intro W
                    simp only [runsT, runsF, rep, pick]
                    go_wp2_with (first | refine Arr.wpList_ldA rfl _ _ rfl _ l1 ?_ | refine Arr.wpList_ldA rfl _ _ rfl _ l2 ?_)
                    exact ⟨rfl, rfl⟩
                  simp only [runsT, runsF, rep, left]
                  apply segsK_nil
                  go_wp2_with fail
                  go_meet
                  exact ⟨by rw [E.out], Lib.hid ((Ext.drew _).trans (Ext.drew _))⟩
              case rest =>
              obtain ⟨rfl, HE5⟩ := hcut
              obtain ⟨bc, hbc⟩ : ∃ bc, closeR x y = bc := ⟨_, rfl⟩
              rw [hbc]
              cases bc with
              | true =>
                have HBC := Lib.hid hbc
                clear hbc
                go_wp2_with fail
                go_ret
                refine ⟨⟨false, rfl, ⟨fun h => (by cases h), fun h => ?_⟩⟩, HEr.out.trans (HK.out.1.trans HE5.out)⟩
                have h1 := (h S x R HX.out.1).2.2
                rw [List.any_eq_false] at h1
                have h2 := h1 y (by rw [HS1.out.1]; simp)
                have h3 := ((apart_iff x y).1 (by simpa using h2)).2
                rw [HBC.out] at h3
                cases h3
              | false =>
                have HBC := Lib.hid hbc
                clear hbc
                go_wp2_with fail
                go_roundg (i - (k + 1))
                case measure => omega
                case rel =>
                  refine ⟨k + 1, by go_num, by omega, Lib.hid ⟨HK.out.1.trans HE5.out, fun S' y' R' e' hlt => ?_⟩, Nat.le_refl _⟩
                  by_cases hlt2 : S'.length < k
                  · exact HK.out.2 S' y' R' e' hlt2
                  · have := uniq_at (HS1.out.1.symm.trans e') (by have := HS1.out.2; omega)
                    rw [← this]
                    exact (apart_iff x y).2 ⟨HBA.out, HBC.out⟩
          · obtain rfl : k = i := by omega
            have d1 : decide (k < k) = false := decide_eq_false (by omega)
            go_wp2_with fail
            go_roundg (len - (k + 1))
            case measure => omega
            case rel =>
              refine ⟨k + 1, by go_num, by omega, Lib.hid ⟨HEr.out.trans HK.out.1, fun S' x' R' e' hlt => ?_⟩, Nat.le_refl _⟩
              by_cases hlt2 : S'.length < k
              · exact HR.out.2 S' x' R' e' hlt2
              · obtain ⟨rfl, rfl, rfl⟩ := split_uniq (HX.out.1.symm.trans e') (by have := HX.out.2; omega)
                refine ⟨HBB.out.1, HBB.out.2, ?_⟩
                rw [List.any_eq_false]
                intro y hy
                obtain ⟨S1, R1, e⟩ := List.append_of_mem hy
                have := HK.out.2 S1 y R1 e (by have h := HX.out.2; rw [e] at h; simp at h; omega)
                rw [this]
                decide
    · obtain rfl : i = len := by omega
      have d0 : decide (i < i) = false := decide_eq_false (by omega)
      go_wp2_with fail
      go_ret
      exact ⟨⟨true, rfl, ⟨fun _ S x R e => HR.out.2 S x R e (by have := HV.out.len; rw [e] at this; simp at this; omega), fun _ => rfl⟩⟩, HR.out.1⟩
end Go.Proofs.Ytdfbfcglacalmaa.Hs
end

section
namespace Rk

/-- A tree: a key, its thing, what stands left and right. -/
inductive T (α β : Type) where
  | nil
  | node (k : α) (v : β) (l r : T α β)

variable {α β : Type}

namespace T

/-- How many keys, how deep: whole numbers, as the program keeps them. -/
def sz : T α β → Int
  | nil => 0
  | node _ _ l r => sz l + sz r + 1

def dp : T α β → Int
  | nil => 0
  | node _ _ l r => max (dp l) (dp r) + 1

theorem sz_nn : ∀ t : T α β, 0 ≤ t.sz
  | nil => Int.le_refl _
  | node _ _ l r => by have := sz_nn l; have := sz_nn r; simp only [sz]; omega

theorem dp_nn : ∀ t : T α β, 0 ≤ t.dp
  | nil => Int.le_refl _
  | node _ _ l r => by have := dp_nn l; have := dp_nn r; simp only [dp]; omega

def toL : T α β → List (α × β)
  | nil => []
  | node k v l r => toL l ++ (k, v) :: toL r

theorem sz_toL : ∀ t : T α β, (t.toL.length : Int) = t.sz
  | nil => rfl
  | node _ _ l r => by
    have h1 := sz_toL l
    have h2 := sz_toL r
    simp only [toL, sz, List.length_append, List.length_cons]; omega

theorem dp_le_sz : ∀ t : T α β, t.dp ≤ t.sz
  | nil => Int.le_refl _
  | node _ _ l r => by have := dp_le_sz l; have := dp_le_sz r; have := sz_nn l; have := sz_nn r; simp only [dp, sz]; omega

theorem dp_pos {t : T α β} (h : 0 < t.dp) : ∃ k v l r, t = node k v l r := by
  cases t with
  | nil => simp [dp] at h
  | node k v l r => exact ⟨k, v, l, r, rfl⟩

def leftUp (k : α) (v : β) : T α β → T α β → T α β
  | node lk lv ll lr, r =>
    if dp ll < dp lr then
      match lr with
      | node mk mv ml mr => node mk mv (node lk lv ll ml) (node k v mr r)
      | nil => node lk lv ll (node k v lr r)
    else node lk lv ll (node k v lr r)
  | nil, r => node k v nil r

def rightUp (k : α) (v : β) (l : T α β) : T α β → T α β
  | node rk rv rl rr =>
    if dp rr < dp rl then
      match rl with
      | node mk mv ml mr => node mk mv (node k v l ml) (node rk rv mr rr)
      | nil => node rk rv (node k v l rl) rr
    else node rk rv (node k v l rl) rr
  | nil => node k v l nil

def joined (k : α) (v : β) (l r : T α β) : T α β :=
  if dp l - dp r > 1 then leftUp k v l r
  else if dp l - dp r < -1 then rightUp k v l r
  else node k v l r

theorem toL_leftUp (k : α) (v : β) (l r : T α β) : (leftUp k v l r).toL = l.toL ++ (k, v) :: r.toL := by
  unfold leftUp
  split
  · split
    · split <;> simp [toL]
    · simp [toL]
  · simp [toL]

theorem toL_rightUp (k : α) (v : β) (l r : T α β) : (rightUp k v l r).toL = l.toL ++ (k, v) :: r.toL := by
  unfold rightUp
  split
  · split
    · split <;> simp [toL]
    · simp [toL]
  · simp [toL]

theorem toL_joined (k : α) (v : β) (l r : T α β) : (joined k v l r).toL = l.toL ++ (k, v) :: r.toL := by
  unfold joined
  split
  · exact toL_leftUp k v l r
  · split
    · exact toL_rightUp k v l r
    · rfl

theorem sz_joined (k : α) (v : β) (l r : T α β) : (joined k v l r).sz = l.sz + r.sz + 1 := by
  rw [← sz_toL, toL_joined]
  have h1 := sz_toL l
  have h2 := sz_toL r
  simp only [List.length_append, List.length_cons]; omega

def put (c : α → α → Int) (k : α) (v : β) : T α β → T α β
  | nil => node k v nil nil
  | node xk xv l r =>
    if c k xk < 0 then joined xk xv (put c k v l) r
    else if c k xk > 0 then joined xk xv l (put c k v r)
    else node k v l r

/-- The tree without its first key, and that. -/
def first (k : α) (v : β) : T α β → T α β → T α β × α × β
  | nil, r => (r, k, v)
  | node lk lv ll lr, r => (joined k v (first lk lv ll lr).1 r, (first lk lv ll lr).2)

def both : T α β → T α β → T α β
  | nil, r => r
  | node lk lv ll lr, nil => node lk lv ll lr
  | node lk lv ll lr, node rk rv rl rr =>
    joined (first rk rv rl rr).2.1 (first rk rv rl rr).2.2 (node lk lv ll lr) (first rk rv rl rr).1

def drop (c : α → α → Int) (k : α) : T α β → T α β
  | nil => nil
  | node xk xv l r =>
    if c k xk < 0 then joined xk xv (drop c k l) r
    else if c k xk > 0 then joined xk xv l (drop c k r)
    else both l r

theorem toL_first : ∀ (l : T α β) (k : α) (v : β) (r : T α β), (first k v l r).2 :: (first k v l r).1.toL = l.toL ++ (k, v) :: r.toL
  | nil, k, v, r => rfl
  | node lk lv ll lr, k, v, r => by
    have h := toL_first ll lk lv lr
    simp only [first, toL_joined, toL]
    rw [← h]; simp

theorem toL_both (l r : T α β) : (both l r).toL = l.toL ++ r.toL := by
  unfold both
  split
  · simp [toL]
  · simp [toL]
  · rename_i lk lv ll lr rk rv rl rr
    have h := toL_first rl rk rv rr
    simp only [toL_joined]
    rw [show ((first rk rv rl rr).2.1, (first rk rv rl rr).2.2) = (first rk rv rl rr).2 from rfl, h]; rfl

end T

/-- What a comparison must do. -/
structure Lawful (c : α → α → Int) : Prop where
  eq : ∀ a b, c a b = 0 ↔ a = b
  swap : ∀ a b, c a b < 0 ↔ 0 < c b a
  trans : ∀ a b d, c a b < 0 → c b d < 0 → c a d < 0

/-- Rising keys. -/
def Up (c : α → α → Int) (l : List (α × β)) : Prop := l.Pairwise fun x y => c x.1 y.1 < 0

/-- A key's thing put into a rising list. -/
def ins (c : α → α → Int) (k : α) (v : β) : List (α × β) → List (α × β)
  | [] => [(k, v)]
  | x :: l => if c k x.1 < 0 then (k, v) :: x :: l else if c k x.1 > 0 then x :: ins c k v l else (k, v) :: l

/-- A key taken out. -/
def del (c : α → α → Int) (k : α) : List (α × β) → List (α × β)
  | [] => []
  | x :: l => if c k x.1 = 0 then l else x :: del c k l

/-- A key's thing. -/
def look (c : α → α → Int) (k : α) : List (α × β) → Option β
  | [] => none
  | x :: l => if c k x.1 = 0 then some x.2 else look c k l

/-- How many keys are ahead. -/
def ahead (c : α → α → Int) (k : α) : List (α × β) → Nat
  | [] => 0
  | x :: l => (if c k x.1 > 0 then 1 else 0) + ahead c k l

variable {c : α → α → Int}

theorem ins_app (hc : Lawful c) (k : α) (v : β) : ∀ (a b : List (α × β)) (x : α × β), (∀ y ∈ a, c y.1 x.1 < 0) →
    ins c k v (a ++ x :: b) = if c k x.1 < 0 then ins c k v a ++ x :: b else if c k x.1 > 0 then a ++ x :: ins c k v b else a ++ (k, v) :: b
  | [], b, x, _ => by
    simp only [List.nil_append, ins]
    split
    · simp
    · rfl
  | y :: a, b, x, h => by
    have hy : c y.1 x.1 < 0 := h y (by simp)
    have ih := ins_app hc k v a b x (fun z hz => h z (by simp [hz]))
    simp only [List.cons_append, ins]
    by_cases h1 : c k y.1 < 0
    · have h2 : c k x.1 < 0 := hc.trans _ _ _ h1 hy
      simp [h1, h2]
    · by_cases h3 : c k y.1 > 0
      · simp only [h1, if_false, h3, if_true, ih]
        split
        · rfl
        · split <;> rfl
      · have h4 : c k y.1 = 0 := by omega
        have h5 : k = y.1 := (hc.eq _ _).1 h4
        have h2 : c k x.1 < 0 := by rw [h5]; exact hy
        simp [h4, h2]

theorem toL_put (hc : Lawful c) (k : α) (v : β) : ∀ t : T α β, Up c t.toL → (T.put c k v t).toL = ins c k v t.toL
  | .nil, _ => rfl
  | .node xk xv l r, h => by
    have hl : Up c l.toL := (List.pairwise_append.1 h).1
    have hr : Up c r.toL := (List.pairwise_cons.1 (List.pairwise_append.1 h).2.1).2
    have hx : ∀ y ∈ l.toL, c y.1 xk < 0 := fun y hy => (List.pairwise_append.1 h).2.2 y hy (xk, xv) (by simp)
    simp only [T.put, T.toL]
    rw [ins_app hc k v _ _ _ hx]
    split
    · rw [T.toL_joined, toL_put hc k v l hl]
    · split
      · rw [T.toL_joined, toL_put hc k v r hr]
      · rfl

theorem del_app_lt (hc : Lawful c) (k : α) : ∀ (a b : List (α × β)), (∀ y ∈ b, c k y.1 < 0) → del c k (a ++ b) = del c k a ++ b
  | [], b, h => by
    simp only [List.nil_append, del]
    induction b with
    | nil => rfl
    | cons y b ih =>
      have : c k y.1 < 0 := h y (by simp)
      simp only [del]
      rw [if_neg (by omega), ih (fun z hz => h z (by simp [hz]))]
  | x :: a, b, h => by
    simp only [List.cons_append, del]
    split
    · rfl
    · rw [del_app_lt hc k a b h]; rfl

theorem del_app_gt (k : α) : ∀ (a b : List (α × β)), (∀ y ∈ a, 0 < c k y.1) → del c k (a ++ b) = a ++ del c k b
  | [], _, _ => rfl
  | x :: a, b, h => by
    have : 0 < c k x.1 := h x (by simp)
    simp only [List.cons_append, del]
    rw [if_neg (by omega), del_app_gt k a b (fun z hz => h z (by simp [hz]))]

theorem toL_drop (hc : Lawful c) (k : α) : ∀ t : T α β, Up c t.toL → (T.drop c k t).toL = del c k t.toL
  | .nil, _ => rfl
  | .node xk xv l r, h => by
    have h' : (l.toL ++ (xk, xv) :: r.toL).Pairwise fun x y => c x.1 y.1 < 0 := h
    obtain ⟨hl, hxr, hlx⟩ := List.pairwise_append.1 h'
    obtain ⟨hx, hr⟩ := List.pairwise_cons.1 hxr
    simp only [T.drop, T.toL]
    by_cases h1 : c k xk < 0
    · rw [if_pos h1, T.toL_joined, toL_drop hc k l hl, del_app_lt hc k]
      intro y hy
      rcases List.mem_cons.1 hy with rfl | hy
      · exact h1
      · exact hc.trans _ _ _ h1 (hx y hy)
    · by_cases h2 : c k xk > 0
      · rw [if_neg h1, if_pos h2, T.toL_joined, toL_drop hc k r hr, del_app_gt k l.toL]
        · simp only [del]; rw [if_neg (by omega)]
        · intro y hy
          have h3 : c xk k < 0 := (hc.swap _ _).2 h2
          exact (hc.swap _ _).1 (hc.trans _ _ _ (hlx y hy (xk, xv) (by simp)) h3)
      · have h4 : c k xk = 0 := by omega
        have h5 : k = xk := (hc.eq _ _).1 h4
        rw [if_neg h1, if_neg h2, T.toL_both, del_app_gt k l.toL]
        · simp [del, h4]
        · intro y hy
          have := hlx y hy (xk, xv) (by simp)
          rw [h5]; exact (hc.swap _ _).1 this

/-- What is found at a key, and how many keys are ahead of it. -/
def T.find (c : α → α → Int) (k : α) : T α β → Option (T α β) × Int
  | nil => (none, 0)
  | node xk xv l r =>
    if c k xk = 0 then (some (node xk xv l r), l.sz)
    else if c k xk < 0 then find c k l
    else ((find c k r).1, l.sz + 1 + (find c k r).2)

def T.get (c : α → α → Int) (k : α) : T α β → Option β
  | nil => none
  | node xk xv l r => if c k xk = 0 then some xv else if c k xk < 0 then get c k l else get c k r

theorem look_app_lt (k : α) : ∀ (a b : List (α × β)), (∀ y ∈ b, c k y.1 < 0) → look c k (a ++ b) = look c k a
  | [], b, h => by
    simp only [List.nil_append, look]
    induction b with
    | nil => rfl
    | cons y b ih =>
      have : c k y.1 < 0 := h y (by simp)
      simp only [look]
      rw [if_neg (by omega), ih (fun z hz => h z (by simp [hz]))]
  | x :: a, b, h => by
    simp only [List.cons_append, look]
    split
    · rfl
    · exact look_app_lt k a b h

theorem look_app_gt (k : α) : ∀ (a b : List (α × β)), (∀ y ∈ a, 0 < c k y.1) → look c k (a ++ b) = look c k b
  | [], _, _ => rfl
  | x :: a, b, h => by
    have : 0 < c k x.1 := h x (by simp)
    simp only [List.cons_append, look]
    rw [if_neg (by omega), look_app_gt k a b (fun z hz => h z (by simp [hz]))]

theorem get_toL (hc : Lawful c) (k : α) : ∀ t : T α β, Up c t.toL → T.get c k t = look c k t.toL
  | .nil, _ => rfl
  | .node xk xv l r, h => by
    have h' : (l.toL ++ (xk, xv) :: r.toL).Pairwise fun x y => c x.1 y.1 < 0 := h
    obtain ⟨hl, hxr, hlx⟩ := List.pairwise_append.1 h'
    obtain ⟨hx, hr⟩ := List.pairwise_cons.1 hxr
    simp only [T.get, T.toL]
    by_cases h1 : c k xk = 0
    · have h5 : k = xk := (hc.eq _ _).1 h1
      rw [if_pos h1, look_app_gt k l.toL]
      · simp [look, h1]
      · intro y hy
        have := hlx y hy (xk, xv) (by simp)
        rw [h5]; exact (hc.swap _ _).1 this
    · by_cases h2 : c k xk < 0
      · rw [if_neg h1, if_pos h2, get_toL hc k l hl, look_app_lt k]
        intro y hy
        rcases List.mem_cons.1 hy with rfl | hy
        · exact h2
        · exact hc.trans _ _ _ h2 (hx y hy)
      · rw [if_neg h1, if_neg h2, get_toL hc k r hr, look_app_gt k l.toL]
        · simp only [look]; rw [if_neg h1]
        · intro y hy
          have h3 : c xk k < 0 := (hc.swap _ _).2 (by omega)
          exact (hc.swap _ _).1 (hc.trans _ _ _ (hlx y hy (xk, xv) (by simp)) h3)

/-- The i-th key and its thing. -/
def T.at (i : Int) : T α β → Option (α × β)
  | nil => none
  | node xk xv l r => if i < l.sz then T.at i l else if l.sz < i then T.at (i - l.sz - 1) r else some (xk, xv)

theorem at_toL : ∀ (t : T α β) (i : Int), 0 ≤ i → T.at i t = t.toL[i.toNat]?
  | .nil, i, _ => by simp [T.at, T.toL]
  | .node xk xv l r, i, hi => by
    have hz := T.sz_toL l
    simp only [T.at, T.toL]
    rw [List.getElem?_append]
    by_cases h1 : i < l.sz
    · have h3 : i.toNat < l.toL.length := by omega
      rw [if_pos h1, if_pos h3, at_toL l i hi]
    · have h3 : ¬ i.toNat < l.toL.length := by omega
      rw [if_neg h1, if_neg h3]
      by_cases h2 : l.sz < i
      · rw [if_pos h2, at_toL r _ (by omega), show i.toNat - l.toL.length = (i - l.sz - 1).toNat + 1 from by omega, List.getElem?_cons_succ]
      · rw [if_neg h2, show i.toNat - l.toL.length = 0 from by omega]; rfl

theorem mem_ins (hc : Lawful c) (k : α) (v : β) : ∀ (l : List (α × β)) (y : α × β), y ∈ ins c k v l → y = (k, v) ∨ y ∈ l
  | [], y, h => by simp [ins] at h; exact .inl h
  | x :: l, y, h => by
    simp only [ins] at h
    split at h
    · simp at h ⊢; rcases h with h | h | h <;> simp [h]
    · split at h
      · rcases List.mem_cons.1 h with rfl | h
        · simp
        · rcases mem_ins hc k v l y h with h | h <;> simp [h]
      · simp at h ⊢; rcases h with h | h <;> simp [h]

theorem up_ins (hc : Lawful c) (k : α) (v : β) : ∀ (l : List (α × β)), Up c l → Up c (ins c k v l)
  | [], _ => by simp [ins, Up]
  | x :: l, h => by
    obtain ⟨hx, hl⟩ := List.pairwise_cons.1 h
    simp only [ins]
    split
    · rename_i h1
      refine List.pairwise_cons.2 ⟨fun y hy => ?_, h⟩
      rcases List.mem_cons.1 hy with rfl | hy
      · exact h1
      · exact hc.trans _ _ _ h1 (hx y hy)
    · split
      · rename_i h1 h2
        refine List.pairwise_cons.2 ⟨fun y hy => ?_, up_ins hc k v l hl⟩
        rcases mem_ins hc k v l y hy with rfl | hy
        · exact (hc.swap _ _).2 h2
        · exact hx y hy
      · rename_i h1 h2
        have h5 : k = x.1 := (hc.eq _ _).1 (by omega)
        exact List.pairwise_cons.2 ⟨fun y hy => by rw [h5]; exact hx y hy, hl⟩

theorem mem_del (k : α) : ∀ (l : List (α × β)) (y : α × β), y ∈ del c k l → y ∈ l
  | [], _, h => by simp [del] at h
  | x :: l, y, h => by
    simp only [del] at h
    split at h
    · exact List.mem_cons_of_mem _ h
    · rcases List.mem_cons.1 h with rfl | h
      · simp
      · exact List.mem_cons_of_mem _ (mem_del k l y h)

theorem up_del (k : α) : ∀ (l : List (α × β)), Up c l → Up c (del c k l)
  | [], _ => by simp [del, Up]
  | x :: l, h => by
    obtain ⟨hx, hl⟩ := List.pairwise_cons.1 h
    simp only [del]
    split
    · exact hl
    · exact List.pairwise_cons.2 ⟨fun y hy => hx y (mem_del k l y hy), up_del k l hl⟩

/-- Whole numbers compared as cmp.Compare does. -/
def cint (a b : Int) : Int := if a < b then -1 else if b < a then 1 else 0

theorem cint_lawful : Lawful cint where
  eq a b := by unfold cint; split <;> (try split) <;> omega
  swap a b := by unfold cint; split <;> (try split) <;> (try split) <;> omega
  trans a b d := by unfold cint; split <;> (try split) <;> (try split) <;> (try split) <;> omega

theorem T.sz_leftUp (k : α) (v : β) (l r : T α β) : (T.leftUp k v l r).sz = l.sz + r.sz + 1 := by
  rw [← T.sz_toL, T.toL_leftUp]
  have h1 := T.sz_toL l
  have h2 := T.sz_toL r
  simp only [List.length_append, List.length_cons]; omega

theorem T.sz_put_le (c : α → α → Int) (k : α) (v : β) : ∀ t : T α β, (T.put c k v t).sz ≤ t.sz + 1
  | .nil => by simp [T.put, T.sz]
  | .node xk xv l r => by
    have h1 := sz_put_le c k v l
    have h2 := sz_put_le c k v r
    simp only [T.put]
    split
    · rw [T.sz_joined]; simp only [T.sz]; omega
    · split
      · rw [T.sz_joined]; simp only [T.sz]; omega
      · simp only [T.sz]; omega

theorem T.sz_first : ∀ (l : T α β) (k : α) (v : β) (r : T α β), (T.first k v l r).1.sz = l.sz + r.sz
  | .nil, _, _, _ => by simp [T.first, T.sz]
  | .node lk lv ll lr, k, v, r => by
    have := sz_first ll lk lv lr
    simp only [T.first]
    rw [T.sz_joined, this]; simp only [T.sz]; omega

theorem T.sz_both (l r : T α β) : (T.both l r).sz = l.sz + r.sz := by
  rw [← T.sz_toL, T.toL_both]
  have h1 := T.sz_toL l
  have h2 := T.sz_toL r
  simp only [List.length_append]; omega

theorem T.sz_drop_le (c : α → α → Int) (k : α) : ∀ t : T α β, (T.drop c k t).sz ≤ t.sz
  | .nil => by simp [T.drop]
  | .node xk xv l r => by
    have h1 := sz_drop_le c k l
    have h2 := sz_drop_le c k r
    simp only [T.drop]
    split
    · rw [T.sz_joined]; simp only [T.sz]; omega
    · split
      · rw [T.sz_joined]; simp only [T.sz]; omega
      · rw [T.sz_both]; simp only [T.sz]; omega

theorem look_ins_self (hc : Lawful c) (k : α) (v : β) : ∀ l : List (α × β), look c k (ins c k v l) = some v
  | [] => by simp [ins, look, (hc.eq k k).2 rfl]
  | x :: l => by
    have h0 : c k k = 0 := (hc.eq k k).2 rfl
    simp only [ins]
    split
    · simp [look, h0]
    · split
      · rename_i h1 h2
        simp only [look]
        rw [if_neg (by omega), look_ins_self hc k v l]
      · simp [look, h0]

theorem length_ins (k : α) (v : β) : ∀ l : List (α × β), look c k l = none → (ins c k v l).length = l.length + 1
  | [], _ => rfl
  | x :: l, h => by
    simp only [look] at h
    split at h
    · cases h
    · rename_i h0
      simp only [ins]
      split
      · rfl
      · split
        · simp [length_ins k v l h]
        · omega

theorem look_mem (k : α) (v : β) : ∀ l : List (α × β), look c k l = some v → ∃ k', (k', v) ∈ l
  | [], h => by cases h
  | x :: l, h => by
    simp only [look] at h
    split at h
    · cases h; exact ⟨x.1, by simp⟩
    · obtain ⟨k', hk⟩ := look_mem k v l h
      exact ⟨k', by simp [hk]⟩

end Rk
end

section
namespace Rk
variable {α β : Type} {c : α → α → Int}

theorem look_ins_ne (hc : Lawful c) (k k' : α) (v : β) (h : c k' k ≠ 0) : ∀ l : List (α × β), look c k' (ins c k v l) = look c k' l
  | [] => by simp [ins, look, h]
  | x :: l => by
    simp only [ins]
    split
    · simp [look, h]
    · split
      · simp only [look, look_ins_ne hc k k' v h l]
      · rename_i h1 h2
        have h5 : k = x.1 := (hc.eq _ _).1 (by omega)
        have h6 : c k' x.1 ≠ 0 := by rw [← h5]; exact h
        simp [look, h, h6]

theorem look_del_ne (hc : Lawful c) (k k' : α) (h : c k' k ≠ 0) : ∀ l : List (α × β), look c k' (del c k l) = look c k' l
  | [] => rfl
  | x :: l => by
    simp only [del]
    split
    · rename_i h1
      have h5 : k = x.1 := (hc.eq _ _).1 h1
      have h6 : c k' x.1 ≠ 0 := by rw [← h5]; exact h
      simp [look, h6]
    · simp only [look, look_del_ne hc k k' h l]

theorem look_none_of (k : α) : ∀ l : List (α × β), (∀ y ∈ l, c k y.1 ≠ 0) → look c k l = none
  | [], _ => rfl
  | x :: l, h => by simp [look, h x (by simp), look_none_of k l (fun y hy => h y (by simp [hy]))]

theorem look_del_self (hc : Lawful c) (k : α) : ∀ l : List (α × β), Up c l → look c k (del c k l) = none
  | [], _ => rfl
  | x :: l, h => by
    obtain ⟨hx, hl⟩ := List.pairwise_cons.1 h
    simp only [del]
    split
    · rename_i h1
      have h5 : k = x.1 := (hc.eq _ _).1 h1
      exact look_none_of k l (fun y hy => by have := hx y hy; rw [← h5] at this; omega)
    · rename_i h1
      simp only [look]
      rw [if_neg h1, look_del_self hc k l hl]
end Rk

namespace Lossy
open Rk

/-- A call. -/
structure C where
  (cl id kd ky vl co tt be wh en tk : Int)
  ok : Bool
  rv : Int

def mx : Int := 1099511627776
def right (n : Int) : Bool := decide (0 ≤ n) && decide (n ≤ 4611686018427387904)
def over (e now : Int) : Bool := decide (0 < e) && decide (e ≤ now)
def cut (n : Int) : Int := max 0 (min n mx)
def behind (now n : Int) : Int := if mx - now ≤ n then mx else now + max n 0
def endOf (now ttl : Int) : Int := if ttl = 0 then 0 else if ttl < 0 then 0 else behind (cut now) ttl

abbrev Th := T Int (Int × Int)

def mget (t : Th) (key now : Int) : Option Int :=
  match T.get cint key t with
  | some v => if over v.2 now = true then none else some v.1
  | none => none

def mhit (t : Th) (c : C) : Bool :=
  match mget t c.ky c.tk with
  | some v => v == c.rv
  | none => false

def must (cl : Bool) (c : C) : Bool × Bool :=
  if cl = true then (c.kd == 6, true)
  else if c.kd = 2 then (false, !right c.co || decide (c.tt < 0))
  else if c.kd = 7 then (right c.co, true)
  else if c.kd = 1 then (false, false)
  else (decide (0 < c.kd) && decide (c.kd < 7), true)

def may (t : Th) (cl : Bool) (c : C) : Bool :=
  if (must cl c).2 = true ∧ (c.ok != (must cl c).1) = true then false
  else if c.kd ≠ 1 ∨ c.ok = false then c.rv == 0
  else mhit t c

def after (s : Th × Bool) (c : C) : Th × Bool :=
  if c.ok = false then s
  else if c.kd = 2 then (T.put cint c.ky (c.vl, endOf c.tk c.tt) s.1, s.2)
  else if c.kd = 3 then (T.drop cint c.ky s.1, s.2)
  else if c.kd = 6 then (.nil, true)
  else if c.kd = 5 then (.nil, s.2)
  else s

/-- The map behind the first calls. -/
def st (F : Nat → C) : Nat → Th × Bool
  | 0 => (.nil, false)
  | n + 1 => after (st F n) (F n)

/-- Which call wrote a key last, as the law counts. -/
def wipes (d : C) (key : Int) : Bool := d.ok && (d.kd == 5 || d.kd == 6 || (d.kd == 3 && d.ky == key))
def sets (d : C) (key : Int) : Bool := d.ok && d.kd == 2 && d.ky == key
def wrote (F : Nat → C) (key : Int) : Nat → Int
  | 0 => -1
  | k + 1 => if sets (F k) key = true then (k : Int) else if wipes (F k) key = true then -1 else wrote F key k

theorem wrote_lt (F : Nat → C) (key : Int) : ∀ k, -1 ≤ wrote F key k ∧ wrote F key k < k
  | 0 => by simp [wrote]
  | k + 1 => by
    have := wrote_lt F key k
    simp only [wrote]
    split
    · omega
    · split <;> omega

theorem st_up (F : Nat → C) : ∀ k, Up cint (st F k).1.toL
  | 0 => List.Pairwise.nil
  | k + 1 => by
    have ih := st_up F k
    simp only [st, after]
    split
    · exact ih
    · split
      · simp only; rw [toL_put cint_lawful _ _ _ ih]; exact up_ins cint_lawful _ _ _ ih
      · split
        · simp only; rw [toL_drop cint_lawful _ _ ih]; exact up_del _ _ ih
        · split
          · exact List.Pairwise.nil
          · split
            · exact List.Pairwise.nil
            · exact ih

theorem st_sz (F : Nat → C) : ∀ k, (st F k).1.sz ≤ k
  | 0 => by simp [st, T.sz]
  | k + 1 => by
    have ih := st_sz F k
    simp only [st, after]
    split
    · omega
    · split
      · have := T.sz_put_le cint (F k).ky ((F k).vl, endOf (F k).tk (F k).tt) (st F k).1; simp only; omega
      · split
        · have := T.sz_drop_le cint (F k).ky (st F k).1; simp only; omega
        · split
          · simp only [T.sz]; omega
          · split
            · simp only [T.sz]; omega
            · omega

def last (F : Nat → C) (w : Int) : Option (Int × Int) := if w < 0 then none else some ((F w.toNat).vl, endOf (F w.toNat).tk (F w.toNat).tt)

theorem cint_ne {a b : Int} (h : a ≠ b) : cint a b ≠ 0 := fun e => h ((cint_lawful.eq a b).1 e)

theorem st_look (F : Nat → C) (key : Int) : ∀ k, Rk.look cint key (st F k).1.toL = last F (wrote F key k)
  | 0 => rfl
  | k + 1 => by
    have ih := st_look F key k
    have hu := st_up F k
    simp only [st, after, wrote]
    by_cases hok : (F k).ok = false
    · have e1 : sets (F k) key = false := by simp [sets, hok]
      have e2 : wipes (F k) key = false := by simp [wipes, hok]
      rw [if_pos hok]; simpa [e1, e2] using ih
    · have hok' : (F k).ok = true := by simpa using hok
      rw [if_neg hok]
      by_cases h2 : (F k).kd = 2
      · rw [if_pos h2]
        simp only [toL_put cint_lawful _ _ _ hu]
        by_cases hk : (F k).ky = key
        · have e1 : sets (F k) key = true := by simp [sets, hok', h2, hk]
          rw [hk, look_ins_self cint_lawful]
          simp only [e1, if_true]
          unfold last
          rw [if_neg (by omega)]; simp
        · have e1 : sets (F k) key = false := by simp [sets, hk]
          have e2 : wipes (F k) key = false := by simp [wipes, h2]
          rw [look_ins_ne cint_lawful _ _ _ (cint_ne (Ne.symm hk)), ih]
          simp [e1, e2]
      · have e1 : sets (F k) key = false := by simp [sets, h2]
        rw [if_neg h2]
        by_cases h3 : (F k).kd = 3
        · rw [if_pos h3]
          simp only [toL_drop cint_lawful _ _ hu]
          by_cases hk : (F k).ky = key
          · have e2 : wipes (F k) key = true := by simp [wipes, hok', h3, hk]
            rw [hk, look_del_self cint_lawful _ _ hu]
            simp [e1, e2, last]
          · have e2 : wipes (F k) key = false := by simp [wipes, h3, hk]
            rw [look_del_ne cint_lawful _ _ (cint_ne (Ne.symm hk)), ih]
            simp [e1, e2]
        · rw [if_neg h3]
          by_cases h6 : (F k).kd = 6
          · have e2 : wipes (F k) key = true := by simp [wipes, hok', h6]
            rw [if_pos h6]; simp [e1, e2, last, T.toL, Rk.look]
          · rw [if_neg h6]
            by_cases h5 : (F k).kd = 5
            · have e2 : wipes (F k) key = true := by simp [wipes, hok', h5]
              rw [if_pos h5]; simp [e1, e2, last, T.toL, Rk.look]
            · have e2 : wipes (F k) key = false := by simp [wipes, h3, h5, h6]
              rw [if_neg h5, ih]; simp [e1, e2]

/-- A get that was told a number. -/
theorem hit (F : Nat → C) (i : Nat) (hm : may (st F i).1 (st F i).2 (F i) = true) (hg : (F i).kd = 1) (ho : (F i).ok = true) :
    0 ≤ wrote F (F i).ky i ∧ (F (wrote F (F i).ky i).toNat).vl = (F i).rv ∧
    ¬ (0 < (F (wrote F (F i).ky i).toNat).tt ∧ 0 ≤ (F (wrote F (F i).ky i).toNat).tk ∧ (F (wrote F (F i).ky i).toNat).tk ≤ (F i).tk ∧ (F (wrote F (F i).ky i).toNat).tt ≤ (F i).tk - (F (wrote F (F i).ky i).toNat).tk) := by
  have hl := st_look F (F i).ky i
  have hu := st_up F i
  unfold may at hm
  split at hm
  · cases hm
  · rw [if_neg (by simp [hg, ho])] at hm
    unfold mhit mget at hm
    rw [get_toL cint_lawful _ _ hu, hl] at hm
    unfold last at hm
    by_cases hw : wrote F (F i).ky i < 0
    · rw [if_pos hw] at hm; simp at hm
    · rw [if_neg hw] at hm
      simp only at hm
      split at hm
      · rename_i hv
        split at hv
        · cases hv
        · rename_i ho
          cases hv
          refine ⟨by omega, by simpa using hm, ?_⟩
          intro ⟨a1, a2, a3, a4⟩
          apply ho
          unfold over endOf behind cut mx
          rw [if_neg (by omega), if_neg (by omega)]
          simp only [Bool.and_eq_true, decide_eq_true_eq]
          split <;> constructor <;> omega
      · cases hm
end Lossy
end

section
namespace Go.Proofs.Ytdfbfcglacalmaa.Hs
open Rk Lossy

/-- A call as the lossy map sees it. -/
def toLo (x : C) : Lossy.C := ⟨x.cl, x.id, x.k, x.a, x.b, x.c, x.d, x.bgn, x.at_, x.en, x.tick, x.ok, x.val⟩
abbrev St := Lossy.Th × Bool
def s0 : St := (.nil, false)
def mayS (s : St) (x : C) : Bool := Lossy.may s.1 s.2 (toLo x)
def afterS (s : St) (x : C) : St := Lossy.after s (toLo x)
/-- Calls that a map does, one behind the other. -/
def good : St → List C → Bool
  | _, [] => true
  | s, x :: r => mayS s x && good (afterS s x) r
def runS : St → List C → St
  | s, [] => s
  | s, x :: r => runS (afterS s x) r
theorem good_app (s : St) (A B : List C) : good s (A ++ B) = (good s A && good (runS s A) B) := by
  induction A generalizing s with
  | nil => simp [good, runS]
  | cons x A ih => simp only [List.cons_append, good, runS, ih, Bool.and_assoc]
/-- The call at a place. -/
def cat (T : List C) (i : Nat) : C := T.getD i default
/-- An order of all places in which a map does the calls, and none that had ended stands behind one that began later. -/
structure IsLine (T : List C) (o : List Nat) : Prop where
  len : o.length = T.length
  nd : o.Nodup
  lt : ∀ i ∈ o, i < T.length
  sw : swaps (o.map (cat T)) = 0
  good : good s0 (o.map (cat T)) = true
/-- May a place come next? -/
def mayP (T : List C) (o : List Nat) (i : Nat) : Prop := i ∉ o ∧ ∀ k, k < T.length → k ≠ i → k ∉ o → ahead (cat T k) (cat T i) = false
/-- A way on. -/
def path (T : List C) : List Nat → St → List Nat → Prop
  | _, _, [] => True
  | o, s, i :: p => i < T.length ∧ mayP T o i ∧ mayS s (cat T i) = true ∧ path T (o ++ [i]) (afterS s (cat T i)) p
/-- A whole way on. -/
def Whole' (T : List C) (o : List Nat) (s : St) (p : List Nat) : Prop := path T o s p ∧ o.length + p.length = T.length
theorem nodup_full {n : Nat} {l : List Nat} (h : l.Nodup) (hl : l.length = n) (hlt : ∀ i ∈ l, i < n) : ∀ k, k < n → k ∈ l := by
  intro k hk
  by_cases hm : k ∈ l
  · exact hm
  · exfalso
    have h1 : (k :: l).Nodup := List.nodup_cons.2 ⟨hm, h⟩
    have h2 := List.Nodup.length_le_of_subset h1 (l₂ := List.range n) (fun i hi => by
      rcases List.mem_cons.1 hi with rfl | hi
      · exact List.mem_range.2 hk
      · exact List.mem_range.2 (hlt i hi))
    rw [List.length_cons, List.length_range] at h2
    omega
theorem swaps_cons_zero {x : C} {R : List C} : swaps (x :: R) = 0 ↔ (∀ y ∈ R, ahead y x = false) ∧ swaps R = 0 := by
  simp only [swaps]
  constructor
  · intro h
    have h1 : R.countP (fun y => ahead y x) = 0 := by omega
    rw [List.countP_eq_zero] at h1
    exact ⟨fun y hy => by have := h1 y hy; simpa using this, by omega⟩
  · rintro ⟨h1, h2⟩
    have h3 : R.countP (fun y => ahead y x) = 0 := List.countP_eq_zero.2 (fun y hy => by rw [h1 y hy]; decide)
    omega
theorem path_of (T : List C) : ∀ (p o : List Nat) (s : St), (o ++ p).Nodup → (o ++ p).length = T.length → (∀ i ∈ o ++ p, i < T.length) → swaps (p.map (cat T)) = 0 → good s (p.map (cat T)) = true → path T o s p
  | [], _, _, _, _, _, _, _ => trivial
  | i :: p, o, s, hn, hl, hlt, hs, hg => by
    rw [List.map_cons] at hs hg
    obtain ⟨h1, h2⟩ := swaps_cons_zero.1 hs
    simp only [good, Bool.and_eq_true] at hg
    have e : o ++ i :: p = o ++ [i] ++ p := by simp
    refine ⟨hlt i (by simp), ⟨fun hi => ?_, fun k hk hki hko => ?_⟩, hg.1, path_of T p (o ++ [i]) _ (by rw [← e]; exact hn) (by rw [← e]; exact hl) (by rw [← e]; exact hlt) h2 hg.2⟩
    · exact (List.nodup_append.1 hn).2.2 i hi i (by simp) rfl
    · have hm := nodup_full hn hl hlt k hk
      rcases List.mem_append.1 hm with hm | hm
      · exact absurd hm hko
      · rcases List.mem_cons.1 hm with hm | hm
        · exact absurd hm hki
        · exact h1 _ (List.mem_map.2 ⟨k, hm, rfl⟩)
theorem of_path (T : List C) : ∀ (p o : List Nat) (s : St), o.Nodup → (∀ i ∈ o, i < T.length) → path T o s p → (o ++ p).Nodup ∧ (∀ i ∈ o ++ p, i < T.length) ∧ swaps (p.map (cat T)) = 0 ∧ good s (p.map (cat T)) = true
  | [], o, s, hn, hlt, _ => by simpa [swaps, good] using ⟨hn, hlt⟩
  | i :: p, o, s, hn, hlt, ⟨hi, ⟨hio, hah⟩, hm, hp⟩ => by
    have hn' : (o ++ [i]).Nodup := by
      rw [List.nodup_append]
      exact ⟨hn, by simp, fun a ha b hb => by simp at hb; subst hb; exact fun e => hio (e ▸ ha)⟩
    obtain ⟨h1, h2, h3, h4⟩ := of_path T p (o ++ [i]) _ hn' (fun k hk => by
      rcases List.mem_append.1 hk with hk | hk
      · exact hlt k hk
      · simp at hk; subst hk; exact hi) hp
    have e : o ++ [i] ++ p = o ++ i :: p := by simp
    rw [e] at h1 h2
    refine ⟨h1, h2, ?_, ?_⟩
    · rw [List.map_cons, swaps_cons_zero]
      refine ⟨fun y hy => ?_, h3⟩
      obtain ⟨k, hk, rfl⟩ := List.mem_map.1 hy
      refine hah k (h2 k (by simp [hk])) (fun e => ?_) (fun hko => ?_)
      · subst e
        exact (List.nodup_cons.1 (List.nodup_append.1 h1).2.1).1 hk
      · exact (List.nodup_append.1 h1).2.2 k hko k (by simp [hk]) rfl
    · rw [List.map_cons, good, hm, h4]; rfl
theorem line_iff (T : List C) (p : List Nat) : IsLine T p ↔ Whole' T [] s0 p := by
  constructor
  · intro h
    exact ⟨path_of T p [] s0 (by simpa using h.nd) (by simpa using h.len) (by simpa using h.lt) h.sw h.good, by simpa using h.len⟩
  · rintro ⟨h, hl⟩
    obtain ⟨h1, h2, h3, h4⟩ := of_path T p [] s0 List.nodup_nil (fun i hi => by cases hi) h
    exact ⟨by simpa using hl, by simpa using h1, by simpa using h2, h3, h4⟩
/-- What is left of a search: it goes on with one of the places. -/
theorem whole_step (T : List C) (o : List Nat) (s : St) (h : o.length < T.length) : (∃ p, Whole' T o s p) ↔ ∃ i, i < T.length ∧ mayP T o i ∧ mayS s (cat T i) = true ∧ ∃ p, Whole' T (o ++ [i]) (afterS s (cat T i)) p := by
  constructor
  · rintro ⟨p, hp, hl⟩
    cases p with
    | nil => simp at hl; omega
    | cons i p =>
      obtain ⟨h1, h2, h3, h4⟩ := hp
      exact ⟨i, h1, h2, h3, p, h4, by simp at hl ⊢; omega⟩
  · rintro ⟨i, h1, h2, h3, p, h4, hl⟩
    exact ⟨i :: p, ⟨h1, h2, h3, h4⟩, by simp at hl ⊢; omega⟩
end Go.Proofs.Ytdfbfcglacalmaa.Hs
end

section
namespace Go.Proofs.Ytdfbfcglacalmaa.Hs
open Go.RowKit Go.Seg Go.Open Go.Lib Go.Arr Go.Stab Go.Row

section
variable {w : World} {ops : Array Oper} {rest : List Oper} {o : Oper} {a : Act} {Q : Exit → Act → World → Prop}
theorem lit0C (hgd : o.guard = none) (ho : o.op = .buildSlice 22 0 #[])
    (h : ∀ a' cap w', RowG RC enc w' w.heap.size (.slice a' 0 cap) [] → Ext w w' → wpList Try.prog ops Q rest (a.put o.dst (.slice a' 0 cap)) w') : wpList Try.prog ops Q (o :: rest) a w := Row.wpList_lit0 RC w hgd ho h
theorem lit1C (hgd : o.guard = none) (x : Operand) (ho : o.op = .buildSlice 22 1 #[(0, x)]) (y : C) (hu : a.eval x = CV y)
    (h : ∀ a' cap w', RowG RC enc w' w.heap.size (.slice a' 1 cap) [y] → Ext w w' → wpList Try.prog ops Q rest (a.put o.dst (.slice a' 1 cap)) w') : wpList Try.prog ops Q (o :: rest) a w :=
  Row.wpList_lit1 RC w hgd x ho _ hu rfl (by decide) (fun a' cap w' h1 h2 => h a' cap w' (by
    unfold RowG
    rw [show [y].flatMap enc = enc y by simp]
    exact h1) h2)
theorem one_enc (xs : List C) : ∀ u ∈ xs.flatMap enc, u.oneCell' = true := by
  intro u hu
  obtain ⟨x, _, hx⟩ := List.mem_flatMap.1 hu
  exact enc_one x u hx
theorem flat_enc (xs : List C) : (xs.flatMap enc).length = xs.length * 13 := flat_length enc 13 enc_len xs
theorem appC (hgd : o.guard = none) (s x : Operand) (ho : o.op = .call { callee := .builtin .append, args := #[s, x], argTypes := #[22, 22] }) (B : Nat) (v : Value) (rs : List C) (hs : a.eval s = v) (hown : RowG RC enc w B v rs)
    (ao : Option Addr) (m c : Nat) (xs : List C) (hx : a.eval x = .slice ao m c) (hl : xs.length = m) (hnone : ao = none → m = 0 ∧ c = 0)
    (hc : ∀ ad, ao = some ad → ∀ j, j < m * 13 → w.cell? (ad.add j) = (xs.flatMap enc)[j]?) (h63 : rs.length + m ≤ 1000000) (hbase : B ≤ w.heap.size)
    (h : ∀ a' cap w', RowG RC enc w' B (.slice a' (rs ++ xs).length cap) (rs ++ xs) → w.grownBy w' v.ownBlock → wpList Try.prog ops Q rest (a.put o.dst (.slice a' (rs ++ xs).length cap)) w') : wpList Try.prog ops Q (o :: rest) a w := by
  subst hl
  rw [List.length_append] at h
  refine Row.wpList_app RC w hgd s x ho B v rs.length (rs.flatMap enc) hs hown ao xs.length c (xs.flatMap enc) hx (flat_enc xs) hnone hc (one_enc xs) h63 hbase (fun a' cap w' h1 h2 => h a' cap w' ?_ h2)
  unfold RowG
  rw [List.length_append, List.flatMap_append]
  exact h1
theorem appC2 (hgd : o.guard = none) (s x : Operand) (ho : o.op = .call { callee := .builtin .append, args := #[s, x], argTypes := #[22, 22] }) (B : Nat) (v : Value) (rs : List C) (hs : a.eval s = v) (hown : RowG RC enc w B v rs)
    (B' : Nat) (u : Value) (xs : List C) (hx : a.eval x = u) (hu : RowG RC enc w B' u xs) (h63 : rs.length + xs.length ≤ 1000000) (hbase : B ≤ w.heap.size)
    (h : ∀ a' cap w', RowG RC enc w' B (.slice a' (rs ++ xs).length cap) (rs ++ xs) → w.grownBy w' v.ownBlock → wpList Try.prog ops Q rest (a.put o.dst (.slice a' (rs ++ xs).length cap)) w') : wpList Try.prog ops Q (o :: rest) a w := by
  rw [List.length_append] at h
  refine Row.wpList_app2 RC w hgd s x ho B v rs.length (rs.flatMap enc) hs hown B' u xs.length (xs.flatMap enc) hx hu (one_enc xs) h63 hbase (fun a' cap w' h1 h2 => h a' cap w' ?_ h2)
  unfold RowG
  rw [List.length_append, List.flatMap_append]
  exact h1
end
/-- What an append reads of calls that are read. -/
theorem VC.flat {w : World} {a : Option Addr} {n b off : Nat} {T : List C} (h : VC w a n b off T) {W : World} (hW : Ext w W) {j : Nat} (hj : j < n * 13) : W.cell? ((⟨b, off, none⟩ : Addr).add j) = (T.flatMap enc)[j]? := by
  have hadd : (⟨b, off, none⟩ : Addr).add j = ⟨b, off + j, none⟩ := by unfold Addr.add; split <;> simp_all
  rw [hadd]
  obtain ⟨i, r, e, hr⟩ : ∃ i r, j = i * 13 + r ∧ r < 13 := ⟨j / 13, j % 13, by omega, by omega⟩
  subst e
  have hi : i < T.length := by rw [h.len]; omega
  rw [← Nat.add_assoc, h.cells W hW i hi r hr, flat_get enc 13 enc_len T i hi r hr]
/-- A row of one's own is one that is read. -/
theorem row_vc {w : World} {B n cap : Nat} {a : Option Addr} {L : List C} (h : RowG RC enc w B (.slice a n cap) L) : ∃ b, VC w a n b 0 L ∧ n ≤ cap ∧ (∀ ad, a = some ad → ad = ⟨b, 0, none⟩) ∧ (a = none → n = 0 ∧ cap = 0) ∧ L.length = n := by
  have hlen : L.length = n := by
    obtain ⟨a', cap', hu⟩ := RowG.val h
    simp only [Value.slice.injEq] at hu
    exact hu.2.1.symm
  rcases h.2 with ⟨h6, hz⟩ | ⟨g, cap', cur, h6, h7, h8, h9, h10, h11, h12⟩
  · simp only [Value.slice.injEq] at h6
    obtain ⟨rfl, rfl, rfl⟩ := h6
    exact ⟨0, ⟨hlen, fun h => absurd h (by omega), fun W hW i hi => absurd hi (by omega)⟩, Nat.le_refl _, fun ad had => (by cases had), fun _ => ⟨rfl, rfl⟩, hlen⟩
  · simp only [Value.slice.injEq] at h6
    obtain ⟨rfl, h13, rfl⟩ := h6
    rw [hlen] at h9 h12
    refine ⟨g, ⟨hlen, fun _ => rfl, fun W hW i hi j hj => ?_⟩, h9, fun ad had => (Option.some.inj had).symm, fun h => (by cases h), hlen⟩
    have hlt : i * 13 + j < n * 13 := by omega
    have hb : Blk W g cur 41 := Blk.ext (show Blk w g cur 41 from h8) hW
    rw [Nat.zero_add, Blk.cells hb, ← flat_get enc 13 enc_len L i hi j hj, ← h12, List.getElem?_take, if_pos (by show _ < n * 13; exact hlt)]
    simp
end Go.Proofs.Ytdfbfcglacalmaa.Hs
end

section
namespace Go.Proofs.Ytdfbfcglacalmaa.Hs
open Go.RowKit Go.Seg Go.Open Go.Lib Go.Arr Go.Stab Go.Row

theorem swaps_snoc (S : List C) (x : C) : swaps (S ++ [x]) = swaps S + S.countP (fun y => ahead x y) := by
  induction S with
  | nil => rfl
  | cons z S ih =>
    rw [List.cons_append, swaps, swaps, ih, List.countP_append, List.countP_cons (l := S), List.countP_singleton]
    omega
set_option maxRecDepth 100000 in
set_option maxHeartbeats 4000000 in
theorem rSwaps_any (T : List C) (a : Option Addr) (len cap b off : Nat) (w : World) (hV : VC w a len b off T) (hl : len ≤ 60) :
    Calls Try.prog 15 #[.slice a len cap] w fun e w' => e = .returned (.int .i64 (swaps T)) ∧ Ext w w' := by
  have HV := Lib.hid hV
  clear hV
  go_enter Try.func15, Try.ntmps15
  go_wp2_with fail
  go_loopg [3, 4] len (fun g u s wr => ∃ (i m : Nat) (S R : List C), u = .int .i64 m ∧ s = .int .i64 i ∧ i ≤ len ∧ m ≤ 60 * i ∧ Hid (T = S ++ R ∧ S.length = i ∧ m = swaps S ∧ Ext w wr) ∧ len - i ≤ g)
  case atStart => exact ⟨0, 0, [], T, rfl, rfl, Nat.zero_le _, Nat.zero_le _, Lib.hid ⟨rfl, rfl, rfl, Ext.refl _⟩, Nat.le_refl _⟩
  case round =>
    obtain ⟨i, m, S, R, rfl, rfl, hi, hm, HR, hg⟩ := hrel
    by_cases hil : i < len
    · have d0 : decide (i < len) = true := decide_eq_true hil
      obtain rfl := HV.out.ad (by omega)
      obtain ⟨x, R', rfl⟩ : ∃ x R', R = x :: R' := by
        cases R with
        | nil => have h1 := HR.out; have h2 := HV.out.len; rw [h1.1] at h2; simp at h2; omega
        | cons x R' => exact ⟨x, R', rfl⟩
      have HX := Lib.hid (HV.out.at1 S R' x HR.out.1 i HR.out.2.1.symm)
      have bm : m + i ≤ 60 * (i + 1) := by omega
      go_wp2_with fail
      go_loopg [3, 5] i (fun g u s wk => ∃ (k m2 : Nat) (S1 S2 : List C), u = .int .i64 m2 ∧ s = .int .i64 k ∧ k ≤ i ∧ m2 ≤ m + k ∧ Hid (S = S1 ++ S2 ∧ S1.length = k ∧ m2 = m + S1.countP (fun y => ahead x y) ∧ Ext w wk) ∧ i - k ≤ g)
      case atStart => exact ⟨0, m, [], S, rfl, rfl, Nat.zero_le _, by omega, Lib.hid ⟨rfl, rfl, rfl, HR.out.2.2.2⟩, Nat.le_refl _⟩
      case round =>
        obtain ⟨k, m2, S1, S2, rfl, rfl, hk, hm2, HJ, hg2⟩ := hrel
        by_cases hki : k < i
        · have d1 : decide (k < i) = true := decide_eq_true hki
          obtain ⟨y, S3, rfl⟩ : ∃ y S3, S2 = y :: S3 := by
            cases S2 with
            | nil => have h1 := HJ.out; have h2 := HR.out.2.1; rw [h1.1] at h2; simp at h2; omega
            | cons y S3 => exact ⟨y, S3, rfl⟩
          have hy := HV.out.at1 S1 (S3 ++ x :: R') y (by rw [HR.out.1, HJ.out.1]; simp) k HJ.out.2.1.symm
          have ly := hy.ld wr.drew (HJ.out.2.2.2.trans (Ext.drew _))
          have lx := HX.out.ld wr.drew (HJ.out.2.2.2.trans (Ext.drew _))
          have kc : k < len := by omega
          clear hy
          obtain ⟨q, hq⟩ : ∃ q, ahead x y = q := ⟨_, rfl⟩
          have HAH := Lib.hid hq
          clear hq
          cases q with
          | true =>
            go_wp2_with fail
            refine wp_region_segsK [([3, 1, 3, 2], 0, 0), ([2, 1], 2, 8), ([1], 1, 0)] (by kernel_rfl) (by kernel_rfl) ?_
            apply segsK_pure
            · intro W
              simp only [runsT, runsF, rep, pick]
              go_wp2_with (first | refine Arr.wpList_ldA rfl _ _ rfl _ ly ?_ | refine Arr.wpList_ldA rfl _ _ rfl _ lx ?_)
              exact ⟨rfl, rfl⟩
            simp only [runsT, runsF, rep, left]
            apply segsK_look
            · simp only [runsT, runsF, rep, pick]
              go_wp2_with (first | refine Arr.wpList_ldA rfl _ _ rfl _ ly ?_ | refine Arr.wpList_ldA rfl _ _ rfl _ lx ?_)
              exact ⟨rfl, rfl⟩
            simp only [runsT, runsF, rep, left]
            apply segsK_op
            go_wp2_with fail
            refine (rAhead_any x y _).mono ?_
            rintro e w5 ⟨rfl, hE5⟩
            rw [HAH.out]
            have HE5 := Lib.hid ((Ext.drew _).trans hE5)
            clear hE5
            go_wp2_with fail
            refine ⟨fun h => (by cases h), ?_⟩
            apply segsK_nil
            go_wp2_with fail
            go_roundg (i - (k + 1))
            case measure => omega
            case rel =>
              refine ⟨k + 1, m2 + 1, S1 ++ [y], S3, by go_num, by go_num, by omega, by omega, Lib.hid ⟨by rw [HJ.out.1]; simp, by rw [List.length_append, HJ.out.2.1]; rfl, ?_, HJ.out.2.2.2.trans HE5.out⟩, Nat.le_refl _⟩
              rw [List.countP_append, HJ.out.2.2.1, List.countP_singleton, if_pos HAH.out]
              omega
          | false =>
            go_wp2_with fail
            refine wp_region_segsK [([3, 1, 3, 2], 0, 0), ([2, 1], 2, 8), ([1], 1, 0)] (by kernel_rfl) (by kernel_rfl) ?_
            apply segsK_pure
            · intro W
              simp only [runsT, runsF, rep, pick]
              go_wp2_with (first | refine Arr.wpList_ldA rfl _ _ rfl _ ly ?_ | refine Arr.wpList_ldA rfl _ _ rfl _ lx ?_)
              exact ⟨rfl, rfl⟩
            simp only [runsT, runsF, rep, left]
            apply segsK_look
            · simp only [runsT, runsF, rep, pick]
              go_wp2_with (first | refine Arr.wpList_ldA rfl _ _ rfl _ ly ?_ | refine Arr.wpList_ldA rfl _ _ rfl _ lx ?_)
              exact ⟨rfl, rfl⟩
            simp only [runsT, runsF, rep, left]
            apply segsK_op
            go_wp2_with fail
            refine (rAhead_any x y _).mono ?_
            rintro e w5 ⟨rfl, hE5⟩
            rw [HAH.out]
            have HE5 := Lib.hid ((Ext.drew _).trans hE5)
            clear hE5
            go_wp2_with fail
            refine ⟨fun h => (by cases h), ?_⟩
            apply segsK_nil
            go_wp2_with fail
            go_roundg (i - (k + 1))
            case measure => omega
            case rel =>
              refine ⟨k + 1, m2, S1 ++ [y], S3, rfl, by go_num, by omega, by omega, Lib.hid ⟨by rw [HJ.out.1]; simp, by rw [List.length_append, HJ.out.2.1]; rfl, ?_, HJ.out.2.2.2.trans HE5.out⟩, Nat.le_refl _⟩
              rw [List.countP_append, HJ.out.2.2.1, List.countP_singleton, if_neg (by rw [HAH.out]; decide)]
              omega
        · obtain rfl : k = i := by omega
          have d1 : decide (k < k) = false := decide_eq_false (by omega)
          go_wp2_with fail
          go_roundg (len - (k + 1))
          case measure => omega
          case rel =>
            obtain ⟨q1, q2, q3, q4⟩ := HR.out
            obtain ⟨p1, p2, p3, p4⟩ := HJ.out
            have e2 : S2 = [] := by
              rw [p1, List.length_append] at q2
              exact List.eq_nil_of_length_eq_zero (by omega)
            rw [e2, List.append_nil] at p1
            refine ⟨k + 1, m2, S ++ [x], R', rfl, by go_num, by omega, by omega, Lib.hid ⟨by rw [q1]; simp, by rw [List.length_append, q2]; rfl, ?_, p4⟩, Nat.le_refl _⟩
            rw [swaps_snoc, p3, q3, ← p1]
    · obtain rfl : i = len := by omega
      have d0 : decide (i < i) = false := decide_eq_false (by omega)
      go_wp2_with fail
      go_ret
      have h := HR.out
      have e2 : R = [] := by
        have h2 := HV.out.len
        rw [h.1, List.length_append] at h2
        exact List.eq_nil_of_length_eq_zero (by omega)
      rw [e2, List.append_nil] at h
      refine ⟨?_, h.2.2.2⟩
      show Ending.returned (Value.int .i64 (m : Int)) = _
      rw [h.1, ← h.2.2.1]
theorem neq_same (x : C) (W : World) : (binOp .neq 41 (CV x) (CV x)).run Try.prog W = .ok (.bool false) W := by
  unfold CV enc
  go_simp
theorem eg_same (x : C) (W : World) : (eqGuard BinOp.neq 41 (Operand.tmp 20) (Operand.tmp 24) (CV x) (CV x)).run Try.prog W = .ok () W := by
  unfold CV enc
  go_simp
end Go.Proofs.Ytdfbfcglacalmaa.Hs
end

section
namespace Go.Proofs.Ytdfbfcglacalmaa.Hs
open Go.RowKit Go.Seg Go.Open Go.Lib Go.Arr Go.Stab Go.Row

/-- Rows of places. -/
def RI : Row.Ty Try.prog := ⟨24, 3, .int .i64 0, 1, 8, Try.underlying24, by kernel_rfl, rfl, by decide, by decide⟩
def encI (i : Nat) : List Value := [.int .i64 (i : Int)]
theorem encI_one (i : Nat) : ∀ u ∈ encI i, u.oneCell' = true := by intro u hu; simp [encI] at hu; subst hu; rfl
structure VI (w : World) (a : Option Addr) (n b : Nat) (o : List Nat) : Prop where
  len : o.length = n
  ad : 0 < n → a = some ⟨b, 0, none⟩
  cells : ∀ W, Ext w W → ∀ i (h : i < o.length), W.cell? ⟨b, i, none⟩ = some (.int .i64 (o[i] : Int))
theorem VI.ext {w w' : World} {a : Option Addr} {n b : Nat} {o : List Nat} (h : VI w a n b o) (e : Ext w w') : VI w' a n b o := ⟨h.len, h.ad, fun W hW => h.cells W (e.trans hW)⟩
theorem row_vi {w : World} {B n cap : Nat} {a : Option Addr} {o : List Nat} (h : RowG RI encI w B (.slice a n cap) o) : ∃ b, VI w a n b o ∧ n ≤ cap ∧ (∀ ad, a = some ad → ad = ⟨b, 0, none⟩) ∧ (a = none → n = 0 ∧ cap = 0) := by
  have hlen : o.length = n := by
    obtain ⟨a', cap', hu⟩ := RowG.val h
    simp only [Value.slice.injEq] at hu
    exact hu.2.1.symm
  rcases h.2 with ⟨h6, hz⟩ | ⟨g, cap', cur, h6, h7, h8, h9, h10, h11, h12⟩
  · simp only [Value.slice.injEq] at h6
    obtain ⟨rfl, rfl, rfl⟩ := h6
    exact ⟨0, ⟨hlen, fun h => absurd h (by omega), fun W hW i hi => absurd hi (by omega)⟩, Nat.le_refl _, fun ad had => (by cases had), fun _ => ⟨rfl, rfl⟩⟩
  · simp only [Value.slice.injEq] at h6
    obtain ⟨rfl, h13, rfl⟩ := h6
    rw [hlen] at h9 h12
    refine ⟨g, ⟨hlen, fun _ => rfl, fun W hW i hi => ?_⟩, h9, fun ad had => (Option.some.inj had).symm, fun h => (by cases h)⟩
    have hb : Blk W g cur 3 := Blk.ext (show Blk w g cur 3 from h8) hW
    have h14 := flat_get encI 1 (fun _ => rfl) o i hi 0 (by omega)
    have hi' : i < n := by omega
    rw [Nat.mul_one, Nat.add_zero, ← h12, List.getElem?_take, if_pos (by show i < n * 1; omega)] at h14
    rw [Blk.cells hb, ← Array.getElem?_toList, h14]
    rfl
theorem Contains_any (o : List Nat) (a : Option Addr) (n cap b i : Nat) (w : World) (hV : VI w a n b o) (hl : n ≤ 60) :
    Calls Try.prog 39 #[.slice a n cap, .int .i64 i] w fun e w' => e = .returned (.bool (decide (i ∈ o))) ∧ w = w' := by
  have hI : Calls Try.prog 50 #[.slice a n cap, .int .i64 i] w fun e w' => (∃ m : Int, e = .returned (.int .i64 m) ∧ (i ∈ o ↔ 0 ≤ m)) ∧ w = w' := by
    have HV := Lib.hid hV
    clear hV
    go_enter Try.func50, Try.ntmps50
    go_wp2_with fail
    go_loopg [8] n (fun g s wr => ∃ k : Nat, s = .int .i64 k ∧ k ≤ n ∧ wr = w ∧ Hid (∀ j (h : j < o.length), j < k → o[j] ≠ i) ∧ n - k ≤ g)
    case atStart => exact ⟨0, rfl, Nat.zero_le _, rfl, Lib.hid (fun j _ h => absurd h (by omega)), Nat.le_refl _⟩
    case round =>
      obtain ⟨k, rfl, hk, rfl, HR, hg⟩ := hrel
      by_cases hkn : k < n
      · have d0 : decide (k < n) = true := decide_eq_true hkn
        obtain rfl := HV.out.ad (by omega)
        have HL := Lib.hid (show k < o.length by rw [HV.out.len]; exact hkn)
        obtain ⟨z, hz⟩ : ∃ z, o[k]'HL.out = z := ⟨_, rfl⟩
        have x0 := HV.out.cells wr (Ext.refl _) k HL.out
        rw [hz] at x0
        have HZ := Lib.hid hz
        clear hz
        by_cases he : i = z
        · have d1 : ((i : Int) == (z : Int)) = true := by simp [he]
          have d1' : (i == z) = true := by simp [he]
          have HE := Lib.hid he
          clear he
          go_wp2_with fail
          go_ret
          exact ⟨⟨k, rfl, ⟨fun _ => by omega, fun _ => by rw [HE.out, ← HZ.out]; exact List.getElem_mem _⟩⟩, rfl⟩
        · have d1 : ((i : Int) == (z : Int)) = false := beq_eq_false_iff_ne.2 (by omega)
          have d1' : (i == z) = false := beq_eq_false_iff_ne.2 he
          have HE := Lib.hid (show i < z ∨ z < i by omega)
          clear he
          go_wp2_with fail
          go_roundg (n - (k + 1))
          case measure => omega
          case rel =>
            refine ⟨k + 1, by go_num, by omega, rfl, Lib.hid (fun j hj hjk => ?_), Nat.le_refl _⟩
            by_cases h : j < k
            · exact HR.out j hj h
            · obtain rfl : j = k := by omega
              rw [HZ.out]
              have := HE.out
              omega
      · obtain rfl : k = n := by omega
        have d0 : decide (k < k) = false := decide_eq_false (by omega)
        go_wp2_with fail
        go_ret
        refine ⟨⟨-1, rfl, ⟨fun h => ?_, fun h => absurd h (by omega)⟩⟩, rfl⟩
        exfalso
        obtain ⟨j, hj, e⟩ := List.mem_iff_getElem.1 h
        exact HR.out j hj (by have := HV.out.len; omega) e
  have HI := Lib.hid hI
  clear hI hV
  go_enter Try.func39, Try.ntmps39
  go_wp2_with fail
  refine HI.out.mono ?_
  rintro e w2 ⟨⟨m, rfl, hm⟩, rfl⟩
  have HM := Lib.hid hm
  clear hm
  go_wp2_with fail
  go_ret
  refine ⟨?_, rfl⟩
  show Ending.returned (Value.bool _) = _
  congr 2
  by_cases h : i ∈ o
  · rw [decide_eq_true h]; exact decide_eq_true (HM.out.1 h)
  · rw [decide_eq_false h]; exact decide_eq_false (fun h0 => h (HM.out.2 h0))
end Go.Proofs.Ytdfbfcglacalmaa.Hs
end

section
namespace Go.Proofs.Ytdfbfcglacalmaa.Hs
open Go.RowKit Go.Seg Go.Open Go.Lib Go.Arr Go.Stab Go.Row

theorem cat_at {T S R : List C} {x : C} {k : Nat} (e : T = S ++ x :: R) (hk : S.length = k) : cat T k = x := by
  unfold cat
  subst e hk
  simp [List.getD_eq_getElem?_getD]
/-- One that stands between. -/
def btw (T : List C) (o : List Nat) (i k : Nat) (x y : C) : Bool := k != i && (!decide (k ∈ o) && ahead x y)
set_option maxRecDepth 100000 in
set_option maxHeartbeats 8000000 in
theorem seekMay_any (T : List C) (la : Option Addr) (n lcap lb loff : Nat) (o : List Nat) (oa : Option Addr) (m ocap ob bs i : Nat) (lft : Int) (w : World) (hV : VC w la n lb loff T) (hO : VI w oa m ob o) (hB : Blk w bs #[.slice la n lcap, .slice oa m ocap, .int .i64 lft] 47) (hn : n ≤ 60) (hm : m ≤ 60) (hi : i < n) :
    Calls Try.prog 30 #[.pointer (some ⟨bs, 0, none⟩), .int .i64 i] w fun e w' => (∃ r : Bool, e = .returned (.bool r) ∧ (r = true ↔ mayP T o i)) ∧ Ext w w' := by
  have HV := Lib.hid hV
  have HO := Lib.hid hO
  have HB := Lib.hid hB
  have c0 := hB.cell (i := 0) rfl
  have c1 := hB.cell (i := 1) rfl
  clear hV hO hB
  obtain ⟨Si, y, Ri, eI, hSi, hy⟩ := HV.out.get hi
  have HI := Lib.hid (And.intro (cat_at eI hSi) hy)
  clear eI hSi hy
  go_enter Try.func30, Try.ntmps30
  go_wp2_with fail
  refine (Contains_any o oa m ocap ob i _ HO.out hm).mono ?_
  rintro e w' ⟨rfl, rfl⟩
  by_cases hio : i ∈ o
  · have HIO := Lib.hid hio
    have d0 : decide (i ∈ o) = true := decide_eq_true hio
    rw [d0]
    clear hio d0
    go_wp2_with fail
    go_ret
    exact ⟨⟨false, rfl, ⟨fun h => (by cases h), fun h => absurd HIO.out h.1⟩⟩, Ext.refl _⟩
  · have HIO := Lib.hid (show ¬ i ∈ o ∧ True from ⟨hio, trivial⟩)
    have d0 : decide (i ∈ o) = false := decide_eq_false hio
    rw [d0]
    clear hio d0
    go_wp2_with fail
    clear c0 c1
    go_loopg [18] n (fun g s wr => ∃ k : Nat, s = .int .i64 k ∧ k ≤ n ∧ Hid (Ext w wr ∧ ∀ j, j < k → j ≠ i → j ∉ o → ahead (cat T j) (cat T i) = false) ∧ n - k ≤ g)
    case atStart => exact ⟨0, rfl, Nat.zero_le _, Lib.hid ⟨Ext.refl _, fun j h => absurd h (by omega)⟩, Nat.le_refl _⟩
    case round =>
      obtain ⟨k, rfl, hk, HR, hg⟩ := hrel
      by_cases hkn : k < n
      · have d0 : decide (k < n) = true := decide_eq_true hkn
        obtain rfl := HV.out.ad (by omega)
        obtain ⟨S, x, R, eT, hS, hx⟩ := HV.out.get hkn
        have HX := Lib.hid (cat_at eT hS)
        have l1 := hx.ld wr HR.out.1
        have s1 := st_new wr x
        have HBX := Lib.hid (one_box wr x)
        obtain ⟨w2, hw2⟩ : ∃ w2, w2 = wr.alloc (.cells (enc x).toArray 41) := ⟨_, rfl⟩
        rw [← hw2] at s1
        have HA := Lib.hid (show At1 w2 wr.heap.size 0 x by rw [hw2]; exact at1_blk HBX.out.1)
        have HE2 := Lib.hid (show Ext wr w2 by rw [hw2]; exact HBX.out.2)
        unfold ZC at s1
        clear hx eT hS HBX hw2
        go_upto_region 6 with (first | refine Arr.wpList_ldA rfl _ _ rfl _ l1 ?_ | refine Arr.wpList_stA rfl _ _ _ rfl rfl s1 ?_)
        clear l1 s1
        go_cut [45] (fun s wx => s = .bool (btw T o i k x y) ∧ Hid (Ext w2 wx))
        case first =>
          have HEd := Lib.hid (HR.out.1.trans (HE2.out.trans (Ext.drew w2)))
          have c0 := (HB.out.ext HEd.out).cell (i := 0) rfl
          have c1 := (HB.out.ext HEd.out).cell (i := 1) rfl
          have lx := HA.out.ld w2.drew (Ext.drew _)
          have ly := HI.out.2.ld w2.drew HEd.out
          by_cases hki : k = i
          · have d1 : ((k : Int) != (i : Int)) = false := by simp [hki]
            have E : Hid (btw T o i k x y = false) := Lib.hid (by unfold btw; simp [hki])
            have d1' : (k != i) = false := by simp [hki]
            clear hki lx ly
            refine wp_region_segsK [([7, 1, 1, 14], 0, 0), ([1, 14], 2, 8), ([1, 13], 1, 0), ([3, 1, 3, 1, 1, 4], 0, 0), ([4, 2], 2, 21), ([1, 1], 1, 0), ([1], 0, 0)] (by kernel_rfl) (by kernel_rfl) ?_
            apply segsK_pure
            · intro W
              simp only [runsT, runsF, rep, pick]
              repeat (first | go_values | go_skip | go_guarded | go_step)
              exact ⟨rfl, rfl⟩
            simp only [runsT, runsF, rep, left]
            apply segsK_look
            · simp only [runsT, runsF, rep, pick]
              repeat (first | go_values | go_skip | go_guarded | go_step)
              exact ⟨rfl, rfl⟩
            simp only [runsT, runsF, rep, left]
            apply segsK_op
            go_wp2_with fail
            refine ⟨fun h => (by cases h), ?_⟩
            apply segsK_pure
            · intro W
              simp only [runsT, runsF, rep, pick]
              repeat (first | go_values | go_skip | go_guarded | go_step)
              exact ⟨rfl, rfl⟩
            simp only [runsT, runsF, rep, left]
            apply segsK_look
            · simp only [runsT, runsF, rep, pick]
              repeat (first | go_values | go_skip | go_guarded | go_step)
              exact ⟨rfl, rfl⟩
            simp only [runsT, runsF, rep, left]
            apply segsK_op
            go_wp2_with fail
            refine ⟨fun h => (by cases h), ?_⟩
            apply segsK_pure
            · intro W
              simp only [runsT, runsF, rep, pick]
              repeat (first | go_values | go_skip | go_guarded | go_step)
              exact ⟨rfl, rfl⟩
            simp only [runsT, runsF, rep, left]
            apply segsK_nil
            go_wp2_with fail
            go_meet
            exact ⟨by rw [E.out], Lib.hid (Ext.drew _)⟩
          · have d1 : ((k : Int) != (i : Int)) = true := by simp; omega
            have d1' : (k != i) = true := by simp [hki]
            by_cases hko : k ∈ o
            · have E : Hid (btw T o i k x y = false) := Lib.hid (by unfold btw; simp [hko])
              have HIN := Lib.hid (decide_eq_true hko)
              clear hki hko
              refine wp_region_segsK [([7, 1, 1, 14], 0, 0), ([1, 14], 2, 8), ([1, 13], 1, 0), ([3, 1, 3, 1, 1, 4], 0, 0), ([4, 2], 2, 21), ([1, 1], 1, 0), ([1], 0, 0)] (by kernel_rfl) (by kernel_rfl) ?_
              apply segsK_pure
              · intro W
                simp only [runsT, runsF, rep, pick]
                go_wp2_with (first | refine Arr.wpList_ldA rfl _ _ rfl _ lx ?_ | refine Arr.wpList_ldA rfl _ _ rfl _ ly ?_)
                exact ⟨rfl, rfl⟩
              simp only [runsT, runsF, rep, left]
              apply segsK_look
              · simp only [runsT, runsF, rep, pick]
                go_wp2_with (first | refine Arr.wpList_ldA rfl _ _ rfl _ lx ?_ | refine Arr.wpList_ldA rfl _ _ rfl _ ly ?_)
                exact ⟨rfl, rfl⟩
              simp only [runsT, runsF, rep, left]
              apply segsK_op
              go_wp2_with fail
              refine (Contains_any o oa m ocap ob k _ (HO.out.ext HEd.out) hm).mono ?_
              rintro e w' ⟨rfl, rfl⟩
              rw [HIN.out]
              go_wp2_with fail
              refine ⟨fun h => (by cases h), ?_⟩
              apply segsK_pure
              · intro W
                simp only [runsT, runsF, rep, pick]
                go_wp2_with (first | refine Arr.wpList_ldA rfl _ _ rfl _ lx ?_ | refine Arr.wpList_ldA rfl _ _ rfl _ ly ?_)
                exact ⟨rfl, rfl⟩
              simp only [runsT, runsF, rep, left]
              apply segsK_look
              · simp only [runsT, runsF, rep, pick]
                go_wp2_with (first | refine Arr.wpList_ldA rfl _ _ rfl _ lx ?_ | refine Arr.wpList_ldA rfl _ _ rfl _ ly ?_)
                exact ⟨rfl, rfl⟩
              simp only [runsT, runsF, rep, left]
              apply segsK_op
              go_wp2_with fail
              refine ⟨fun h => (by cases h), ?_⟩
              apply segsK_pure
              · intro W
                simp only [runsT, runsF, rep, pick]
                go_wp2_with (first | refine Arr.wpList_ldA rfl _ _ rfl _ lx ?_ | refine Arr.wpList_ldA rfl _ _ rfl _ ly ?_)
                exact ⟨rfl, rfl⟩
              simp only [runsT, runsF, rep, left]
              apply segsK_nil
              go_wp2_with fail
              go_meet
              exact ⟨by rw [E.out], Lib.hid (Ext.drew _)⟩
            · have E : Hid (btw T o i k x y = ahead x y) := Lib.hid (by unfold btw; simp [hko, hki])
              have HIN := Lib.hid (decide_eq_false hko)
              clear hki hko
              refine wp_region_segsK [([7, 1, 1, 14], 0, 0), ([1, 14], 2, 8), ([1, 13], 1, 0), ([3, 1, 3, 1, 1, 4], 0, 0), ([4, 2], 2, 21), ([1, 1], 1, 0), ([1], 0, 0)] (by kernel_rfl) (by kernel_rfl) ?_
              apply segsK_pure
              · intro W
                simp only [runsT, runsF, rep, pick]
                go_wp2_with (first | refine Arr.wpList_ldA rfl _ _ rfl _ lx ?_ | refine Arr.wpList_ldA rfl _ _ rfl _ ly ?_)
                exact ⟨rfl, rfl⟩
              simp only [runsT, runsF, rep, left]
              apply segsK_look
              · simp only [runsT, runsF, rep, pick]
                go_wp2_with (first | refine Arr.wpList_ldA rfl _ _ rfl _ lx ?_ | refine Arr.wpList_ldA rfl _ _ rfl _ ly ?_)
                exact ⟨rfl, rfl⟩
              simp only [runsT, runsF, rep, left]
              apply segsK_op
              go_wp2_with fail
              refine (Contains_any o oa m ocap ob k _ (HO.out.ext HEd.out) hm).mono ?_
              rintro e w' ⟨rfl, rfl⟩
              rw [HIN.out]
              go_wp2_with fail
              refine ⟨fun h => (by cases h), ?_⟩
              apply segsK_pure
              · intro W
                simp only [runsT, runsF, rep, pick]
                go_wp2_with (first | refine Arr.wpList_ldA rfl _ _ rfl _ lx ?_ | refine Arr.wpList_ldA rfl _ _ rfl _ ly ?_)
                exact ⟨rfl, rfl⟩
              simp only [runsT, runsF, rep, left]
              apply segsK_look
              · simp only [runsT, runsF, rep, pick]
                go_wp2_with (first | refine Arr.wpList_ldA rfl _ _ rfl _ lx ?_ | refine Arr.wpList_ldA rfl _ _ rfl _ ly ?_)
                exact ⟨rfl, rfl⟩
              simp only [runsT, runsF, rep, left]
              apply segsK_op
              go_wp2_with fail
              refine (ahead_any x y _).mono ?_
              rintro e w5 ⟨rfl, hE5⟩
              have HE5 := Lib.hid hE5
              clear hE5
              go_wp2_with fail
              refine ⟨fun h => (by cases h), ?_⟩
              apply segsK_pure
              · intro W
                simp only [runsT, runsF, rep, pick]
                go_wp2_with (first | refine Arr.wpList_ldA rfl _ _ rfl _ lx ?_ | refine Arr.wpList_ldA rfl _ _ rfl _ ly ?_)
                exact ⟨rfl, rfl⟩
              simp only [runsT, runsF, rep, left]
              apply segsK_nil
              go_wp2_with fail
              go_meet
              exact ⟨by rw [E.out], Lib.hid ((Ext.drew _).trans HE5.out)⟩
        case rest =>
        obtain ⟨rfl, HE3⟩ := hcut
        obtain ⟨bb, hbb⟩ : ∃ bb, btw T o i k x y = bb := ⟨_, rfl⟩
        rw [hbb]
        cases bb with
        | true =>
          have HBB := Lib.hid hbb
          clear hbb
          go_wp2_with fail
          go_ret
          refine ⟨⟨false, rfl, ⟨fun h => (by cases h), fun h => ?_⟩⟩, HR.out.1.trans (HE2.out.trans HE3.out)⟩
          have h1 := HBB.out
          unfold btw at h1
          simp only [Bool.and_eq_true, bne_iff_ne, ne_eq, Bool.not_eq_true', decide_eq_false_iff_not] at h1
          have h2 := h.2 k (by rw [HV.out.len]; exact hkn) h1.1 h1.2.1
          rw [HX.out, HI.out.1, h1.2.2] at h2
          cases h2
        | false =>
          have HBB := Lib.hid hbb
          clear hbb
          go_wp2_with fail
          go_roundg (n - (k + 1))
          case measure => omega
          case rel =>
            refine ⟨k + 1, by go_num, by omega, Lib.hid ⟨HR.out.1.trans (HE2.out.trans HE3.out), fun j hj hji hjo => ?_⟩, Nat.le_refl _⟩
            by_cases h : j < k
            · exact HR.out.2 j h hji hjo
            · obtain rfl : j = k := by omega
              have h1 := HBB.out
              unfold btw at h1
              rw [HX.out, HI.out.1]
              simpa [hji, hjo] using h1
      · obtain rfl : k = n := by omega
        have d0 : decide (k < k) = false := decide_eq_false (by omega)
        go_wp2_with fail
        go_ret
        exact ⟨⟨true, rfl, ⟨fun _ => ⟨HIO.out.1, fun j hj hji hjo => HR.out.2 j (by rw [HV.out.len] at hj; exact hj) hji hjo⟩, fun _ => rfl⟩⟩, HR.out.1⟩
end Go.Proofs.Ytdfbfcglacalmaa.Hs
end

section
namespace Go.Proofs.Ytdfbfcglacalmaa.Hs
open Rk Lossy

def mayB (T : List C) (o : List Nat) (i : Nat) : Bool := !decide (i ∈ o) && (List.range T.length).all fun k => k == i || (decide (k ∈ o) || !ahead (cat T k) (cat T i))
theorem mayB_iff (T : List C) (o : List Nat) (i : Nat) : mayB T o i = true ↔ mayP T o i := by
  unfold mayB mayP
  simp only [Bool.and_eq_true, Bool.not_eq_true', decide_eq_false_iff_not, List.all_eq_true, List.mem_range, Bool.or_eq_true, beq_iff_eq, decide_eq_true_eq]
  constructor
  · rintro ⟨h1, h2⟩
    refine ⟨h1, fun k hk hki hko => ?_⟩
    rcases h2 k hk with h | h | h
    · exact absurd h hki
    · exact absurd h hko
    · exact h
  · rintro ⟨h1, h2⟩
    refine ⟨h1, fun k hk => ?_⟩
    by_cases e : k = i
    · exact .inl e
    · by_cases hm : k ∈ o
      · exact .inr (.inl hm)
      · exact .inr (.inr (h2 k hk e hm))
/-- May a place come next, and does the map do its call? -/
def nextB (T : List C) (o : List Nat) (s : St) (i : Nat) : Bool := mayB T o i && mayS s (cat T i)
/-- All lines that go on so. -/
def lns (T : List C) : Nat → List Nat → St → List (List Nat)
  | 0, o, _ => [o]
  | k + 1, o, s => (List.range T.length).flatMap fun i => if nextB T o s i = true then lns T k (o ++ [i]) (afterS s (cat T i)) else []
/-- Those that go on with one of the first places. -/
def lnsTo (T : List C) (k : Nat) (o : List Nat) (s : St) (j : Nat) : List (List Nat) := (List.range j).flatMap fun i => if nextB T o s i = true then lns T k (o ++ [i]) (afterS s (cat T i)) else []
theorem lns_all (T : List C) (k : Nat) (o : List Nat) (s : St) : lns T (k + 1) o s = lnsTo T k o s T.length := rfl
theorem lnsTo_zero (T : List C) (k : Nat) (o : List Nat) (s : St) : lnsTo T k o s 0 = [] := rfl
theorem lnsTo_no {T : List C} {k : Nat} {o : List Nat} {s : St} {j : Nat} (h : nextB T o s j = false) : lnsTo T k o s (j + 1) = lnsTo T k o s j := by
  unfold lnsTo
  rw [List.range_succ, List.flatMap_append, List.flatMap_singleton, h]
  simp
theorem lnsTo_yes {T : List C} {k : Nat} {o : List Nat} {s : St} {j : Nat} (h : nextB T o s j = true) : lnsTo T k o s (j + 1) = lnsTo T k o s j ++ lns T k (o ++ [j]) (afterS s (cat T j)) := by
  unfold lnsTo
  rw [List.range_succ, List.flatMap_append, List.flatMap_singleton, h]
  simp
theorem lnsTo_pre (T : List C) (k : Nat) (o : List Nat) (s : St) {j : Nat} (h : j ≤ T.length) : lnsTo T k o s j <+: lns T (k + 1) o s := by
  rw [lns_all]
  obtain ⟨d, hd⟩ : ∃ d, T.length = j + d := ⟨T.length - j, by omega⟩
  rw [hd]
  unfold lnsTo
  rw [List.range_add, List.flatMap_append]
  exact List.prefix_append _ _
/-- Each of them goes on so. -/
theorem lns_path (T : List C) : ∀ (k : Nat) (o : List Nat) (s : St), o.length + k = T.length → ∀ q ∈ lns T k o s, ∃ p, q = o ++ p ∧ Whole' T o s p
  | 0, o, s, h, q, hq => by
    simp only [lns, List.mem_singleton] at hq
    subst hq
    exact ⟨[], by simp, trivial, by simpa using h⟩
  | k + 1, o, s, h, q, hq => by
    simp only [lns, List.mem_flatMap, List.mem_range] at hq
    obtain ⟨i, hi, hq⟩ := hq
    split at hq
    · rename_i hn
      unfold nextB at hn
      rw [Bool.and_eq_true] at hn
      obtain ⟨p, rfl, hp, hl⟩ := lns_path T k (o ++ [i]) _ (by simp; omega) q hq
      exact ⟨i :: p, by simp, ⟨hi, (mayB_iff T o i).1 hn.1, hn.2, hp⟩, by simp at hl ⊢; omega⟩
    · cases hq
/-- Each that goes on so is one of them. -/
theorem path_lns (T : List C) : ∀ (k : Nat) (o : List Nat) (s : St) (p : List Nat), p.length = k → path T o s p → o ++ p ∈ lns T k o s
  | 0, o, s, p, h, _ => by
    rw [List.eq_nil_of_length_eq_zero h]
    simp [lns]
  | k + 1, o, s, p, h, hp => by
    cases p with
    | nil => simp at h
    | cons i p =>
      obtain ⟨h1, h2, h3, h4⟩ := hp
      simp only [lns, List.mem_flatMap, List.mem_range]
      refine ⟨i, h1, ?_⟩
      rw [if_pos (by unfold nextB; rw [(mayB_iff T o i).2 h2, h3]; rfl)]
      have := path_lns T k (o ++ [i]) _ p (by simpa using h) h4
      simpa using this
theorem mem_lns (T : List C) (q : List Nat) : q ∈ lns T T.length [] s0 ↔ IsLine T q := by
  constructor
  · intro h
    obtain ⟨p, rfl, hp⟩ := lns_path T T.length [] s0 (by simp) q h
    exact (line_iff T _).2 (by simpa using hp)
  · intro h
    obtain ⟨hp, hl⟩ := (line_iff T q).1 h
    have := path_lns T T.length [] s0 q (by simpa using hl) hp
    simpa using this
/-- What a map holds grows by one at most. -/
theorem after_sz (s : St) (x : C) : (afterS s x).1.sz ≤ s.1.sz + 1 := by
  have h0 := T.sz_nn s.1
  unfold afterS Lossy.after
  split
  · omega
  · split
    · have := T.sz_put_le Rk.cint (toLo x).ky ((toLo x).vl, endOf (toLo x).tk (toLo x).tt) s.1
      simp only; omega
    · split
      · have := T.sz_drop_le Rk.cint (toLo x).ky s.1
        simp only; omega
      · split
        · simp only [T.sz]; omega
        · split
          · simp only [T.sz]; omega
          · omega
theorem step_yes {s : St} {x : C} (h : mayS s x = true) : (if Lossy.may s.1 s.2 (toLo x) = true then Lossy.after s (toLo x) else s) = afterS s x := by
  rw [if_pos (show Lossy.may s.1 s.2 (toLo x) = true from h)]; rfl
/-- A beginning of rows in a row. -/
theorem pre_app {α : Type} {A B q : List α} (h : q <+: B) : A ++ q <+: A ++ B := (List.prefix_append_right_inj A).2 h
end Go.Proofs.Ytdfbfcglacalmaa.Hs
end
