/-
  Package trace: the line of a call, walked.
  The library's table of powers and the kinds' names lie there; no other condition.
-/
import Derived.Test.YtjlomdhaigejhaaDoorTrC
import Derived.Test.YtjlomdhaigejhaaDoorSegE
namespace Go.Proofs.YtjlomdhaigejhaaDoor.Trc
open Go.RowKit Go.Shelf Go.Seg Go.Open Go.Lib Prg

theorem numW_succ (c : Cl) (q j : Nat) (_h : q < (ownL (c.f 0)).length) (hj : (ownL (c.f 0)).take (q + 1) = (ownL (c.f 0)).take q ++ [j]) : numW c (q + 1) = numW c q ++ [intS (c.f j)] := by simp [numW, hj]
theorem right_kind {f : Nat → Int} (h : rightB f = true) : 0 ≤ f 0 ∧ f 0 ≤ 7 := by
  unfold rightB at h
  simp only [Bool.and_eq_true, decide_eq_true_eq] at h
  exact h.1
theorem lit1S (W : World) (s : ByteArray) : Row.Own RS (W.alloc (.cells #[.string s] 9)) W.heap.size (.slice (some ⟨W.heap.size, 0, none⟩) 1 1) 1 [.string s] := own_litS W #[.string s] 1 rfl (by decide)
theorem step_at2 {w5 wr : World} {N b o : Nat} {L : List Nat} {E : TypeId} (hb : Blk w5 N ((L.map fun j => Value.pointer (some ⟨b, o + j, none⟩)).toArray) E) (hX : Ext w5 wr) {q : Nat} (h : q < L.length) :
    ∃ j, wr.cell? ⟨N, q, none⟩ = some (.pointer (some ⟨b, o + j, none⟩)) ∧ L.take q ++ [j] <+: L ∧ L.take (q + 1) = L.take q ++ [j] := by
  refine ⟨L[q], ?_, ?_, ?_⟩
  · rw [(hb.ext hX).cells q]; simp [h]
  · rw [← List.take_succ_eq_append_getElem h]; exact List.take_prefix _ _
  · exact List.take_succ_eq_append_getElem h
theorem cv_at (c : Cl) (j : Nat) (h : j < 5) : (#[.int .i64 c.client, .int .i64 c.id, .int .i64 (c.f 0), .int .i64 (c.f 1), .int .i64 (c.f 2), .int .i64 (c.f 3), .int .i64 (c.f 4), .int .i64 c.bgn, .int .i64 c.at_, .int .i64 c.end_, .int .i64 c.tick, .bool c.ok, .int .i64 c.val] : Array Value)[2 + j]? = some (.int .i64 (c.f j)) := by
  match j, h with
  | 0, _ => rfl
  | 1, _ => rfl
  | 2, _ => rfl
  | 3, _ => rfl
  | 4, _ => rfl
set_option maxHeartbeats 4000000 in
set_option maxRecDepth 100000 in
theorem Call_any (c : Cl) (h : Ok c) (w : World) (hT : Tab w) (hN : NamesAt w) : Calls Tryd.prog 5 #[.agg #[.int .i64 c.client, .int .i64 c.id, .int .i64 (c.f 0), .int .i64 (c.f 1), .int .i64 (c.f 2), .int .i64 (c.f 3), .int .i64 (c.f 4), .int .i64 c.bgn, .int .i64 c.at_, .int .i64 c.end_, .int .i64 c.tick, .bool c.ok, .int .i64 c.val]] w fun e w' => e = .returned (.string (callS c)) ∧ Ext w w' := by
  have HK := Lib.hid h
  have HT := Lib.hid hT
  have HN := Lib.hid hN
  have hB : Blk (w.alloc (.cells (#[.int .i64 c.client, .int .i64 c.id, .int .i64 (c.f 0), .int .i64 (c.f 1), .int .i64 (c.f 2), .int .i64 (c.f 3), .int .i64 (c.f 4), .int .i64 c.bgn, .int .i64 c.at_, .int .i64 c.end_, .int .i64 c.tick, .bool c.ok, .int .i64 c.val]) 25)) w.heap.size (#[.int .i64 c.client, .int .i64 c.id, .int .i64 (c.f 0), .int .i64 (c.f 1), .int .i64 (c.f 2), .int .i64 (c.f 3), .int .i64 (c.f 4), .int .i64 c.bgn, .int .i64 c.at_, .int .i64 c.end_, .int .i64 c.tick, .bool c.ok, .int .i64 c.val]) 25 := Blk.new _ _ _
  have hE0 : Ext w (w.alloc (.cells (#[.int .i64 c.client, .int .i64 c.id, .int .i64 (c.f 0), .int .i64 (c.f 1), .int .i64 (c.f 2), .int .i64 (c.f 3), .int .i64 (c.f 4), .int .i64 c.bgn, .int .i64 c.at_, .int .i64 c.end_, .int .i64 c.tick, .bool c.ok, .int .i64 c.val]) 25)) := (Below.refl _ _).alloc (Nat.le_refl _) _
  have HB := Lib.hid (And.intro hB hE0)
  clear h hT hN hB hE0
  unfold callS
  by_cases hr : rightB c.f = true
  · rw [if_pos hr]
    have HR := Lib.hid hr
    have hk := right_kind hr
    have HKi := Lib.hid hk
    clear hr hk
    go_enter Tryd.func5, Tryd.ntmps5
    go_wp2_with fail
    refine (Right_any c.f _).mono ?_
    rw [HR.out]
    rintro e w1 ⟨rfl, hE1⟩
    have HX1 := Lib.hid (HB.out.2.trans hE1)
    have HC := Lib.hid (show ∀ W, Ext w1 W → Blk W w.heap.size (#[.int .i64 c.client, .int .i64 c.id, .int .i64 (c.f 0), .int .i64 (c.f 1), .int .i64 (c.f 2), .int .i64 (c.f 3), .int .i64 (c.f 4), .int .i64 c.bgn, .int .i64 c.at_, .int .i64 c.end_, .int .i64 c.tick, .bool c.ok, .int .i64 c.val]) 25 from fun W hW => (HB.out.1.ext hE1).ext hW)
    clear hE1
    go_wp2_with fail
    obtain ⟨s1, hs1⟩ : ∃ s, cat (intS c.client) ⟨#[46]⟩ = s := ⟨_, rfl⟩
    obtain ⟨s2, hs2⟩ : ∃ s, cat s1 (intS c.id) = s := ⟨_, rfl⟩
    have z1 := intS_size HK.out.client
    have z2 := intS_size HK.out.id
    have z3 : s1.size ≤ 22 := by rw [← hs1, cat_size]; have : (ByteArray.mk #[46]).size = 1 := rfl; omega
    have a1 := sum _ _ _ hs1 (by omega) (by decide)
    have a2 := sum _ _ _ hs2 (by omega) (by omega)
    have HS2 := Lib.hid (show headW c = [s2, nmS (c.f 0).toNat] by unfold headW; rw [hs1, hs2])
    clear hs1 hs2 z1 z2 z3
    refine wp_region_segs 14 [([2, 2, 2, 2, 3, 3], false), ([1, 5], false), ([1, 3], false), ([0, 2], false), ([1], false)] (by kernel_rfl) (by kernel_rfl) ?_
    apply segs_cons
    · intro W hW
      have hc : ∀ i, W.cell? ⟨w.heap.size, i, none⟩ = (#[.int .i64 c.client, .int .i64 c.id, .int .i64 (c.f 0), .int .i64 (c.f 1), .int .i64 (c.f 2), .int .i64 (c.f 3), .int .i64 (c.f 4), .int .i64 c.bgn, .int .i64 c.at_, .int .i64 c.end_, .int .i64 c.tick, .bool c.ok, .int .i64 c.val] : Array Value)[i]? := fun i => (HC.out W ((Ext.drew _).trans hW)).cells i
      simp only [runsT, runsF, rep, pick]
      go_wp2_with fail
      exact ⟨rfl, rfl⟩
    simp only [runsT, runsF, rep, left]
    go_wp2_with fail
    refine (Int_any c.client HK.out.client _ (tab_ext HT.out (HX1.out.trans (Ext.drew _)))).mono ?_
    rintro e w2 ⟨rfl, hE2⟩
    have HX2 := Lib.hid (show Ext w1 w2 from Ext.trans (Ext.drew _) hE2)
    go_wp2_with fail
    refine ⟨fun _ => hE2, ?_⟩
    apply segs_cons
    · intro W hW
      simp only [runsT, runsF, rep, pick]
      go_wp2_with fail
      exact ⟨rfl, rfl⟩
    simp only [runsT, runsF, rep, left]
    go_wp2_with fail
    clear hE2
    refine (Int_any c.id HK.out.id _ (tab_ext HT.out (HX1.out.trans HX2.out))).mono ?_
    rintro e w3 ⟨rfl, hE3⟩
    have HX3 := Lib.hid (show Ext w1 w3 from HX2.out.trans hE3)
    go_wp2_with fail
    refine ⟨fun _ => hE3, ?_⟩
    apply segs_cons
    · intro W hW
      simp only [runsT, runsF, rep, pick]
      go_wp2_with fail
      exact ⟨rfl, rfl⟩
    simp only [runsT, runsF, rep, left]
    go_wp2_with fail
    clear hE3
    refine (Name_yes (c.f 0) HKi.out _ (HN.out.ext (HX1.out.trans HX3.out))).mono ?_
    rintro e w' ⟨rfl, rfl⟩
    go_wp2_with fail
    refine ⟨fun _ => Ext.refl _, ?_⟩
    apply segs_cons
    · intro W hW
      exact ⟨rfl, rfl⟩
    simp only [runsT, runsF, rep, left]
    go_wp2_with fail
    refine ⟨fun _ => (Below.refl _ _).alloc (Nat.le_refl _) _, ?_⟩
    apply segs_cons
    · intro W hW
      simp only [runsT, runsF, rep, pick]
      go_wp2_with fail
      exact ⟨rfl, rfl⟩
    simp only [runsT, runsF, rep, left]
    go_wp2_with fail
    have HRow := Lib.hid (own_litS w3 #[.string s2, .string (nmS (c.f 0).toNat)] 2 rfl (by decide))
    have HX4 := Lib.hid (show Ext w1 (w3.alloc (.cells #[.string s2, .string (nmS (c.f 0).toNat)] 9)) from HX3.out.trans ((Below.refl _ _).alloc (Nat.le_refl _) _))
    obtain ⟨w4, hw4⟩ : ∃ W, w3.alloc (.cells #[.string s2, .string (nmS (c.f 0).toNat)] 9) = W := ⟨_, rfl⟩
    rw [hw4] at HRow HX4 ⊢
    have hE34 : Ext w3 w4 := by rw [← hw4]; exact (Below.refl _ _).alloc (Nat.le_refl _) _
    have HE34 := Lib.hid hE34
    clear a1 a2 hw4 hE34
    go_wp2_with fail
    refine (town w.heap.size 2 (c.f 0) _ ((HC.out _ HX4.out).cell (i := 2) rfl)).mono ?_
    rintro e w5 ⟨NP, a, rfl, ha, hE5⟩
    obtain ⟨n, hn⟩ : ∃ n, (ownL (c.f 0)).length = n := ⟨_, rfl⟩
    have HO := Lib.hid (show Row.Own RS w5 w3.heap.size (.slice (some ⟨w3.heap.size, 0, none⟩) 2 2) (2 + 0) ((headW c ++ numW c 0).map Value.string) from by
      rw [HS2.out]
      exact HRow.out.ext hE5)
    have HX5 := Lib.hid (HE34.out.trans hE5)
    have HA := Lib.hid ha
    have HNn := Lib.hid hn
    have hn4 : n ≤ 4 := by rw [← hn]; exact ownL_len _
    rw [hn]
    clear hE5 ha hn HRow
    go_wp2_with fail
    go_loopg [3, 26] n (fun g v i wr => ∃ q : Nat, q ≤ n ∧ i = .int .i64 q ∧ Row.Own RS wr w3.heap.size v (2 + q) ((headW c ++ numW c q).map Value.string) ∧ Ext w3 wr ∧ (0 < n → Blk wr NP (((ownL (c.f 0)).map fun j => Value.pointer (some ⟨w.heap.size, 2 + j, none⟩)).toArray) 50) ∧ n - q ≤ g)
    case atStart => exact ⟨0, Nat.zero_le _, rfl, HO.out, HX5.out, fun h => (HA.out (by have := HNn.out; omega)).2, Nat.le_refl _⟩
    case round =>
      obtain ⟨q, hq, rfl, hO, hX, hP, hg⟩ := hrel
      obtain ⟨av, cv, rfl, -⟩ := hO.val
      have HO := Lib.hid hO
      have HX := Lib.hid (HX3.out.trans hX)
      have HXr := Lib.hid hX
      have HP := Lib.hid hP
      clear hO hX hP
      by_cases hlt : q < n
      · have HM := Lib.hid (show n - (q + 1) < gk by omega)
        have hlt' : q < (ownL (c.f 0)).length := by rw [HNn.out]; exact hlt
        obtain ⟨rfl, -⟩ := HA.out (by omega)
        obtain ⟨j, hj, hjp, hjt⟩ := step_at2 (HP.out (by omega)) (Ext.refl _) hlt'
        have hj5 := ownL_lt (hjp.subset (show j ∈ _ by simp))
        have hcj := (HC.out _ HX.out).cell (i := 2 + j) (cv_at c j hj5)
        have d : decide ((q : Int) < (n : Int)) = true := decide_eq_true (by omega)
        have d' : decide (q < n) = true := decide_eq_true hlt
        have p0 : (0 : Int) ≤ (q : Int) := by omega
        have p1 : (q : Int) < (n : Int) := by omega
        have HJ := Lib.hid (numW_succ c q j hlt' hjt)
        clear hjp hjt hg hlt' hj5
        go_wp2_with fail
        refine (Int_any (c.f j) (HK.out.f j) _ (tab_ext HT.out (HX1.out.trans HX.out))).mono ?_
        rintro e w6 ⟨rfl, hE6⟩
        have HOa := Lib.hid ((HO.out.ext hE6).ext ((Below.refl _ _).alloc (Nat.le_refl _) (.cells #[.string (intS (c.f j))] 9)))
        have HL := Lib.hid (lit1S w6 (intS (c.f j)))
        have HXa := Lib.hid (show Ext w3 (w6.alloc (.cells #[.string (intS (c.f j))] 9)) from (HXr.out.trans hE6).trans ((Below.refl _ _).alloc (Nat.le_refl _) _))
        have HPa := Lib.hid (fun h => ((HP.out h).ext hE6).al (.cells #[.string (intS (c.f j))] 9))
        have hz6 : w3.heap.size ≤ w6.heap.size := by have := hE6.size; have := HXr.out.size; omega
        clear hE6 hcj
        go_wp2_with (at_builtin; go_loud (refine Row.wpList_app2 RS _ rfl _ _ rfl w3.heap.size _ (2 + q) _ rfl HOa.out w6.heap.size _ 1 _ rfl HL.out (strs_one [_]) (by omega) (by simp; omega) ?_))
        intro a2 c2 w7 h7 g7
        have H7 := Lib.hid (show Row.Own RS w7 w3.heap.size (.slice a2 (2 + (q + 1)) c2) (2 + (q + 1)) ((headW c ++ numW c (q + 1)).map Value.string) from by
          rw [HJ.out, ← List.append_assoc, List.map_append]; exact h7)
        have HX7 := Lib.hid (Row.ext_grown HXa.out HOa.out (Nat.le_refl _) g7)
        have HP7 := Lib.hid (fun h => blk_grown (HPa.out h) g7 (blk_not_row (HPa.out h) (by decide) HOa.out))
        clear h7 g7
        go_wp2_with fail
        go_roundg (n - (q + 1))
        case measure => exact HM.out
        case rel => exact ⟨q + 1, hlt, by go_num, H7.out, HX7.out, HP7.out, Nat.le_refl _⟩
      · obtain rfl : q = n := by omega
        have d : decide ((q : Int) < (q : Int)) = false := decide_eq_false (by omega)
        have HW := Lib.hid (words_size HK.out)
        obtain ⟨t1, ht1⟩ : ∃ s, cat ⟨#[91]⟩ (intS c.bgn) = s := ⟨_, rfl⟩
        obtain ⟨t2, ht2⟩ : ∃ s, cat (intS c.end_) ⟨#[93]⟩ = s := ⟨_, rfl⟩
        obtain ⟨t3, ht3⟩ : ∃ s, cat ⟨#[64]⟩ (intS c.tick) = s := ⟨_, rfl⟩
        have z1 := intS_size HK.out.bgn
        have z2 := intS_size HK.out.end_
        have z3 := intS_size HK.out.tick
        have a1 := sum _ _ _ ht1 (by decide) (by omega)
        have a2 := sum _ _ _ ht2 (by omega) (by decide)
        have a3 := sum _ _ _ ht3 (by decide) (by omega)
        obtain ⟨t0, ht0⟩ : ∃ s, ansS c.ok = s := ⟨_, rfl⟩
        have HTl := Lib.hid (show tailW c = [⟨#[61]⟩, t0, intS c.val, t1, intS c.at_, t2, t3] by unfold tailW; rw [ht0, ht1, ht2, ht3])
        have HT0 := Lib.hid ht0
        clear z1 z2 z3 ht0 ht1 ht2 ht3 hg hlt
        go_wp2_with fail
        refine wp_region_segsE (fun W => Blk W w.heap.size (#[.int .i64 c.client, .int .i64 c.id, .int .i64 (c.f 0), .int .i64 (c.f 1), .int .i64 (c.f 2), .int .i64 (c.f 3), .int .i64 (c.f 4), .int .i64 c.bgn, .int .i64 c.at_, .int .i64 c.end_, .int .i64 c.tick, .bool c.ok, .int .i64 c.val]) 25) (.quiet [3, 1, 2, 1, 2, 2, 2, 1, 2, 2, 2, 5] (.alt 0 (.alt 0 (.alt 0 (.quiet [1, 8] (.alt 0 (.alt 0 (.quiet [1, 5] (.alt 0 (.quiet [1, 3] (.alt 0 (.alt 0 (.quiet [1] .done) .stop) .stop)) .stop)) .stop) .stop)) .stop) .stop) .stop)) (by kernel_rfl) (by kernel_rfl) (HC.out _ (HX.out.trans (Ext.drew wr))) ?_
        apply segE_quiet
        · intro W hW
          have hc : ∀ i, W.cell? ⟨w.heap.size, i, none⟩ = (#[.int .i64 c.client, .int .i64 c.id, .int .i64 (c.f 0), .int .i64 (c.f 1), .int .i64 (c.f 2), .int .i64 (c.f 3), .int .i64 (c.f 4), .int .i64 c.bgn, .int .i64 c.at_, .int .i64 c.end_, .int .i64 c.tick, .bool c.ok, .int .i64 c.val] : Array Value)[i]? := fun i => Blk.cells hW i
          simp only [runsT, runsF, rep, pick]
          go_wp2_with fail
          exact ⟨rfl, rfl⟩
        simp only [runsT, runsF, rep, left]
        refine segE_alt _ rfl ?_ ?_
        · skip
          go_wp2_with fail
          refine (answer_any c.ok _).mono ?_
          rw [show (if c.ok then (⟨#[111, 107]⟩ : ByteArray) else ⟨#[110, 111]⟩) = t0 from HT0.out]
          rintro e w' ⟨rfl, rfl⟩
          go_wp2_with fail
          refine ⟨HC.out _ (HX.out.trans (Ext.drew wr)), ?_⟩
          try dsimp only [List.eraseIdx]
          refine segE_alt _ rfl ?_ ?_
          · skip
            go_wp2_with fail
            refine (Int_any c.val HK.out.val _ (tab_ext HT.out (HX1.out.trans (HX.out.trans (Ext.drew wr))))).mono ?_
            rintro e y6 ⟨rfl, hE6⟩
            have HY6 := Lib.hid (show Ext w1 y6 from Ext.trans (HX.out.trans (Ext.drew wr)) hE6)
            have HZ6 := Lib.hid (show Ext wr y6 from Ext.trans (Ext.drew wr) hE6)
            clear hE6
            go_wp2_with fail
            refine ⟨HC.out _ HY6.out, ?_⟩
            try dsimp only [List.eraseIdx]
            refine segE_alt _ rfl ?_ ?_
            · skip
              go_wp2_with fail
              refine (Int_any c.bgn HK.out.bgn _ (tab_ext HT.out (HX1.out.trans HY6.out))).mono ?_
              rintro e y9 ⟨rfl, hE9⟩
              have HY9 := Lib.hid (show Ext w1 y9 from Ext.trans HY6.out hE9)
              have HZ9 := Lib.hid (show Ext wr y9 from Ext.trans HZ6.out hE9)
              clear hE9
              go_wp2_with fail
              refine ⟨HC.out _ HY9.out, ?_⟩
              try dsimp only [List.eraseIdx]
              apply segE_quiet
              · intro W hW
                simp only [runsT, runsF, rep, pick]
                go_wp2_with fail
                exact ⟨rfl, rfl⟩
              simp only [runsT, runsF, rep, left]
              refine segE_alt _ rfl ?_ ?_
              · skip
                go_wp2_with fail
                refine (Int_any c.at_ HK.out.at_ _ (tab_ext HT.out (HX1.out.trans HY9.out))).mono ?_
                rintro e y13 ⟨rfl, hE13⟩
                have HY13 := Lib.hid (show Ext w1 y13 from Ext.trans HY9.out hE13)
                have HZ13 := Lib.hid (show Ext wr y13 from Ext.trans HZ9.out hE13)
                clear hE13
                go_wp2_with fail
                refine ⟨HC.out _ HY13.out, ?_⟩
                try dsimp only [List.eraseIdx]
                refine segE_alt _ rfl ?_ ?_
                · skip
                  go_wp2_with fail
                  refine (Int_any c.end_ HK.out.end_ _ (tab_ext HT.out (HX1.out.trans HY13.out))).mono ?_
                  rintro e y16 ⟨rfl, hE16⟩
                  have HY16 := Lib.hid (show Ext w1 y16 from Ext.trans HY13.out hE16)
                  have HZ16 := Lib.hid (show Ext wr y16 from Ext.trans HZ13.out hE16)
                  clear hE16
                  go_wp2_with fail
                  refine ⟨HC.out _ HY16.out, ?_⟩
                  try dsimp only [List.eraseIdx]
                  apply segE_quiet
                  · intro W hW
                    simp only [runsT, runsF, rep, pick]
                    go_wp2_with fail
                    exact ⟨rfl, rfl⟩
                  simp only [runsT, runsF, rep, left]
                  refine segE_alt _ rfl ?_ ?_
                  · skip
                    go_wp2_with fail
                    refine (Int_any c.tick HK.out.tick _ (tab_ext HT.out (HX1.out.trans HY16.out))).mono ?_
                    rintro e y20 ⟨rfl, hE20⟩
                    have HY20 := Lib.hid (show Ext w1 y20 from Ext.trans HY16.out hE20)
                    have HZ20 := Lib.hid (show Ext wr y20 from Ext.trans HZ16.out hE20)
                    clear hE20
                    go_wp2_with fail
                    refine ⟨HC.out _ HY20.out, ?_⟩
                    try dsimp only [List.eraseIdx]
                    apply segE_quiet
                    · intro W hW
                      simp only [runsT, runsF, rep, pick]
                      go_wp2_with fail
                      exact ⟨rfl, rfl⟩
                    simp only [runsT, runsF, rep, left]
                    refine segE_alt _ rfl ?_ ?_
                    · skip
                      go_wp2_with fail
                      refine ⟨(HC.out _ HY20.out).al _, ?_⟩
                      try dsimp only [List.eraseIdx]
                      refine segE_alt _ rfl ?_ ?_
                      · skip
                        have HOa := Lib.hid (((HO.out.ext HZ20.out).ext ((Below.refl _ _).alloc (Nat.le_refl _) (.cells #[.string ⟨#[61]⟩, .string t0, .string (intS c.val), .string t1, .string (intS c.at_), .string t2, .string t3] 9))))
                        have HL := Lib.hid (own_litS y20 #[.string ⟨#[61]⟩, .string t0, .string (intS c.val), .string t1, .string (intS c.at_), .string t2, .string t3] 7 rfl (by decide))
                        have HXa := Lib.hid (show Ext w3 (y20.alloc (.cells #[.string ⟨#[61]⟩, .string t0, .string (intS c.val), .string t1, .string (intS c.at_), .string t2, .string t3] 9)) from (HXr.out.trans HZ20.out).trans ((Below.refl _ _).alloc (Nat.le_refl _) _))
                        have hz20 : w3.heap.size ≤ y20.heap.size := by have := HZ20.out.size; have := HXr.out.size; omega
                        go_wp2_with (at_builtin; go_loud (refine Row.wpList_app2 RS _ rfl _ _ rfl w3.heap.size _ (2 + q) _ rfl HOa.out y20.heap.size _ 7 _ rfl HL.out (strs_one [⟨#[61]⟩, t0, intS c.val, t1, intS c.at_, t2, t3]) (by omega) (by simp; omega) ?_))
                        intro b2 d2 w7 h7 g7
                        have H7 := Lib.hid (show Row.Own RS w7 w3.heap.size (.slice b2 (2 + q + 7) d2) (2 + q + 7) ((wordsW c).map Value.string) from by
                          unfold wordsW
                          rw [HTl.out, HNn.out, List.map_append]; exact h7)
                        have HX7 := Lib.hid (Row.ext_grown HXa.out HOa.out (Nat.le_refl _) g7)
                        clear h7 g7
                        go_wp2_with fail
                        refine ⟨HC.out _ (HX3.out.trans HX7.out), ?_⟩
                        try dsimp only [List.eraseIdx]
                        apply segE_quiet
                        · intro W hW
                          simp only [runsT, runsF, rep, pick]
                          go_wp2_with fail
                          exact ⟨rfl, rfl⟩
                        simp only [runsT, runsF, rep, left]
                        apply segE_done
                        go_wp2_with fail
                        obtain ⟨a, cap, bk, hv, hle, _, ha, hbk, hcl⟩ := Row.Own.open' H7.out
                        obtain ⟨rfl, rfl⟩ : b2 = a ∧ d2 = cap := by simpa using hv
                        obtain rfl := ha (by omega)
                        have hlen : (wordsW c).length = 2 + q + 7 := by have := H7.out.1; simpa [RS] using this
                        have hj := Tryd.strings_Join bk 0 d2 (wordsW c) ⟨#[32]⟩ w7 (fun j x hx => by
                          have hjl : j < 2 + q + 7 := by rw [← hlen]; exact (List.getElem?_eq_some_iff.1 hx).1
                          have := hcl w7 (Ext.refl _) j (by simpa [RS] using hjl)
                          rw [Nat.zero_add, this]
                          simp [hx]) (hbk (by omega)).2 (by omega) (by omega) (by
                            have h1 := join_len [32] 43 ((wordsW c).map (·.data.toList)) (fun x hx => by
                              simp only [List.mem_map] at hx
                              obtain ⟨y, hy, rfl⟩ := hx
                              have := HW.out y hy
                              have e : y.data.toList.length = y.size := Array.length_toList
                              omega)
                            rw [List.length_map, hlen] at h1
                            have e : ([32] : List UInt8).length = 1 := rfl
                            rw [e] at h1
                            show (join _ [32]).length ≤ _
                            have : (2 + q + 7) * (1 + 43) ≤ 13 * 44 := Nat.mul_le_mul (by omega) (by omega)
                            omega)
                        rw [hlen] at hj
                        refine hj.mono ?_
                        rintro e w8 ⟨rfl, hE8⟩
                        have HX8 := Lib.hid (((HX1.out.trans HX3.out).trans HX7.out).trans hE8)
                        clear hE8 hj hcl hbk hv hle ha hlen
                        go_wp2_with fail
                        go_ret
                        exact ⟨rfl, HX8.out⟩
                      exact segE_stop
                    exact segE_stop
                  exact segE_stop
                exact segE_stop
              exact segE_stop
            exact segE_stop
          exact segE_stop
        exact segE_stop
  · rw [if_neg hr]
    have HR := Lib.hid (show rightB c.f = false by simpa using hr)
    clear hr
    go_enter Tryd.func5, Tryd.ntmps5
    go_wp2_with fail
    refine (Right_any c.f _).mono ?_
    rw [HR.out]
    rintro e w1 ⟨rfl, hE1⟩
    have HX1 := Lib.hid (HB.out.2.trans hE1)
    clear hE1
    go_wp2_with fail
    go_ret
    exact ⟨rfl, HX1.out⟩
end Go.Proofs.YtjlomdhaigejhaaDoor.Trc
