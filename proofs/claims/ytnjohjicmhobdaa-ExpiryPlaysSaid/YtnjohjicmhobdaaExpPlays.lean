/-
  ExpiryPlays: the walk of the law, out of the contracts of package expiry and of the document's answer.
  At most 40 steps (the law's own guard); no other condition.
-/
import Derived.Test.YtnjohjicmhobdaaExpM
namespace Go.Proofs.Ytnjohjicmhobdaa.Exi
open Go.RowKit Go.Shelf Go.Seg Go.Open Go.Lib Rk Ex
attribute [local go_sem] Oper.semAt_some

theorem take_self {α : Type} (y : List α) (m : Nat) : y.take (y.take m).length = y.take m := by
  by_cases h : m ≤ y.length
  · rw [List.length_take, Nat.min_eq_left h]
  · rw [List.take_of_length_le (show y.length ≤ m by omega), List.take_length]

set_option maxRecDepth 100000 in
set_option maxHeartbeats 16000000 in
theorem plays_walk (a : Option Addr) (len cap : Nat) (b off : Nat) (F : Nat → Int × Int × Int) (now most : Int) (w : World) (ha : 0 < len → a = some ⟨b, off, none⟩) (hl : len ≤ maxLen) (hF0 : ∀ i, i < len → 0 ≤ (F i).1)
    (hF : ∀ W, Below w.heap.size w W → ∀ i, i < len → W.cell? ⟨b, off + i * 3, none⟩ = some (.int .u64 (F i).1) ∧ W.cell? ⟨b, off + i * 3 + 1, none⟩ = some (.int .u64 (F i).2.1) ∧ W.cell? ⟨b, off + i * 3 + 2, none⟩ = some (.int .i64 (F i).2.2)) (hm0 : 0 ≤ most) (hm1 : most < 18446744073709551616) :
    Calls Try.prog 7 #[.slice a len cap, .int .i64 now, .int .u64 most] w fun e w' => e = .returned (.bool true) ∧ Below w.heap.size w w' := by
  have HA := Lib.hid ha
  have HF := Lib.hid hF
  have HF0 := Lib.hid hF0
  clear ha hF hF0
  unfold maxLen at hl
  by_cases h40 : (len : Int) > 40
  · have hd40 : decide ((len : Int) > 40) = true := decide_eq_true h40
    clear h40
    go_enter Try.func7, Try.ntmps7
    go_wp2_with fail
    refine (awake_any _).mono ?_
    rintro e w1 ⟨rfl, hE⟩
    go_wp2_with fail
    go_ret
    exact ⟨rfl, hE⟩
  · have h40' : len ≤ 40 := by omega
    have hd40 : decide ((len : Int) > 40) = false := decide_eq_false h40
    clear h40
    obtain ⟨m, hm⟩ : ∃ m : Nat, most % 45 = (m : Int) := ⟨(most % 45).toNat, by omega⟩
    have hm45 : m < 45 := by omega
    have HM := Lib.hid hm
    clear hm
    go_enter Try.func7, Try.ntmps7
    go_wp2_with fail
    refine (New_idx _).mono ?_
    rintro e w1 ⟨bk, rfl, hbk, hI, hE⟩
    have HS0 := Lib.hid (show St w bk [] [] (.slice none 0 0) w1 from ⟨hI, RowE.nil _ _, hE⟩)
    clear hI hE
    go_wp2_with fail
    go_loopg [8, 9, 10, 11, 12, 13, 14, 15] len (fun g u i _ _ _ _ _ _ wr => ∃ (k : Nat) (y : List (Int × Int)), i = .int .i64 k ∧ k ≤ len ∧ St w bk y y u wr ∧ y.length ≤ k ∧ len - k ≤ g)
    case atStart => exact ⟨0, [], rfl, Nat.zero_le _, HS0.out, by simp, Nat.le_refl _⟩
    case round =>
      obtain ⟨k, y, rfl, hk, hS, hyl, hg⟩ := hrel
      have HS := Lib.hid hS
      have hEn := hS.idx.ends
      have HEn := Lib.hid hEn
      obtain ⟨au, cu, rfl⟩ := hS.row.val
      by_cases hik : k < len
      · have HK := Lib.hid (fun W (h : Below w.heap.size w W) => HF.out W h k hik)
        obtain rfl := HA.out (by omega)
        have hk0 := HF0.out k hik
        have hk3 : (F k).1 % 3 = 0 ∨ (F k).1 % 3 = 1 ∨ (F k).1 % 3 = 2 := by omega
        obtain ⟨x0, x1, x2⟩ := HK.out _ hS.ext
        clear hS hEn
        --A<
        rcases hk3 with hk3 | hk3 | hk3
        · have HSd := Lib.hid (HS.out.step (Ext.drew wr))
          go_wp2_with fail
          refine wp_region_segsK [([5, 1, 4, 2], 0, 0), ([2, 1], 2, 11), ([1], 1, 0)] (by kernel_rfl) (by kernel_rfl) ?_
          apply segsK_pure
          · intro W
            simp only [runsT, runsF, rep, pick]
            go_wp2_with fail
            exact ⟨rfl, rfl⟩
          simp only [runsT, runsF, rep, left]
          apply segsK_look
          · obtain ⟨x0, x1, x2⟩ := HK.out _ HSd.out.ext
            simp only [runsT, runsF, rep, pick]
            go_wp2_with fail
            exact ⟨rfl, rfl⟩
          simp only [runsT, runsF, rep, left]
          apply segsK_op
          go_wp2_with fail
          refine (Put_any bk y _ _ _ HSd.out.idx (by omega)).mono ?_
          rintro e w2 ⟨rfl, hI2, hC2⟩
          have HS2 := Lib.hid (HSd.out.chg hI2 hC2 hbk)
          clear hI2 hC2 x0 x1 x2
          go_wp2_with fail
          refine ⟨fun h => (by cases h), ?_⟩
          apply segsK_nil
          have HY := Lib.hid HS2.out.idx.ends
          have HS2d := Lib.hid (HS2.out.step (Ext.drew w2))
          go_wp2_with fail
          refine wp_region_segsK [([5, 1, 4, 3], 0, 0), ([2, 2], 2, 11), ([1, 1], 1, 0), ([1], 0, 0)] (by kernel_rfl) (by kernel_rfl) ?_
          apply segsK_pure
          · intro W
            simp only [runsT, runsF, rep, pick]
            go_wp2_with fail
            exact ⟨rfl, rfl⟩
          simp only [runsT, runsF, rep, left]
          apply segsK_look
          · obtain ⟨x0, x1, x2⟩ := HK.out _ HS2d.out.ext
            simp only [runsT, runsF, rep, pick]
            go_wp2_with fail
            exact ⟨rfl, rfl⟩
          simp only [runsT, runsF, rep, left]
          apply segsK_op
          go_wp2_with fail
          refine (rPut _ w.heap.size y _ _ _ HS2d.out.row (by omega) HEn.out).mono ?_
          have hpl := refPut_len y (F k).2.1 (F k).2.2
          obtain ⟨Y, hY⟩ : ∃ Y, refPut y (F k).2.1 (F k).2.2 = Y := ⟨_, rfl⟩
          rw [hY] at HS2d HY hpl ⊢
          rintro e w3 ⟨u3, rfl, hR3, hE3⟩
          have HS3 := Lib.hid (HS2d.out.new hR3 hE3)
          have HEY := Lib.hid HS3.out.idx.ends
          obtain ⟨a3, c3, rfl⟩ := hR3.val
          clear hR3 hE3 HY hY
          go_wp2_with fail
          refine ⟨fun h => (by cases h), ?_⟩
          apply segsK_pure
          · intro W
            simp only [runsT, runsF, rep, pick]
            go_wp2_with fail
            exact ⟨rfl, rfl⟩
          simp only [runsT, runsF, rep, left]
          apply segsK_nil
          obtain ⟨x0, x1, x2⟩ := HK.out _ HS3.out.ext
          go_wp2_with fail
          obtain ⟨D, hD⟩ : ∃ D, dueL (F k).2.2 Y = D := ⟨_, rfl⟩
          have HD := Lib.hid hD
          have hDl : D.length ≤ Y.length := by rw [← hD]; exact List.length_filter_le _ _
          clear hD
          cases D with
          | nil =>
            refine (First_any bk _ _ _ HS3.out.idx).mono ?_
            rw [HD.out]
            simp only [firstV]
            rintro e w5 ⟨rfl, hE5⟩
            have HT5 := Lib.hid (HS3.out.step hE5)
            clear hE5 x0 x1 x2
            obtain ⟨x0, x1, x2⟩ := HK.out _ HT5.out.ext
            go_wp2_with fail
            refine (rDue _ w.heap.size Y _ _ HT5.out.row (by omega) HEY.out).mono ?_
            rw [HD.out]
            rintro e w6 ⟨u6, rfl, hR6, hE6⟩
            obtain ⟨a6, c6, b6, F6, rfl, ha6, hF6, hc6⟩ := hR6.openR
            have HT6 := Lib.hid (HT5.out.step hE6)
            have HT6d := Lib.hid (HT6.out.step (Ext.drew w6))
            clear hR6 hE6 ha6 hF6 hc6 x0 x1 x2
            go_wp2_with fail
            refine wp_region_segsK [([1, 1, 2, 25], 0, 0), ([1, 25], 1, 0), ([3, 1, 1, 20], 0, 0), ([1, 20], 1, 0), ([1, 19], 1, 0), ([8, 2, 5, 4], 0, 0), ([1, 1, 1, 3], 3, 26), ([1, 2], 1, 0), ([2], 0, 0)] (by kernel_rfl) (by kernel_rfl) ?_
            apply segsK_pure
            · intro W
              simp only [runsT, runsF, rep, pick]
              go_wp2_with fail
              exact ⟨rfl, rfl⟩
            simp only [runsT, runsF, rep, left]
            apply segsK_op
            go_wp2_with fail
            refine (Len_idx bk _ _ HT6d.out.idx).mono ?_
            rintro e w7 ⟨rfl, rfl⟩
            go_wp2_with fail
            refine ⟨fun h => (by cases h), ?_⟩
            apply segsK_pure
            · intro W
              simp only [runsT, runsF, rep, pick]
              go_wp2_with fail
              exact ⟨rfl, rfl⟩
            simp only [runsT, runsF, rep, left]
            apply segsK_op
            go_wp2_with fail
            refine (Buckets_idx bk _ _ HT6d.out.idx).mono ?_
            rintro e w7 ⟨rfl, rfl⟩
            go_wp2_with fail
            refine ⟨fun h => (by cases h), ?_⟩
            apply segsK_op
            go_wp2_with fail
            refine (rBuckets _ w.heap.size Y _ HT6d.out.row (by omega) HEY.out).mono ?_
            rintro e w8 ⟨rfl, hE8⟩
            have HT8 := Lib.hid (HT6d.out.step hE8)
            clear hE8
            go_wp2_with fail
            refine ⟨fun h => (by cases h), ?_⟩
            apply segsK_pure
            · intro W
              simp only [runsT, runsF, rep, pick]
              go_wp2_with fail
              exact ⟨rfl, rfl⟩
            simp only [runsT, runsF, rep, left]
            apply segsK_class
            · intro W hW
              obtain ⟨x0, x1, x2⟩ := HK.out _ (below_ext HT8.out.ext hW)
              simp only [runsT, runsF, rep, pick]
              go_wp2_with fail
              exact ⟨rfl, rfl⟩
            simp only [runsT, runsF, rep, left]
            go_wp2_with fail
            refine (End_any bk Y _ _ HT8.out.idx (by omega)).mono ?_
            rintro e w9 ⟨rfl, hE9⟩
            have HT9 := Lib.hid (HT8.out.step hE9)
            go_wp2_with fail
            refine ⟨fun _ => hE9, ?_⟩
            apply segsK_op
            go_wp2_with fail
            refine (rEnd _ w.heap.size Y _ _ HT9.out.row (by omega)).mono ?_
            rintro e w10 ⟨rfl, rfl⟩
            go_wp2_with fail
            refine ⟨fun h => (by cases h), ?_⟩
            apply segsK_pure
            · intro W
              simp only [runsT, runsF, rep, pick]
              go_wp2_with fail
              exact ⟨rfl, rfl⟩
            simp only [runsT, runsF, rep, left]
            apply segsK_nil
            go_wp2_with fail
            go_roundg (len - (k + 1))
            case measure => omega
            case rel => exact ⟨k + 1, Y, by go_num, by omega, HT9.out, by omega, Nat.le_refl _⟩
          | cons d D =>
            refine (First_any bk _ _ _ HS3.out.idx).mono ?_
            rw [HD.out]
            simp only [firstV]
            rintro e w5 ⟨rfl, hE5⟩
            have HT5 := Lib.hid (HS3.out.step hE5)
            clear hE5 x0 x1 x2
            obtain ⟨x0, x1, x2⟩ := HK.out _ HT5.out.ext
            go_wp2_with fail
            refine (rDue _ w.heap.size Y _ _ HT5.out.row (by omega) HEY.out).mono ?_
            rw [HD.out]
            rintro e w6 ⟨u6, rfl, hR6, hE6⟩
            obtain ⟨a6, c6, b6, F6, rfl, ha6, hF6, hc6⟩ := hR6.openR
            have HT6 := Lib.hid (HT5.out.step hE6)
            have HT6d := Lib.hid (HT6.out.step (Ext.drew w6))
            obtain rfl := ha6 (by simp)
            have hc0 := hc6 w6 (Ext.refl _) 0 (by simp)
            rw [hF6 0 (by simp)] at hc0
            have y0 : w6.cell? ⟨b6, 0, none⟩ = some (.int .u64 d.1) := by simpa using hc0.1
            have y1 : w6.cell? ⟨b6, 1, none⟩ = some (.int .i64 d.2) := by simpa using hc0.2
            have n1 : (d.1 != d.1) = false := by simp
            have n2 : (d.2 != d.2) = false := by simp
            have n3 : decide (((D.length + 1 : Nat) : Int) > 0) = true := decide_eq_true (by omega)
            clear hc0
            clear hR6 hE6 ha6 hF6 hc6 x0 x1 x2
            go_wp2_with fail
            refine wp_region_segsK [([1, 1, 2, 25], 0, 0), ([1, 25], 1, 0), ([3, 1, 1, 20], 0, 0), ([1, 20], 1, 0), ([1, 19], 1, 0), ([8, 2, 5, 4], 0, 0), ([1, 1, 1, 3], 3, 26), ([1, 2], 1, 0), ([2], 0, 0)] (by kernel_rfl) (by kernel_rfl) ?_
            apply segsK_pure
            · intro W
              simp only [runsT, runsF, rep, pick]
              go_wp2_with fail
              exact ⟨rfl, rfl⟩
            simp only [runsT, runsF, rep, left]
            apply segsK_op
            go_wp2_with fail
            refine (Len_idx bk _ _ HT6d.out.idx).mono ?_
            rintro e w7 ⟨rfl, rfl⟩
            go_wp2_with fail
            refine ⟨fun h => (by cases h), ?_⟩
            apply segsK_pure
            · intro W
              simp only [runsT, runsF, rep, pick]
              go_wp2_with fail
              exact ⟨rfl, rfl⟩
            simp only [runsT, runsF, rep, left]
            apply segsK_op
            go_wp2_with fail
            refine (Buckets_idx bk _ _ HT6d.out.idx).mono ?_
            rintro e w7 ⟨rfl, rfl⟩
            go_wp2_with fail
            refine ⟨fun h => (by cases h), ?_⟩
            apply segsK_op
            go_wp2_with fail
            refine (rBuckets _ w.heap.size Y _ HT6d.out.row (by omega) HEY.out).mono ?_
            rintro e w8 ⟨rfl, hE8⟩
            have HT8 := Lib.hid (HT6d.out.step hE8)
            clear hE8
            go_wp2_with fail
            refine ⟨fun h => (by cases h), ?_⟩
            apply segsK_pure
            · intro W
              simp only [runsT, runsF, rep, pick]
              go_wp2_with fail
              exact ⟨rfl, rfl⟩
            simp only [runsT, runsF, rep, left]
            apply segsK_class
            · intro W hW
              obtain ⟨x0, x1, x2⟩ := HK.out _ (below_ext HT8.out.ext hW)
              simp only [runsT, runsF, rep, pick]
              go_wp2_with fail
              exact ⟨rfl, rfl⟩
            simp only [runsT, runsF, rep, left]
            go_wp2_with fail
            refine (End_any bk Y _ _ HT8.out.idx (by omega)).mono ?_
            rintro e w9 ⟨rfl, hE9⟩
            have HT9 := Lib.hid (HT8.out.step hE9)
            go_wp2_with fail
            refine ⟨fun _ => hE9, ?_⟩
            apply segsK_op
            go_wp2_with fail
            refine (rEnd _ w.heap.size Y _ _ HT9.out.row (by omega)).mono ?_
            rintro e w10 ⟨rfl, rfl⟩
            go_wp2_with fail
            refine ⟨fun h => (by cases h), ?_⟩
            apply segsK_pure
            · intro W
              simp only [runsT, runsF, rep, pick]
              go_wp2_with fail
              exact ⟨rfl, rfl⟩
            simp only [runsT, runsF, rep, left]
            apply segsK_nil
            go_wp2_with fail
            go_roundg (len - (k + 1))
            case measure => omega
            case rel => exact ⟨k + 1, Y, by go_num, by omega, HT9.out, by omega, Nat.le_refl _⟩
        · have hrs := rest_same (k := (F k).2.1) HEn.out
          obtain ⟨g3, hg3⟩ : ∃ g3, decide (endOf y (F k).2.1 ≠ 0) = g3 := ⟨_, rfl⟩
          rw [hg3] at hrs
          have HG1 := Lib.hid hrs
          have HG2 := Lib.hid hg3
          have n0 : (g3 != g3) = false := by simp
          have hpl := rest_len y (F k).2.1
          clear hrs hg3
          go_wp2_with fail
          refine (rDrop _ w.heap.size y _ _ HS.out.row (by omega)).mono ?_
          rw [HG1.out]
          rintro e w2 ⟨u2, rfl, hR2, hE2⟩
          have HS2 := Lib.hid (HS.out.new hR2 hE2)
          obtain ⟨a2, c2, rfl⟩ := hR2.val
          clear hR2 hE2 x0 x1 x2
          obtain ⟨x0, x1, x2⟩ := HK.out _ HS2.out.ext
          go_wp2_with fail
          refine (Drop_any bk y _ _ HS2.out.idx (by omega)).mono ?_
          rw [HG2.out]
          rintro e w3 ⟨rfl, hI3, hC3⟩
          have HS3 := Lib.hid (HS2.out.chg hI3 hC3 hbk)
          have HEY := Lib.hid hI3.ends
          clear hI3 hC3 x0 x1 x2
          obtain ⟨x0, x1, x2⟩ := HK.out _ HS3.out.ext
          obtain ⟨Y, hY⟩ : ∃ Y, rest y (F k).2.1 = Y := ⟨_, rfl⟩
          rw [hY] at HS3 HEY hpl ⊢
          clear hY HS2
          go_wp2_with fail
          obtain ⟨D, hD⟩ : ∃ D, dueL (F k).2.2 Y = D := ⟨_, rfl⟩
          have HD := Lib.hid hD
          have hDl : D.length ≤ Y.length := by rw [← hD]; exact List.length_filter_le _ _
          clear hD
          cases D with
          | nil =>
            refine (First_any bk _ _ _ HS3.out.idx).mono ?_
            rw [HD.out]
            simp only [firstV]
            rintro e w5 ⟨rfl, hE5⟩
            have HT5 := Lib.hid (HS3.out.step hE5)
            clear hE5 x0 x1 x2
            obtain ⟨x0, x1, x2⟩ := HK.out _ HT5.out.ext
            go_wp2_with fail
            refine (rDue _ w.heap.size Y _ _ HT5.out.row (by omega) HEY.out).mono ?_
            rw [HD.out]
            rintro e w6 ⟨u6, rfl, hR6, hE6⟩
            obtain ⟨a6, c6, b6, F6, rfl, ha6, hF6, hc6⟩ := hR6.openR
            have HT6 := Lib.hid (HT5.out.step hE6)
            have HT6d := Lib.hid (HT6.out.step (Ext.drew w6))
            clear hR6 hE6 ha6 hF6 hc6 x0 x1 x2
            go_wp2_with fail
            refine wp_region_segsK [([1, 1, 2, 25], 0, 0), ([1, 25], 1, 0), ([3, 1, 1, 20], 0, 0), ([1, 20], 1, 0), ([1, 19], 1, 0), ([8, 2, 5, 4], 0, 0), ([1, 1, 1, 3], 3, 26), ([1, 2], 1, 0), ([2], 0, 0)] (by kernel_rfl) (by kernel_rfl) ?_
            apply segsK_pure
            · intro W
              simp only [runsT, runsF, rep, pick]
              go_wp2_with fail
              exact ⟨rfl, rfl⟩
            simp only [runsT, runsF, rep, left]
            apply segsK_op
            go_wp2_with fail
            refine (Len_idx bk _ _ HT6d.out.idx).mono ?_
            rintro e w7 ⟨rfl, rfl⟩
            go_wp2_with fail
            refine ⟨fun h => (by cases h), ?_⟩
            apply segsK_pure
            · intro W
              simp only [runsT, runsF, rep, pick]
              go_wp2_with fail
              exact ⟨rfl, rfl⟩
            simp only [runsT, runsF, rep, left]
            apply segsK_op
            go_wp2_with fail
            refine (Buckets_idx bk _ _ HT6d.out.idx).mono ?_
            rintro e w7 ⟨rfl, rfl⟩
            go_wp2_with fail
            refine ⟨fun h => (by cases h), ?_⟩
            apply segsK_op
            go_wp2_with fail
            refine (rBuckets _ w.heap.size Y _ HT6d.out.row (by omega) HEY.out).mono ?_
            rintro e w8 ⟨rfl, hE8⟩
            have HT8 := Lib.hid (HT6d.out.step hE8)
            clear hE8
            go_wp2_with fail
            refine ⟨fun h => (by cases h), ?_⟩
            apply segsK_pure
            · intro W
              simp only [runsT, runsF, rep, pick]
              go_wp2_with fail
              exact ⟨rfl, rfl⟩
            simp only [runsT, runsF, rep, left]
            apply segsK_class
            · intro W hW
              obtain ⟨x0, x1, x2⟩ := HK.out _ (below_ext HT8.out.ext hW)
              simp only [runsT, runsF, rep, pick]
              go_wp2_with fail
              exact ⟨rfl, rfl⟩
            simp only [runsT, runsF, rep, left]
            go_wp2_with fail
            refine (End_any bk Y _ _ HT8.out.idx (by omega)).mono ?_
            rintro e w9 ⟨rfl, hE9⟩
            have HT9 := Lib.hid (HT8.out.step hE9)
            go_wp2_with fail
            refine ⟨fun _ => hE9, ?_⟩
            apply segsK_op
            go_wp2_with fail
            refine (rEnd _ w.heap.size Y _ _ HT9.out.row (by omega)).mono ?_
            rintro e w10 ⟨rfl, rfl⟩
            go_wp2_with fail
            refine ⟨fun h => (by cases h), ?_⟩
            apply segsK_pure
            · intro W
              simp only [runsT, runsF, rep, pick]
              go_wp2_with fail
              exact ⟨rfl, rfl⟩
            simp only [runsT, runsF, rep, left]
            apply segsK_nil
            go_wp2_with fail
            go_roundg (len - (k + 1))
            case measure => omega
            case rel => exact ⟨k + 1, Y, by go_num, by omega, HT9.out, by omega, Nat.le_refl _⟩
          | cons d D =>
            refine (First_any bk _ _ _ HS3.out.idx).mono ?_
            rw [HD.out]
            simp only [firstV]
            rintro e w5 ⟨rfl, hE5⟩
            have HT5 := Lib.hid (HS3.out.step hE5)
            clear hE5 x0 x1 x2
            obtain ⟨x0, x1, x2⟩ := HK.out _ HT5.out.ext
            go_wp2_with fail
            refine (rDue _ w.heap.size Y _ _ HT5.out.row (by omega) HEY.out).mono ?_
            rw [HD.out]
            rintro e w6 ⟨u6, rfl, hR6, hE6⟩
            obtain ⟨a6, c6, b6, F6, rfl, ha6, hF6, hc6⟩ := hR6.openR
            have HT6 := Lib.hid (HT5.out.step hE6)
            have HT6d := Lib.hid (HT6.out.step (Ext.drew w6))
            obtain rfl := ha6 (by simp)
            have hc0 := hc6 w6 (Ext.refl _) 0 (by simp)
            rw [hF6 0 (by simp)] at hc0
            have y0 : w6.cell? ⟨b6, 0, none⟩ = some (.int .u64 d.1) := by simpa using hc0.1
            have y1 : w6.cell? ⟨b6, 1, none⟩ = some (.int .i64 d.2) := by simpa using hc0.2
            have n1 : (d.1 != d.1) = false := by simp
            have n2 : (d.2 != d.2) = false := by simp
            have n3 : decide (((D.length + 1 : Nat) : Int) > 0) = true := decide_eq_true (by omega)
            clear hc0
            clear hR6 hE6 ha6 hF6 hc6 x0 x1 x2
            go_wp2_with fail
            refine wp_region_segsK [([1, 1, 2, 25], 0, 0), ([1, 25], 1, 0), ([3, 1, 1, 20], 0, 0), ([1, 20], 1, 0), ([1, 19], 1, 0), ([8, 2, 5, 4], 0, 0), ([1, 1, 1, 3], 3, 26), ([1, 2], 1, 0), ([2], 0, 0)] (by kernel_rfl) (by kernel_rfl) ?_
            apply segsK_pure
            · intro W
              simp only [runsT, runsF, rep, pick]
              go_wp2_with fail
              exact ⟨rfl, rfl⟩
            simp only [runsT, runsF, rep, left]
            apply segsK_op
            go_wp2_with fail
            refine (Len_idx bk _ _ HT6d.out.idx).mono ?_
            rintro e w7 ⟨rfl, rfl⟩
            go_wp2_with fail
            refine ⟨fun h => (by cases h), ?_⟩
            apply segsK_pure
            · intro W
              simp only [runsT, runsF, rep, pick]
              go_wp2_with fail
              exact ⟨rfl, rfl⟩
            simp only [runsT, runsF, rep, left]
            apply segsK_op
            go_wp2_with fail
            refine (Buckets_idx bk _ _ HT6d.out.idx).mono ?_
            rintro e w7 ⟨rfl, rfl⟩
            go_wp2_with fail
            refine ⟨fun h => (by cases h), ?_⟩
            apply segsK_op
            go_wp2_with fail
            refine (rBuckets _ w.heap.size Y _ HT6d.out.row (by omega) HEY.out).mono ?_
            rintro e w8 ⟨rfl, hE8⟩
            have HT8 := Lib.hid (HT6d.out.step hE8)
            clear hE8
            go_wp2_with fail
            refine ⟨fun h => (by cases h), ?_⟩
            apply segsK_pure
            · intro W
              simp only [runsT, runsF, rep, pick]
              go_wp2_with fail
              exact ⟨rfl, rfl⟩
            simp only [runsT, runsF, rep, left]
            apply segsK_class
            · intro W hW
              obtain ⟨x0, x1, x2⟩ := HK.out _ (below_ext HT8.out.ext hW)
              simp only [runsT, runsF, rep, pick]
              go_wp2_with fail
              exact ⟨rfl, rfl⟩
            simp only [runsT, runsF, rep, left]
            go_wp2_with fail
            refine (End_any bk Y _ _ HT8.out.idx (by omega)).mono ?_
            rintro e w9 ⟨rfl, hE9⟩
            have HT9 := Lib.hid (HT8.out.step hE9)
            go_wp2_with fail
            refine ⟨fun _ => hE9, ?_⟩
            apply segsK_op
            go_wp2_with fail
            refine (rEnd _ w.heap.size Y _ _ HT9.out.row (by omega)).mono ?_
            rintro e w10 ⟨rfl, rfl⟩
            go_wp2_with fail
            refine ⟨fun h => (by cases h), ?_⟩
            apply segsK_pure
            · intro W
              simp only [runsT, runsF, rep, pick]
              go_wp2_with fail
              exact ⟨rfl, rfl⟩
            simp only [runsT, runsF, rep, left]
            apply segsK_nil
            go_wp2_with fail
            go_roundg (len - (k + 1))
            case measure => omega
            case rel => exact ⟨k + 1, Y, by go_num, by omega, HT9.out, by omega, Nat.le_refl _⟩
        · have HEY := HEn
          go_wp2_with fail
          obtain ⟨D, hD⟩ : ∃ D, dueL (F k).2.2 y = D := ⟨_, rfl⟩
          have HD := Lib.hid hD
          have hDl : D.length ≤ y.length := by rw [← hD]; exact List.length_filter_le _ _
          clear hD
          cases D with
          | nil =>
            refine (First_any bk _ _ _ HS.out.idx).mono ?_
            rw [HD.out]
            simp only [firstV]
            rintro e w5 ⟨rfl, hE5⟩
            have HT5 := Lib.hid (HS.out.step hE5)
            clear hE5 x0 x1 x2
            obtain ⟨x0, x1, x2⟩ := HK.out _ HT5.out.ext
            go_wp2_with fail
            refine (rDue _ w.heap.size y _ _ HT5.out.row (by omega) HEY.out).mono ?_
            rw [HD.out]
            rintro e w6 ⟨u6, rfl, hR6, hE6⟩
            obtain ⟨a6, c6, b6, F6, rfl, ha6, hF6, hc6⟩ := hR6.openR
            have HT6 := Lib.hid (HT5.out.step hE6)
            have HT6d := Lib.hid (HT6.out.step (Ext.drew w6))
            clear hR6 hE6 ha6 hF6 hc6 x0 x1 x2
            go_wp2_with fail
            refine wp_region_segsK [([1, 1, 2, 25], 0, 0), ([1, 25], 1, 0), ([3, 1, 1, 20], 0, 0), ([1, 20], 1, 0), ([1, 19], 1, 0), ([8, 2, 5, 4], 0, 0), ([1, 1, 1, 3], 3, 26), ([1, 2], 1, 0), ([2], 0, 0)] (by kernel_rfl) (by kernel_rfl) ?_
            apply segsK_pure
            · intro W
              simp only [runsT, runsF, rep, pick]
              go_wp2_with fail
              exact ⟨rfl, rfl⟩
            simp only [runsT, runsF, rep, left]
            apply segsK_op
            go_wp2_with fail
            refine (Len_idx bk _ _ HT6d.out.idx).mono ?_
            rintro e w7 ⟨rfl, rfl⟩
            go_wp2_with fail
            refine ⟨fun h => (by cases h), ?_⟩
            apply segsK_pure
            · intro W
              simp only [runsT, runsF, rep, pick]
              go_wp2_with fail
              exact ⟨rfl, rfl⟩
            simp only [runsT, runsF, rep, left]
            apply segsK_op
            go_wp2_with fail
            refine (Buckets_idx bk _ _ HT6d.out.idx).mono ?_
            rintro e w7 ⟨rfl, rfl⟩
            go_wp2_with fail
            refine ⟨fun h => (by cases h), ?_⟩
            apply segsK_op
            go_wp2_with fail
            refine (rBuckets _ w.heap.size y _ HT6d.out.row (by omega) HEY.out).mono ?_
            rintro e w8 ⟨rfl, hE8⟩
            have HT8 := Lib.hid (HT6d.out.step hE8)
            clear hE8
            go_wp2_with fail
            refine ⟨fun h => (by cases h), ?_⟩
            apply segsK_pure
            · intro W
              simp only [runsT, runsF, rep, pick]
              go_wp2_with fail
              exact ⟨rfl, rfl⟩
            simp only [runsT, runsF, rep, left]
            apply segsK_class
            · intro W hW
              obtain ⟨x0, x1, x2⟩ := HK.out _ (below_ext HT8.out.ext hW)
              simp only [runsT, runsF, rep, pick]
              go_wp2_with fail
              exact ⟨rfl, rfl⟩
            simp only [runsT, runsF, rep, left]
            go_wp2_with fail
            refine (End_any bk y _ _ HT8.out.idx (by omega)).mono ?_
            rintro e w9 ⟨rfl, hE9⟩
            have HT9 := Lib.hid (HT8.out.step hE9)
            go_wp2_with fail
            refine ⟨fun _ => hE9, ?_⟩
            apply segsK_op
            go_wp2_with fail
            refine (rEnd _ w.heap.size y _ _ HT9.out.row (by omega)).mono ?_
            rintro e w10 ⟨rfl, rfl⟩
            go_wp2_with fail
            refine ⟨fun h => (by cases h), ?_⟩
            apply segsK_pure
            · intro W
              simp only [runsT, runsF, rep, pick]
              go_wp2_with fail
              exact ⟨rfl, rfl⟩
            simp only [runsT, runsF, rep, left]
            apply segsK_nil
            go_wp2_with fail
            go_roundg (len - (k + 1))
            case measure => omega
            case rel => exact ⟨k + 1, y, by go_num, by omega, HT9.out, by omega, Nat.le_refl _⟩
          | cons d D =>
            refine (First_any bk _ _ _ HS.out.idx).mono ?_
            rw [HD.out]
            simp only [firstV]
            rintro e w5 ⟨rfl, hE5⟩
            have HT5 := Lib.hid (HS.out.step hE5)
            clear hE5 x0 x1 x2
            obtain ⟨x0, x1, x2⟩ := HK.out _ HT5.out.ext
            go_wp2_with fail
            refine (rDue _ w.heap.size y _ _ HT5.out.row (by omega) HEY.out).mono ?_
            rw [HD.out]
            rintro e w6 ⟨u6, rfl, hR6, hE6⟩
            obtain ⟨a6, c6, b6, F6, rfl, ha6, hF6, hc6⟩ := hR6.openR
            have HT6 := Lib.hid (HT5.out.step hE6)
            have HT6d := Lib.hid (HT6.out.step (Ext.drew w6))
            obtain rfl := ha6 (by simp)
            have hc0 := hc6 w6 (Ext.refl _) 0 (by simp)
            rw [hF6 0 (by simp)] at hc0
            have y0 : w6.cell? ⟨b6, 0, none⟩ = some (.int .u64 d.1) := by simpa using hc0.1
            have y1 : w6.cell? ⟨b6, 1, none⟩ = some (.int .i64 d.2) := by simpa using hc0.2
            have n1 : (d.1 != d.1) = false := by simp
            have n2 : (d.2 != d.2) = false := by simp
            have n3 : decide (((D.length + 1 : Nat) : Int) > 0) = true := decide_eq_true (by omega)
            clear hc0
            clear hR6 hE6 ha6 hF6 hc6 x0 x1 x2
            go_wp2_with fail
            refine wp_region_segsK [([1, 1, 2, 25], 0, 0), ([1, 25], 1, 0), ([3, 1, 1, 20], 0, 0), ([1, 20], 1, 0), ([1, 19], 1, 0), ([8, 2, 5, 4], 0, 0), ([1, 1, 1, 3], 3, 26), ([1, 2], 1, 0), ([2], 0, 0)] (by kernel_rfl) (by kernel_rfl) ?_
            apply segsK_pure
            · intro W
              simp only [runsT, runsF, rep, pick]
              go_wp2_with fail
              exact ⟨rfl, rfl⟩
            simp only [runsT, runsF, rep, left]
            apply segsK_op
            go_wp2_with fail
            refine (Len_idx bk _ _ HT6d.out.idx).mono ?_
            rintro e w7 ⟨rfl, rfl⟩
            go_wp2_with fail
            refine ⟨fun h => (by cases h), ?_⟩
            apply segsK_pure
            · intro W
              simp only [runsT, runsF, rep, pick]
              go_wp2_with fail
              exact ⟨rfl, rfl⟩
            simp only [runsT, runsF, rep, left]
            apply segsK_op
            go_wp2_with fail
            refine (Buckets_idx bk _ _ HT6d.out.idx).mono ?_
            rintro e w7 ⟨rfl, rfl⟩
            go_wp2_with fail
            refine ⟨fun h => (by cases h), ?_⟩
            apply segsK_op
            go_wp2_with fail
            refine (rBuckets _ w.heap.size y _ HT6d.out.row (by omega) HEY.out).mono ?_
            rintro e w8 ⟨rfl, hE8⟩
            have HT8 := Lib.hid (HT6d.out.step hE8)
            clear hE8
            go_wp2_with fail
            refine ⟨fun h => (by cases h), ?_⟩
            apply segsK_pure
            · intro W
              simp only [runsT, runsF, rep, pick]
              go_wp2_with fail
              exact ⟨rfl, rfl⟩
            simp only [runsT, runsF, rep, left]
            apply segsK_class
            · intro W hW
              obtain ⟨x0, x1, x2⟩ := HK.out _ (below_ext HT8.out.ext hW)
              simp only [runsT, runsF, rep, pick]
              go_wp2_with fail
              exact ⟨rfl, rfl⟩
            simp only [runsT, runsF, rep, left]
            go_wp2_with fail
            refine (End_any bk y _ _ HT8.out.idx (by omega)).mono ?_
            rintro e w9 ⟨rfl, hE9⟩
            have HT9 := Lib.hid (HT8.out.step hE9)
            go_wp2_with fail
            refine ⟨fun _ => hE9, ?_⟩
            apply segsK_op
            go_wp2_with fail
            refine (rEnd _ w.heap.size y _ _ HT9.out.row (by omega)).mono ?_
            rintro e w10 ⟨rfl, rfl⟩
            go_wp2_with fail
            refine ⟨fun h => (by cases h), ?_⟩
            apply segsK_pure
            · intro W
              simp only [runsT, runsF, rep, pick]
              go_wp2_with fail
              exact ⟨rfl, rfl⟩
            simp only [runsT, runsF, rep, left]
            apply segsK_nil
            go_wp2_with fail
            go_roundg (len - (k + 1))
            case measure => omega
            case rel => exact ⟨k + 1, y, by go_num, by omega, HT9.out, by omega, Nat.le_refl _⟩
        --A>
      · obtain rfl : k = len := by omega
        have hdk : decide ((k : Int) < (k : Int)) = false := decide_eq_false (by omega)
        clear hik hS hEn
        --B<
        have hm' := HM.out
        have hD0 := HS.out.idx
        obtain ⟨D, hD⟩ : ∃ D, dueL now y = D := ⟨_, rfl⟩
        have HD := Lib.hid hD
        have hDl : D.length ≤ y.length := by rw [← hD]; exact List.length_filter_le _ _
        clear hD hD0
        go_wp2_with fail
        refine (rDue _ w.heap.size y now _ HS.out.row (by omega) HEn.out).mono ?_
        rw [HD.out]
        rintro e w1 ⟨u1, rfl, hR1, hE1⟩
        obtain ⟨a1, c1, rfl⟩ := hR1.val
        have hcy : y.length ≤ cu := HS.out.row.cap
        have hcD : D.length ≤ c1 := hR1.cap
        obtain ⟨T1, hT1⟩ : ∃ T, y.take m = T := ⟨_, rfl⟩
        obtain ⟨T2, hT2⟩ : ∃ T, D.take m = T := ⟨_, rfl⟩
        have q1 : T1.length ≤ cu := by rw [← hT1, List.length_take]; omega
        have q2 : T2.length ≤ c1 := by rw [← hT2, List.length_take]; omega
        have q3 : T1.length ≤ y.length := by rw [← hT1, List.length_take]; omega
        have q4 : T2.length ≤ D.length := by rw [← hT2, List.length_take]; omega
        have m1 : (if y.length < m then (y.length : Int) else (m : Int)) = (T1.length : Int) := by rw [← hT1, List.length_take]; split <;> omega
        have m2 : (if D.length < m then (D.length : Int) else (m : Int)) = (T2.length : Int) := by rw [← hT2, List.length_take]; split <;> omega
        have f1 : y.take T1.length = T1 := by rw [← hT1]; exact take_self y m
        have f2 : D.take T2.length = T2 := by rw [← hT2]; exact take_self D m
        have HF1 := Lib.hid f1
        have HF2 := Lib.hid f2
        clear f1 f2
        have HT1 := Lib.hid hT1
        have HT2 := Lib.hid hT2
        have HS1 := Lib.hid ((HS.out.step hE1).step (Ext.drew w1))
        have HR1 := Lib.hid ((hR1.base HS.out.ext.size).ext (Ext.drew w1))
        clear hT1 hT2 hR1 hE1
        go_wp2_with fail
        refine wp_region_segsK [([1, 1, 1, 1, 6, 19], 0, 0), ([1, 20], 1, 0), ([1, 19], 1, 0), ([1, 18], 1, 0), ([3, 1, 1, 1, 6, 6], 0, 0), ([1, 7], 1, 0), ([1, 6], 1, 0), ([1, 5], 1, 0), ([2, 3], 0, 0), ([1, 2], 1, 0), ([2], 0, 0)] (by kernel_rfl) (by kernel_rfl) ?_
        apply segsK_pure
        · intro W
          simp only [runsT, runsF, rep, pick]
          go_wp2_with fail
          exact ⟨rfl, rfl⟩
        simp only [runsT, runsF, rep, left]
        apply segsK_op
        go_wp2_with fail
        refine (All_mk _ _).mono ?_
        rintro e w2 ⟨Bx, Bm, rfl, c1, c2, l1, l2, hE2⟩
        have HEa := Lib.hid (each_all (HS1.out.idx.ext hE2) c1 c2 l1 l2)
        have HS2 := Lib.hid (HS1.out.step hE2)
        have HR2 := Lib.hid (HR1.out.ext hE2)
        clear c1 c2 l1 l2 hE2
        go_wp2_with fail
        refine ⟨fun h => (by cases h), ?_⟩
        apply segsK_op
        go_wp2_with fail
        refine (told_each _ y m _ _ (Ext.refl _) HEa.out (by omega) (by omega)).mono ?_
        rw [Int.toNat_natCast, HT1.out]
        rintro e w3 ⟨u3, rfl, hR3, hE3⟩
        obtain ⟨a3, c3, rfl⟩ := hR3.val
        have HS3 := Lib.hid (HS2.out.step hE3)
        have HR3 := Lib.hid (HR2.out.ext hE3)
        have HO3 := Lib.hid hR3
        clear hR3 hE3
        go_wp2_with fail
        refine ⟨fun h => (by cases h), ?_⟩
        apply segsK_op
        go_wp2_with fail
        refine (rSame _ _ _ w.heap.size T1 T1 _ HO3.out (by have := HS3.out.row.cut q3; rw [HF1.out] at this; exact this) (by omega) (by omega)).mono ?_
        rw [decide_eq_true rfl]
        rintro e w4 ⟨rfl, hE4⟩
        have HS4 := Lib.hid (HS3.out.step hE4)
        have HR4 := Lib.hid (HR3.out.ext hE4)
        clear hE4
        go_wp2_with fail
        refine ⟨fun h => (by cases h), ?_⟩
        apply segsK_pure
        · intro W
          simp only [runsT, runsF, rep, pick]
          go_wp2_with fail
          exact ⟨rfl, rfl⟩
        simp only [runsT, runsF, rep, left]
        apply segsK_op
        go_wp2_with fail
        refine (Due_mk _ _ _).mono ?_
        rintro e w5 ⟨Bx, Bm, N1, rfl, c1, c2, c3, l1, l2, l3, -, hE5⟩
        have HEd := Lib.hid (each_due (HS4.out.idx.ext hE5) c1 c2 c3 l1 l2 l3)
        have HS5 := Lib.hid (HS4.out.step hE5)
        have HR5 := Lib.hid (HR4.out.ext hE5)
        rw [HD.out] at HEd
        clear c1 c2 c3 l1 l2 l3 hE5
        go_wp2_with fail
        refine ⟨fun h => (by cases h), ?_⟩
        apply segsK_op
        go_wp2_with fail
        refine (told_each _ D m _ _ (Ext.refl _) HEd.out (by omega) (by omega)).mono ?_
        rw [Int.toNat_natCast, HT2.out]
        rintro e w6 ⟨u6, rfl, hR6, hE6⟩
        obtain ⟨a6, c6, rfl⟩ := hR6.val
        have HS6 := Lib.hid (HS5.out.step hE6)
        have HR6 := Lib.hid (HR5.out.ext hE6)
        have HO6 := Lib.hid hR6
        clear hR6 hE6
        go_wp2_with fail
        refine ⟨fun h => (by cases h), ?_⟩
        apply segsK_op
        go_wp2_with fail
        refine (rSame _ _ _ w.heap.size T2 T2 _ HO6.out (by have := HR6.out.cut q4; rw [HF2.out] at this; exact this) (by omega) (by omega)).mono ?_
        rw [decide_eq_true rfl]
        rintro e w7 ⟨rfl, hE7⟩
        have HS7 := Lib.hid (HS6.out.step hE7)
        clear hE7
        go_wp2_with fail
        refine ⟨fun h => (by cases h), ?_⟩
        apply segsK_pure
        · intro W
          simp only [runsT, runsF, rep, pick]
          go_wp2_with fail
          exact ⟨rfl, rfl⟩
        simp only [runsT, runsF, rep, left]
        apply segsK_op
        go_wp2_with fail
        refine (awake_any _).mono ?_
        rintro e w8 ⟨rfl, hE8⟩
        have HS8 := Lib.hid (HS7.out.step hE8)
        clear hE8
        go_wp2_with fail
        refine ⟨fun h => (by cases h), ?_⟩
        apply segsK_pure
        · intro W
          simp only [runsT, runsF, rep, pick]
          go_wp2_with fail
          exact ⟨rfl, rfl⟩
        simp only [runsT, runsF, rep, left]
        apply segsK_nil
        go_wp2_with fail
        go_ret
        exact ⟨rfl, HS8.out.ext⟩
        --B>
end Go.Proofs.Ytnjohjicmhobdaa.Exi
