/-
  LossyHits: the walk of the law, out of the contracts of package lossy.
  At most 40 calls (the law's own guard); no other condition.
-/
import Derived.Test.YtlnmnnoibimknabLossyD
namespace Go.Proofs.Ytlnmnnoibimknab.Lo
open Go.RowKit Go.Seg Go.Open Rk TrTh Lossy

set_option maxRecDepth 100000 in
set_option maxHeartbeats 2000000 in
theorem awake_any (w : World) : Calls Try.prog 11 #[] w fun e w' => e = .returned (.bool true) ∧ Ext w w' := by
  have m1 : may .nil false (⟨0, 0, 1, 1, 0, 0, 0, 0, 0, 0, 0, true, 5⟩ : C) = false := by decide
  have m2 : may .nil false (⟨0, 0, 2, 1, 5, 0, 0, 0, 0, 0, 0, true, 0⟩ : C) = true := by decide
  have m3 : may (step (.nil, false) (⟨0, 0, 2, 1, 5, 0, 0, 0, 0, 0, 0, true, 0⟩ : C)).1 (step (.nil, false) (⟨0, 0, 2, 1, 5, 0, 0, 0, 0, 0, 0, true, 0⟩ : C)).2 (⟨0, 0, 1, 1, 0, 0, 0, 0, 0, 0, 0, true, 5⟩ : C) = true := by decide
  have s3 : (step (.nil, false) (⟨0, 0, 2, 1, 5, 0, 0, 0, 0, 0, 0, true, 0⟩ : C)).1.sz < 700000000 := by decide
  have M1 := Lib.hid m1
  have M2 := Lib.hid m2
  have M3 := Lib.hid m3
  have S3 := Lib.hid s3
  clear m1 m2 m3 s3
  go_enter Try.func11, Try.ntmps11
  go_wp2_with fail
  refine (New_map _).mono ?_
  rintro e w1 ⟨b, rfl, hb, hM, hE⟩
  have HM := Lib.hid hM
  have HE := Lib.hid hE
  clear hM hE
  have hst := Go.run_storeCells_new (P := Try.prog) w1 32 #[.int .i64 0, .int .i64 0, .int .i64 0, .int .i64 0, .int .i64 0, .int .i64 0, .int .i64 0, .int .i64 0, .int .i64 0, .int .i64 0, .int .i64 0, .bool false, .int .i64 0] #[.int .i64 0, .int .i64 0, .int .i64 1, .int .i64 1, .int .i64 0, .int .i64 0, .int .i64 0, .int .i64 0, .int .i64 0, .int .i64 0, .int .i64 0, .bool true, .int .i64 5] (by kernel_rfl) rfl (by simp [Value.oneCell'])
  have hld := Go.run_loadCellsFrom_new (P := Try.prog) w1 32 #[.int .i64 0, .int .i64 0, .int .i64 1, .int .i64 1, .int .i64 0, .int .i64 0, .int .i64 0, .int .i64 0, .int .i64 0, .int .i64 0, .int .i64 0, .bool true, .int .i64 5] 13 rfl
  have hA : Ext w1 (w1.alloc (Obj.cells #[.int .i64 0, .int .i64 0, .int .i64 1, .int .i64 1, .int .i64 0, .int .i64 0, .int .i64 0, .int .i64 0, .int .i64 0, .int .i64 0, .int .i64 0, .bool true, .int .i64 5] 32)) := (Below.refl _ _).alloc (Nat.le_refl _) _
  have HP := Lib.hid (show Blk (w1.alloc (Obj.cells #[.int .i64 0, .int .i64 0, .int .i64 1, .int .i64 1, .int .i64 0, .int .i64 0, .int .i64 0, .int .i64 0, .int .i64 0, .int .i64 0, .int .i64 0, .bool true, .int .i64 5] 32)) w1.heap.size #[.int .i64 0, .int .i64 0, .int .i64 1, .int .i64 1, .int .i64 0, .int .i64 0, .int .i64 0, .int .i64 0, .int .i64 0, .int .i64 0, .int .i64 0, .bool true, .int .i64 5] 32 from Blk.new _ _ _)
  have HA := Lib.hid hA
  clear hA
  go_wp2_with fail
  clear hst hld
  refine (may_any b (.nil, false) (⟨0, 0, 1, 1, 0, 0, 0, 0, 0, 0, 0, true, 5⟩ : C) _ (HM.out.ext HA.out) (by simp [T.sz])).mono ?_
  rintro e w2 ⟨rfl, hE2⟩
  rw [M1.out]
  go_wp2_with fail
  refine (do_any b (.nil, false) (⟨0, 0, 2, 1, 5, 0, 0, 0, 0, 0, 0, true, 0⟩ : C) _ ((HM.out.ext HA.out).ext hE2) (by simp [T.sz])).mono ?_
  rintro e w3 ⟨rfl, hM3, hC3⟩
  rw [M2.out]
  obtain ⟨q, hq, _⟩ := (HM.out.ext HA.out).ext hE2
  have hP3 := Blk.chg (HP.out.ext hE2) hC3 (Off.one hq (by decide))
  have p0 := Blk.cell (i := 0) hP3 rfl
  have p1 := Blk.cell (i := 1) hP3 rfl
  have p2 := Blk.cell (i := 2) hP3 rfl
  have p3 := Blk.cell (i := 3) hP3 rfl
  have p4 := Blk.cell (i := 4) hP3 rfl
  have p5 := Blk.cell (i := 5) hP3 rfl
  have p6 := Blk.cell (i := 6) hP3 rfl
  have p7 := Blk.cell (i := 7) hP3 rfl
  have p8 := Blk.cell (i := 8) hP3 rfl
  have p9 := Blk.cell (i := 9) hP3 rfl
  have p10 := Blk.cell (i := 10) hP3 rfl
  have p11 := Blk.cell (i := 11) hP3 rfl
  have p12 := Blk.cell (i := 12) hP3 rfl
  clear hq
  go_wp2_with fail
  refine (do_any b _ (⟨0, 0, 1, 1, 0, 0, 0, 0, 0, 0, 0, true, 5⟩ : C) _ hM3 S3.out).mono ?_
  rintro e w4 ⟨rfl, hM4, hC4⟩
  rw [M3.out]
  go_wp2_with fail
  go_ret
  have hs : ∀ i, i = b → w.heap.size ≤ i := fun i hi => by rw [hi]; exact hb
  exact ⟨rfl, below_chg (below_chg (below_ext (below_ext HE.out HA.out) hE2) hC3 hs) hC4 hs⟩

set_option maxRecDepth 100000 in
set_option maxHeartbeats 8000000 in
theorem hits_walk (a : Option Addr) (len cap : Nat) (b off : Nat) (F : Nat → C) (w : World) (ha : 0 < len → a = some ⟨b, off, none⟩)  (hl0 : len ≤ maxLen)
    (hF : ∀ W, Below w.heap.size w W → CallsAt W b off len F) (hT : ∀ i, i < len → (F i).tk ≤ 9223372036854775807) :
    Calls Try.prog 4 #[.slice a len cap] w fun e w' => e = .returned (.bool true) ∧ Below w.heap.size w w' := by
  have HAA := Lib.hid ha
  have HF := Lib.hid hF
  have HT := Lib.hid hT
  clear ha hF hT
  unfold maxLen at hl0
  by_cases h40 : (40 : Int) < (len : Int)
  · go_enter Try.func4, Try.ntmps4
    go_wp2_with fail
    refine (awake_any _).mono ?_
    rintro e w1 ⟨rfl, hE⟩
    go_wp2_with fail
    go_ret
    exact ⟨rfl, hE⟩
  · have hl : len ≤ 40 := by omega
    have hd40 : decide ((40 : Int) < (len : Int)) = false := decide_eq_false h40
    clear h40
    go_enter Try.func4, Try.ntmps4
    go_wp2_with fail
    refine (Replay_any a len cap b off F _ HAA.out hl HF.out).mono ?_
    rintro e w1 ⟨⟨n, rfl, hn, hD⟩, hE⟩
    have HD := Lib.hid hD
    have HE1 := Lib.hid hE
    clear hD hE
    have g1 : decide ((n : Int) < 0) = false := decide_eq_false (by omega)
    have g2 : decide (len < n) = false := decide_eq_false (by omega)
    go_wp2_with fail
    clear g1 g2
    go_loopg [4] n (fun g i wr => ∃ k : Nat, i = .int .i64 k ∧ k ≤ n ∧ Below w.heap.size w wr ∧ n - k ≤ g)
    case atStart => exact ⟨0, rfl, Nat.zero_le _, HE1.out, Nat.le_refl _⟩
    case round =>
      obtain ⟨k, rfl, hk, hBel, hg⟩ := hrel
      have HE := Lib.hid hBel
      clear hBel
      by_cases hik : k < n
      · obtain rfl := HAA.out (by omega)
        obtain ⟨x0, x1, x2, x3, x4, x5, x6, x7, x8, x9, x10, x11, x12⟩ := HF.out _ HE.out k (by omega)
        have hst := Go.run_storeCells_new (P := Try.prog) wr 32 #[.int .i64 0, .int .i64 0, .int .i64 0, .int .i64 0, .int .i64 0, .int .i64 0, .int .i64 0, .int .i64 0, .int .i64 0, .int .i64 0, .int .i64 0, .bool false, .int .i64 0] #[.int .i64 (F k).cl, .int .i64 (F k).id, .int .i64 (F k).kd, .int .i64 (F k).ky, .int .i64 (F k).vl, .int .i64 (F k).co, .int .i64 (F k).tt, .int .i64 (F k).be, .int .i64 (F k).wh, .int .i64 (F k).en, .int .i64 (F k).tk, .bool (F k).ok, .int .i64 (F k).rv] (by kernel_rfl) rfl (by simp [Value.oneCell'])
        have hA : Ext wr (wr.alloc (Obj.cells #[.int .i64 (F k).cl, .int .i64 (F k).id, .int .i64 (F k).kd, .int .i64 (F k).ky, .int .i64 (F k).vl, .int .i64 (F k).co, .int .i64 (F k).tt, .int .i64 (F k).be, .int .i64 (F k).wh, .int .i64 (F k).en, .int .i64 (F k).tk, .bool (F k).ok, .int .i64 (F k).rv] 32)) := (Below.refl _ _).alloc (Nat.le_refl _) _
        have HP := Lib.hid (show Blk (wr.alloc (Obj.cells #[.int .i64 (F k).cl, .int .i64 (F k).id, .int .i64 (F k).kd, .int .i64 (F k).ky, .int .i64 (F k).vl, .int .i64 (F k).co, .int .i64 (F k).tt, .int .i64 (F k).be, .int .i64 (F k).wh, .int .i64 (F k).en, .int .i64 (F k).tk, .bool (F k).ok, .int .i64 (F k).rv] 32)) wr.heap.size #[.int .i64 (F k).cl, .int .i64 (F k).id, .int .i64 (F k).kd, .int .i64 (F k).ky, .int .i64 (F k).vl, .int .i64 (F k).co, .int .i64 (F k).tt, .int .i64 (F k).be, .int .i64 (F k).wh, .int .i64 (F k).en, .int .i64 (F k).tk, .bool (F k).ok, .int .i64 (F k).rv] 32 from Blk.new _ _ _)
        have HA := Lib.hid hA
        clear hA
        have p2 := Blk.cell (i := 2) HP.out rfl
        have p11 := Blk.cell (i := 11) HP.out rfl
        by_cases hget : (F k).kd = 1 ∧ (F k).ok = true
        · obtain ⟨hkd, hok⟩ := hget
          have hhit := hit F k (HD.out k hik) hkd hok
          have HH := Lib.hid hhit
          have nk : (!(F k).ok) = false := by rw [hok]; rfl
          have dk : ((F k).kd != 1) = false := by simp [hkd]
          clear hhit hkd hok
          go_wp2_with fail
          clear x0 x1 x2 x3 x4 x5 x6 x7 x8 x9 x10 x11 x12 hst p2 p11 dk nk
          go_loopg [6, 7] k (fun g wro j' W => ∃ j : Nat, j' = .int .i64 j ∧ j ≤ k ∧ wro = .int .i64 (wrote F (F k).ky j) ∧ Ext (wr.alloc (Obj.cells #[.int .i64 (F k).cl, .int .i64 (F k).id, .int .i64 (F k).kd, .int .i64 (F k).ky, .int .i64 (F k).vl, .int .i64 (F k).co, .int .i64 (F k).tt, .int .i64 (F k).be, .int .i64 (F k).wh, .int .i64 (F k).en, .int .i64 (F k).tk, .bool (F k).ok, .int .i64 (F k).rv] 32)) W ∧ k - j ≤ g)
          case atStart => exact ⟨0, rfl, Nat.zero_le _, rfl, Ext.refl _, Nat.le_refl _⟩
          case round =>
            obtain ⟨j, rfl, hj, rfl, hEW, hgj⟩ := hrel
            by_cases hjk : j < k
            · obtain ⟨y0, y1, y2, y3, y4, y5, y6, y7, y8, y9, y10, y11, y12⟩ := HF.out _ (below_ext (below_ext HE.out HA.out) hEW) j (by omega)
              have hsj := Go.run_storeCells_new (P := Try.prog) wr 30 #[.int .i64 0, .int .i64 0, .int .i64 0, .int .i64 0, .int .i64 0] #[.int .i64 (F j).kd, .int .i64 (F j).ky, .int .i64 (F j).vl, .int .i64 (F j).co, .int .i64 (F j).tt] (by kernel_rfl) rfl (by simp [Value.oneCell'])
              have hAj : Ext wr (wr.alloc (Obj.cells #[.int .i64 (F j).kd, .int .i64 (F j).ky, .int .i64 (F j).vl, .int .i64 (F j).co, .int .i64 (F j).tt] 30)) := (Below.refl _ _).alloc (Nat.le_refl _) _
              obtain ⟨z0, z1, z2, z3, z4, z5, z6, z7, z8, z9, z10, z11, z12⟩ := HF.out _ (below_ext (below_ext HE.out HA.out) (hEW.trans hAj)) j (by omega)
              have c3 := Blk.cell (i := 3) (HP.out.ext (hEW.trans hAj)) rfl
              have HAJ := Lib.hid hAj
              clear hAj
              clear z0 z1 z2 z3 z4 z5 z6 z8 z9 z10 z12 y0 y1 y7 y8 y9 y10 y11 y12 z7
              by_cases ho : (F j).ok = true
              · rw [ho] at z11
                by_cases h2 : (F j).kd = 2
                · have d2 : ((F j).kd == 2) = true := by simp [h2]
                  have d3 : ((F j).kd == 3) = false := by simp [h2]
                  have d5 : ((F j).kd == 5) = false := by simp [h2]
                  have d6 : ((F j).kd == 6) = false := by simp [h2]
                  by_cases hky : (F j).ky = (F k).ky
                  · have dy : ((F j).ky == (F k).ky) = true := by simp [hky]
                    have hw := Lib.hid (show wrote F (F k).ky (j + 1) = (j : Int) by simp [wrote, sets, ho, h2, hky])
                    clear ho h2 hky
                    go_wp2_with fail
                    go_roundg (k - (j + 1))
                    case measure => omega
                    case rel => exact ⟨j + 1, by go_num, by omega, by rw [hw.out], hEW.trans HAJ.out, Nat.le_refl _⟩
                  · have dy : ((F j).ky == (F k).ky) = false := by simp [hky]
                    have hw := Lib.hid (show wrote F (F k).ky (j + 1) = wrote F (F k).ky j by simp [wrote, sets, wipes, ho, h2, hky])
                    clear ho h2 hky
                    go_wp2_with fail
                    go_roundg (k - (j + 1))
                    case measure => omega
                    case rel => exact ⟨j + 1, by go_num, by omega, by rw [hw.out], hEW.trans HAJ.out, Nat.le_refl _⟩
                · have d2 : ((F j).kd == 2) = false := by simp [h2]
                  by_cases h5 : (F j).kd = 5
                  · have d5 : ((F j).kd == 5) = true := by simp [h5]
                    have hw := Lib.hid (show wrote F (F k).ky (j + 1) = -1 by simp [wrote, sets, wipes, ho, h5])
                    clear ho h2 h5
                    go_wp2_with fail
                    go_roundg (k - (j + 1))
                    case measure => omega
                    case rel => exact ⟨j + 1, by go_num, by omega, by rw [hw.out], hEW.trans HAJ.out, Nat.le_refl _⟩
                  · have d5 : ((F j).kd == 5) = false := by simp [h5]
                    by_cases h6 : (F j).kd = 6
                    · have d6 : ((F j).kd == 6) = true := by simp [h6]
                      have hw := Lib.hid (show wrote F (F k).ky (j + 1) = -1 by simp [wrote, sets, wipes, ho, h6])
                      clear ho h2 h5 h6
                      go_wp2_with fail
                      go_roundg (k - (j + 1))
                      case measure => omega
                      case rel => exact ⟨j + 1, by go_num, by omega, by rw [hw.out], hEW.trans HAJ.out, Nat.le_refl _⟩
                    · have d6 : ((F j).kd == 6) = false := by simp [h6]
                      by_cases h3 : (F j).kd = 3
                      · have d3 : ((F j).kd == 3) = true := by simp [h3]
                        by_cases hky : (F j).ky = (F k).ky
                        · have dy : ((F j).ky == (F k).ky) = true := by simp [hky]
                          have hw := Lib.hid (show wrote F (F k).ky (j + 1) = -1 by simp [wrote, sets, wipes, ho, h3, hky])
                          clear ho h2 h5 h6 h3 hky
                          go_wp2_with fail
                          go_roundg (k - (j + 1))
                          case measure => omega
                          case rel => exact ⟨j + 1, by go_num, by omega, by rw [hw.out], hEW.trans HAJ.out, Nat.le_refl _⟩
                        · have dy : ((F j).ky == (F k).ky) = false := by simp [hky]
                          have hw := Lib.hid (show wrote F (F k).ky (j + 1) = wrote F (F k).ky j by simp [wrote, sets, wipes, ho, h3, hky])
                          clear ho h2 h5 h6 h3 hky
                          go_wp2_with fail
                          go_roundg (k - (j + 1))
                          case measure => omega
                          case rel => exact ⟨j + 1, by go_num, by omega, by rw [hw.out], hEW.trans HAJ.out, Nat.le_refl _⟩
                      · have d3 : ((F j).kd == 3) = false := by simp [h3]
                        have hw := Lib.hid (show wrote F (F k).ky (j + 1) = wrote F (F k).ky j by simp [wrote, sets, wipes, h2, h3, h5, h6])
                        clear ho h2 h5 h6 h3
                        go_wp2_with fail
                        go_roundg (k - (j + 1))
                        case measure => omega
                        case rel => exact ⟨j + 1, by go_num, by omega, by rw [hw.out], hEW.trans HAJ.out, Nat.le_refl _⟩
              · have ho' : (F j).ok = false := by simpa using ho
                rw [ho'] at z11
                have hw := Lib.hid (show wrote F (F k).ky (j + 1) = wrote F (F k).ky j by simp [wrote, sets, wipes, ho'])
                clear ho ho'
                go_wp2_with fail
                go_roundg (k - (j + 1))
                case measure => omega
                case rel => exact ⟨j + 1, by go_num, by omega, by rw [hw.out], hEW.trans HAJ.out, Nat.le_refl _⟩
            · obtain rfl : j = k := by omega
              clear hjk
              obtain ⟨h0, hv, hnot⟩ := HH.out
              obtain ⟨m, hm⟩ : ∃ m : Nat, wrote F (F j).ky j = m := ⟨_, (Int.toNat_of_nonneg h0).symm⟩
              have hlt := wrote_lt F (F j).ky j
              rw [hm] at hv hnot hlt
              rw [hm]
              simp only [Int.toNat_natCast] at hv hnot
              have hml : m < j := by omega
              have e0 : decide ((m : Int) < 0) = false := decide_eq_false (by omega)
              have e1 : ((F m).vl != (F j).rv) = false := by simp [hv]
              have r := HT.out j (by omega)
              clear h0 hv hm hlt
              by_cases a1 : 0 < (F m).tt
              · have d1 : decide (0 < (F m).tt) = true := decide_eq_true a1
                by_cases a2 : 0 ≤ (F m).tk
                · have d2 : decide (0 ≤ (F m).tk) = true := decide_eq_true a2
                  by_cases a3 : (F m).tk ≤ (F j).tk
                  · have d3 : decide ((F m).tk ≤ (F j).tk) = true := decide_eq_true a3
                    have d4 : decide ((F m).tt ≤ (F j).tk - (F m).tk) = false := decide_eq_false (fun a4 => hnot ⟨a1, a2, a3, a4⟩)
                    clear hnot
                    go_wp2_with fail
                    refine wp_region_segs 57 [([57], false)] (by kernel_rfl) (by kernel_rfl) ?_
                    apply segs_cons
                    · intro W hW
                      obtain ⟨y0, y1, y2, y3, y4, y5, y6, y7, y8, y9, y10, y11, y12⟩ := HF.out _ (below_ext (below_ext HE.out HA.out) (hEW.trans hW.of_drew)) m (by omega)
                      have p10 := Blk.cell (i := 10) (HP.out.ext (hEW.trans hW.of_drew)) rfl
                      have p12 := Blk.cell (i := 12) (HP.out.ext (hEW.trans hW.of_drew)) rfl
                      simp only [runsT, runsF, rep, pick]
                      go_wp2_with fail
                      exact ⟨rfl, rfl⟩
                    simp only [runsT, runsF, rep, left]
                    go_wp2_with fail
                    go_roundg (n - (j + 1))
                    case measure => omega
                    case rel => exact ⟨j + 1, by go_num, by omega, below_ext (below_ext HE.out HA.out) (hEW.trans (Ext.drew _)), Nat.le_refl _⟩
                  · have d3 : decide ((F m).tk ≤ (F j).tk) = false := decide_eq_false a3
                    clear hnot a3
                    go_wp2_with fail
                    refine wp_region_segs 57 [([57], false)] (by kernel_rfl) (by kernel_rfl) ?_
                    apply segs_cons
                    · intro W hW
                      obtain ⟨y0, y1, y2, y3, y4, y5, y6, y7, y8, y9, y10, y11, y12⟩ := HF.out _ (below_ext (below_ext HE.out HA.out) (hEW.trans hW.of_drew)) m (by omega)
                      have p10 := Blk.cell (i := 10) (HP.out.ext (hEW.trans hW.of_drew)) rfl
                      have p12 := Blk.cell (i := 12) (HP.out.ext (hEW.trans hW.of_drew)) rfl
                      simp only [runsT, runsF, rep, pick]
                      go_wp2_with fail
                      exact ⟨rfl, rfl⟩
                    simp only [runsT, runsF, rep, left]
                    go_wp2_with fail
                    go_roundg (n - (j + 1))
                    case measure => omega
                    case rel => exact ⟨j + 1, by go_num, by omega, below_ext (below_ext HE.out HA.out) (hEW.trans (Ext.drew _)), Nat.le_refl _⟩
                · have d2 : decide (0 ≤ (F m).tk) = false := decide_eq_false a2
                  clear hnot a2
                  go_wp2_with fail
                  refine wp_region_segs 57 [([57], false)] (by kernel_rfl) (by kernel_rfl) ?_
                  apply segs_cons
                  · intro W hW
                    obtain ⟨y0, y1, y2, y3, y4, y5, y6, y7, y8, y9, y10, y11, y12⟩ := HF.out _ (below_ext (below_ext HE.out HA.out) (hEW.trans hW.of_drew)) m (by omega)
                    have p10 := Blk.cell (i := 10) (HP.out.ext (hEW.trans hW.of_drew)) rfl
                    have p12 := Blk.cell (i := 12) (HP.out.ext (hEW.trans hW.of_drew)) rfl
                    simp only [runsT, runsF, rep, pick]
                    go_wp2_with fail
                    exact ⟨rfl, rfl⟩
                  simp only [runsT, runsF, rep, left]
                  go_wp2_with fail
                  go_roundg (n - (j + 1))
                  case measure => omega
                  case rel => exact ⟨j + 1, by go_num, by omega, below_ext (below_ext HE.out HA.out) (hEW.trans (Ext.drew _)), Nat.le_refl _⟩
              · have d1 : decide (0 < (F m).tt) = false := decide_eq_false a1
                clear hnot a1
                go_wp2_with fail
                refine wp_region_segs 57 [([57], false)] (by kernel_rfl) (by kernel_rfl) ?_
                apply segs_cons
                · intro W hW
                  obtain ⟨y0, y1, y2, y3, y4, y5, y6, y7, y8, y9, y10, y11, y12⟩ := HF.out _ (below_ext (below_ext HE.out HA.out) (hEW.trans hW.of_drew)) m (by omega)
                  have p10 := Blk.cell (i := 10) (HP.out.ext (hEW.trans hW.of_drew)) rfl
                  have p12 := Blk.cell (i := 12) (HP.out.ext (hEW.trans hW.of_drew)) rfl
                  simp only [runsT, runsF, rep, pick]
                  go_wp2_with fail
                  exact ⟨rfl, rfl⟩
                simp only [runsT, runsF, rep, left]
                go_wp2_with fail
                go_roundg (n - (j + 1))
                case measure => omega
                case rel => exact ⟨j + 1, by go_num, by omega, below_ext (below_ext HE.out HA.out) (hEW.trans (Ext.drew _)), Nat.le_refl _⟩
        · have hskip : (F k).kd ≠ 1 ∨ (F k).ok = false := by
            by_cases h1 : (F k).kd = 1
            · exact .inr (by cases h2 : (F k).ok; rfl; exact absurd ⟨h1, h2⟩ hget)
            · exact .inl h1
          clear hget
          by_cases h1 : (F k).kd = 1
          · have h2 := hskip.resolve_left (fun x => x h1)
            have dk : ((F k).kd != 1) = false := by simp [h1]
            have nk : (!(F k).ok) = true := by rw [h2]; rfl
            clear h1 h2 hskip
            go_wp2_with fail
            go_roundg (n - (k + 1))
            case measure => omega
            case rel => exact ⟨k + 1, by go_num, by omega, below_ext HE.out HA.out, Nat.le_refl _⟩
          · have dk : ((F k).kd != 1) = true := by simp [h1]
            clear h1 hskip
            go_wp2_with fail
            go_roundg (n - (k + 1))
            case measure => omega
            case rel => exact ⟨k + 1, by go_num, by omega, below_ext HE.out HA.out, Nat.le_refl _⟩
      · obtain rfl : k = n := by omega
        have hdk : decide ((k : Int) < (k : Int)) = false := decide_eq_false (by omega)
        clear hik
        go_wp2_with fail
        refine (mget_nil _ _ _).mono ?_
        rintro e w' ⟨rfl, rfl⟩
        go_wp2_with fail
        refine (mlen_nil _).mono ?_
        rintro e w' ⟨rfl, rfl⟩
        go_wp2_with fail
        refine (mclosed_nil _).mono ?_
        rintro e w' ⟨rfl, rfl⟩
        go_wp2_with fail
        refine (mclone_nil _).mono ?_
        rintro e w' ⟨rfl, rfl⟩
        go_wp2_with fail
        refine (may_nil ⟨0, 0, 0, 0, 0, 0, 0, 0, 0, 0, 0, false, 0⟩ _).mono ?_
        rintro e w2 ⟨rfl, hE2⟩
        go_wp2_with fail
        refine (do_nil ⟨0, 0, 0, 0, 0, 0, 0, 0, 0, 0, 0, false, 0⟩ _).mono ?_
        rintro e w3 ⟨rfl, hE3⟩
        go_wp2_with fail
        refine (awake_any _).mono ?_
        rintro e w4 ⟨rfl, hE4⟩
        go_wp2_with fail
        go_ret
        exact ⟨rfl, below_ext (below_ext (below_ext HE.out hE2) hE3) hE4⟩

end Go.Proofs.Ytlnmnnoibimknab.Lo
