/-
  Package metric: the walk of MetricPlays.
  At most 60 steps (the law's own guard); no other condition.
-/
import Derived.Test.YtnpfikabcmngpaaDoorMetP0
import Derived.Test.YtnpfikabcmngpaaDoorSegE
import Derived.Deep.DeepCutAuto
namespace Go.Proofs.YtnpfikabcmngpaaDoor.Met
open Go.RowKit Go.Seg Go.Open Go.Lib

set_option maxHeartbeats 40000000 in
set_option maxRecDepth 4000 in
theorem plays_walk (a : Option Addr) (n cap : Nat) (b off : Nat) (F : Nat → Int × Int × Int) (turn : Nat) (w : World) (ha : 0 < n → a = some ⟨b, off, none⟩) (_hle : n ≤ maxLen) (_h1 : turn < 18446744073709551616)
    (hF : ∀ W, Below w.heap.size w W → ∀ i, i < n → W.cell? ⟨b, off + i * 3, none⟩ = some (.int .i64 (F i).1) ∧ W.cell? ⟨b, off + i * 3 + 1, none⟩ = some (.int .i64 (F i).2.1) ∧ W.cell? ⟨b, off + i * 3 + 2, none⟩ = some (.int .i64 (F i).2.2))
    (hN : NamesAt w) (hT : Tab w) :
    Calls Tryd.prog 3 #[.slice a n cap, .int .u64 turn] w fun e w' => e = .returned (.bool true) ∧ Ext w w' := by
  have HN := Lib.hid hN
  have HT := Lib.hid hT
  have HK := Lib.hid hF
  have HA := Lib.hid ha
  clear hN hT hF ha
  by_cases h60 : 60 < n
  · have d0 : decide ((60 : Int) < (n : Int)) = true := decide_eq_true (by omega)
    clear h60
    go_enter Tryd.func3, Tryd.ntmps3
    go_wp2_with fail
    refine (awake_any _).mono ?_
    rintro e w1 ⟨rfl, hE⟩
    have HE := Lib.hid hE
    clear hE
    go_wp2_with fail
    go_ret
    exact ⟨rfl, HE.out⟩
  have d0 : decide ((60 : Int) < (n : Int)) = false := decide_eq_false (by omega)
  have hn60 : n ≤ 60 := by omega
  clear h60
  obtain ⟨t, ht⟩ : ∃ t : Nat, turn % 60 = t := ⟨_, rfl⟩
  have ht60 : t < 60 := by omega
  have r0 : Int.tmod (turn : Int) 60 = (t : Int) := by rw [← ht]; rfl
  have wt : wrap64 (t : Int) = (t : Int) := w64_in (by omega)
  have HT60 := Lib.hid (show t < 60 ∧ n ≤ 60 by omega)
  clear ht ht60 hn60 _h1 _hle
  go_enter Tryd.func3, Tryd.ntmps3
  go_upto_region 3 with fail
  go_cut [5, 6] (fun s5 s6 wx => ∃ A, s5 = .pointer (some ⟨A, 0, none⟩) ∧ BoardAt wx A (List.replicate 13 0) ∧ UU wx w.heap.size s6 (List.replicate 13 0) ∧ Ext w wx ∧ w.heap.size ≤ A)
  case first =>
    have mk := fun W => make_u64 W
    refine wp_region_segsE (Ext w) (.alt 0 (.quiet [0, 1, 1, 1] (.alt 0 (.quiet [1] .done) .stop)) (.alt 1 (.alt 0 (.quiet [2] .done) .stop) .stop)) (by kernel_rfl) (by kernel_rfl) (Ext.drew _) ?_
    refine segE_alt _ rfl ?_ ?_
    · skip
      go_wp2_with fail
      refine (New_any _).mono ?_
      rintro e w_0 ⟨rfl, hB, hE⟩
      have X_0 := Lib.hid (Ext.trans (Ext.drew w) hE)
      have Y_0 := Lib.hid hB
      have Z_0 := Lib.hid hE
      clear hB hE
      go_wp2_with fail
      refine ⟨X_0.out, ?_⟩
      try dsimp only [List.eraseIdx]
      apply segE_quiet
      · intro W hW
        simp only [runsT, runsF, rep, pick]
        go_wp2_with fail
        exact ⟨rfl, rfl⟩
      simp only [runsT, runsF, rep, left]
      refine segE_alt _ rfl ?_ ?_
      · skip
        go_wp2_with fail
        have X_1 := Lib.hid (Ext.alloc' X_0.out (.cells (Array.replicate 13 (.int .u64 0)) 33))
        refine ⟨X_1.out, ?_⟩
        try dsimp only [List.eraseIdx]
        apply segE_quiet
        · intro W hW
          simp only [runsT, runsF, rep, pick]
          go_wp2_with fail
          exact ⟨rfl, rfl⟩
        simp only [runsT, runsF, rep, left]
        apply segE_done
        go_wp2_with fail
        go_meet
        exact ⟨_, rfl, Y_0.out.ext (Ext.alloc' (Ext.refl _) _), (make_own _).base X_0.out.size, X_1.out, Nat.le_refl _⟩
      exact segE_stop
    refine segE_alt _ rfl ?_ ?_
    · skip
      go_wp2_with fail
      have X_1 := Lib.hid (Ext.alloc' (Ext.drew w) (.cells (Array.replicate 13 (.int .u64 0)) 33))
      refine ⟨X_1.out, ?_⟩
      try dsimp only [List.eraseIdx]
      refine segE_alt _ rfl ?_ ?_
      · skip
        go_wp2_with fail
        refine (New_any _).mono ?_
        rintro e w_0 ⟨rfl, hB, hE⟩
        have X_0 := Lib.hid (Ext.trans X_1.out hE)
        have Y_0 := Lib.hid hB
        have Z_0 := Lib.hid hE
        clear hB hE
        go_wp2_with fail
        refine ⟨X_0.out, ?_⟩
        try dsimp only [List.eraseIdx]
        apply segE_quiet
        · intro W hW
          simp only [runsT, runsF, rep, pick]
          go_wp2_with fail
          exact ⟨rfl, rfl⟩
        simp only [runsT, runsF, rep, left]
        apply segE_done
        go_wp2_with fail
        go_meet
        have hs : (w.drew.alloc (.cells (Array.replicate 13 (.int .u64 0)) 33)).heap.size = w.heap.size + 1 := Array.size_push _
        have Y : BoardAt w_0 (w.drew.alloc (.cells (Array.replicate 13 (.int .u64 0)) 33)).heap.size (List.replicate 13 0) := Y_0.out
        rw [hs] at Y
        exact ⟨_, rfl, Y, (make_own w.drew).ext Z_0.out, X_0.out, Nat.le_succ _⟩
      exact segE_stop
    exact segE_stop
  case rest =>
    obtain ⟨A, rfl, hBA, hUX, hE0, hAw⟩ := hcut
    have H0 := Lib.hid (And.intro hBA (And.intro hUX (And.intro hE0 hAw)))
    clear hBA hUX hE0 hAw
    go_wp2_with fail
    refine (Clone_any A _ _ H0.out.1 inR_zero).mono ?_
    rintro e w2 ⟨rfl, hB2, hE2⟩
    have HS0 := Lib.hid (show PS w w2 A _ _ _ (List.replicate 13 0) (List.replicate 13 0) from ⟨H0.out.2.2.1.trans hE2, H0.out.1.ext hE2, hB2, H0.out.2.1.ext hE2, H0.out.2.1.ext hE2, H0.out.2.2.2, H0.out.2.2.1.size, Nat.ne_of_lt H0.out.1.lt, inR_zero, inR_zero⟩)
    clear hB2 hE2 H0
    go_wp2_with fail
    go_loopg [6, 7, 8, 9] n (fun m vx wb vo i wr => ∃ (k Wb : Nat) (lw : List Int), k ≤ n ∧ i = .int .i64 k ∧ wb = .pointer (some ⟨Wb, 0, none⟩) ∧ PS w wr A Wb vx vo (runS st3 F k) lw ∧ n - k ≤ m)
    case atStart => exact ⟨0, _, _, by omega, rfl, rfl, HS0.out, by omega⟩
    case round =>
      obtain ⟨k, Wb, lw, hk, rfl, rfl, hS, hm⟩ := hrel
      obtain ⟨l, hl⟩ : ∃ l, runS st3 F k = l := ⟨_, rfl⟩
      rw [hl] at hS
      have HL := Lib.hid hl
      have HS := Lib.hid hS
      clear hS hl
      by_cases hlt : k < n
      · have HM := Lib.hid (show n - (k + 1) < gk by omega)
        have d1 : decide ((k : Int) < (n : Int)) = true := decide_eq_true (by omega)
        obtain rfl := HA.out (by omega)
        have p0 : (0 : Int) ≤ (k : Int) := by omega
        have p1 : (k : Int) < (n : Int) := by omega
        have wk1 : wrap64 ((k : Int) + 1) = (k : Int) + 1 := w64_in (by have := HT60.out; omega)
        clear hk hm
        by_cases hkt : k = t
        · obtain rfl := hkt
          go_wp2_with fail
          refine (Clone_any A l _ HS.out.ba HS.out.ir).mono ?_
          rintro e w3 ⟨rfl, hB, hE⟩
          have HS1 := Lib.hid (HS.out.cloned hB rfl hE)
          clear hB hE
          obtain ⟨x0, -, -⟩ := HK.out _ HS1.out.ext k hlt
          by_cases h7 : (F k).1 = -7
          · have e7 : ((F k).1 == -7) = true := by simp [h7]
            have e7' : decide ((F k).1 = -7) = true := decide_eq_true h7
            have H7 := Lib.hid h7
            clear h7
            go_wp2_with fail
            clear x0
            have HS1d := Lib.hid (HS1.out.step (Ext.drew _))
            obtain ⟨x0, x1, x2⟩ := HK.out _ HS1d.out.ext k hlt
            refine wp_region_segsK [([5, 1, 4, 2], 0, 0), ([2, 1], 2, 11), ([1], 1, 0)] (by kernel_rfl) (by kernel_rfl) ?_
            apply segsK_pure
            · intro W
              simp only [runsT, runsF, rep, pick]
              repeat (first | go_values | go_skip | go_guarded | go_step)
              exact ⟨rfl, rfl⟩
            simp only [runsT, runsF, rep, left]
            apply segsK_look
            · simp only [runsT, runsF, rep, pick]
              repeat (first | go_values | go_skip | go_guarded | go_step)
              exact ⟨rfl, rfl⟩
            simp only [runsT, runsF, rep, left]
            apply segsK_op
            go_wp2_with fail
            refine (Move_any A l _ _ _ HS1d.out.ba).mono ?_
            rintro e w4 ⟨rfl, hB, hC⟩
            have HS2 := Lib.hid (HS1d.out.turned hB hC (inR_moveL HS1d.out.ir _ _))
            clear hB hC x0 x1 x2
            go_wp2_with fail
            refine ⟨fun h => (by cases h), ?_⟩
            apply segsK_nil
            go_wp2_with fail
            have HS2d := Lib.hid (HS2.out.step (Ext.drew _))
            obtain ⟨x0, x1, x2⟩ := HK.out _ HS2d.out.ext k hlt
            refine wp_region_segsK [([5, 1, 4, 3], 0, 0), ([2, 2], 2, 11), ([1, 1], 1, 0), ([1], 0, 0)] (by kernel_rfl) (by kernel_rfl) ?_
            apply segsK_pure
            · intro W
              simp only [runsT, runsF, rep, pick]
              repeat (first | go_values | go_skip | go_guarded | go_step)
              exact ⟨rfl, rfl⟩
            simp only [runsT, runsF, rep, left]
            apply segsK_look
            · simp only [runsT, runsF, rep, pick]
              repeat (first | go_values | go_skip | go_guarded | go_step)
              exact ⟨rfl, rfl⟩
            simp only [runsT, runsF, rep, left]
            apply segsK_op
            go_wp2_with fail
            refine (rMove _ l _ _ _ _ HS2d.out.ux HS2d.out.len).mono ?_
            rintro e w6 ⟨u6, rfl, hU, hE⟩
            have HS3 := Lib.hid (HS2d.out.both hU hE)
            clear hU hE x0 x1 x2
            go_wp2_with fail
            refine ⟨fun h => (by cases h), ?_⟩
            apply segsK_pure
            · intro W
              simp only [runsT, runsF, rep, pick]
              repeat (first | go_values | go_skip | go_guarded | go_step)
              exact ⟨rfl, rfl⟩
            simp only [runsT, runsF, rep, left]
            apply segsK_nil
            go_wp2_with fail
            go_roundg (n - (k + 1))
            case measure => exact HM.out
            case rel => exact ⟨k + 1, _, _, hlt, congrArg (Value.int .i64) wk1, rfl, by simp only [runS]; rw [HL.out, st3, if_pos H7.out]; exact HS3.out, Nat.le_refl _⟩
          · have e7 : ((F k).1 == -7) = false := by simp [h7]
            have e7' : decide ((F k).1 = -7) = false := decide_eq_false h7
            have H7 := Lib.hid h7
            clear h7
            go_wp2_with fail
            clear x0
            have HS1d := Lib.hid (HS1.out.step (Ext.drew _))
            obtain ⟨x0, x1, x2⟩ := HK.out _ HS1d.out.ext k hlt
            refine wp_region_segsK [([5, 1, 4, 3], 0, 0), ([3, 1], 2, 12), ([1], 1, 0)] (by kernel_rfl) (by kernel_rfl) ?_
            apply segsK_pure
            · intro W
              simp only [runsT, runsF, rep, pick]
              repeat (first | go_values | go_skip | go_guarded | go_step)
              exact ⟨rfl, rfl⟩
            simp only [runsT, runsF, rep, left]
            apply segsK_look
            · simp only [runsT, runsF, rep, pick]
              repeat (first | go_values | go_skip | go_guarded | go_step)
              exact ⟨rfl, rfl⟩
            simp only [runsT, runsF, rep, left]
            apply segsK_op
            go_wp2_with fail
            refine (Add_any A l _ _ _ HS1d.out.ba).mono ?_
            rintro e w4 ⟨rfl, hB, hC⟩
            have HS2 := Lib.hid (HS1d.out.turned hB hC (inR_addL HS1d.out.ir _ _))
            clear hB hC x0 x1 x2
            go_wp2_with fail
            refine ⟨fun h => (by cases h), ?_⟩
            apply segsK_nil
            go_wp2_with fail
            have HS2d := Lib.hid (HS2.out.step (Ext.drew _))
            obtain ⟨x0, x1, x2⟩ := HK.out _ HS2d.out.ext k hlt
            refine wp_region_segsK [([5, 1, 4, 4], 0, 0), ([3, 2], 2, 12), ([1, 1], 1, 0), ([1], 0, 0)] (by kernel_rfl) (by kernel_rfl) ?_
            apply segsK_pure
            · intro W
              simp only [runsT, runsF, rep, pick]
              repeat (first | go_values | go_skip | go_guarded | go_step)
              exact ⟨rfl, rfl⟩
            simp only [runsT, runsF, rep, left]
            apply segsK_look
            · simp only [runsT, runsF, rep, pick]
              repeat (first | go_values | go_skip | go_guarded | go_step)
              exact ⟨rfl, rfl⟩
            simp only [runsT, runsF, rep, left]
            apply segsK_op
            go_wp2_with fail
            refine (rAdd _ l _ _ _ _ HS2d.out.ux HS2d.out.len).mono ?_
            rintro e w6 ⟨u6, rfl, hU, hE⟩
            have HS3 := Lib.hid (HS2d.out.both hU hE)
            clear hU hE x0 x1 x2
            go_wp2_with fail
            refine ⟨fun h => (by cases h), ?_⟩
            apply segsK_pure
            · intro W
              simp only [runsT, runsF, rep, pick]
              repeat (first | go_values | go_skip | go_guarded | go_step)
              exact ⟨rfl, rfl⟩
            simp only [runsT, runsF, rep, left]
            apply segsK_nil
            go_wp2_with fail
            go_roundg (n - (k + 1))
            case measure => exact HM.out
            case rel => exact ⟨k + 1, _, _, hlt, congrArg (Value.int .i64) wk1, rfl, by simp only [runS]; rw [HL.out, st3, if_neg H7.out]; exact HS3.out, Nat.le_refl _⟩
        · have e1 : ((k : Int) == (t : Int)) = false := by simp; omega
          have e2 : (k == t) = false := by simp; omega
          have e3 : decide (k = t) = false := decide_eq_false hkt
          clear hkt
          have HS1 := Lib.hid HS.out
          obtain ⟨x0, -, -⟩ := HK.out _ HS1.out.ext k hlt
          by_cases h7 : (F k).1 = -7
          · have e7 : ((F k).1 == -7) = true := by simp [h7]
            have e7' : decide ((F k).1 = -7) = true := decide_eq_true h7
            have H7 := Lib.hid h7
            clear h7
            go_wp2_with fail
            clear x0
            have HS1d := Lib.hid (HS1.out.step (Ext.drew _))
            obtain ⟨x0, x1, x2⟩ := HK.out _ HS1d.out.ext k hlt
            refine wp_region_segsK [([5, 1, 4, 2], 0, 0), ([2, 1], 2, 11), ([1], 1, 0)] (by kernel_rfl) (by kernel_rfl) ?_
            apply segsK_pure
            · intro W
              simp only [runsT, runsF, rep, pick]
              repeat (first | go_values | go_skip | go_guarded | go_step)
              exact ⟨rfl, rfl⟩
            simp only [runsT, runsF, rep, left]
            apply segsK_look
            · simp only [runsT, runsF, rep, pick]
              repeat (first | go_values | go_skip | go_guarded | go_step)
              exact ⟨rfl, rfl⟩
            simp only [runsT, runsF, rep, left]
            apply segsK_op
            go_wp2_with fail
            refine (Move_any A l _ _ _ HS1d.out.ba).mono ?_
            rintro e w4 ⟨rfl, hB, hC⟩
            have HS2 := Lib.hid (HS1d.out.turned hB hC (inR_moveL HS1d.out.ir _ _))
            clear hB hC x0 x1 x2
            go_wp2_with fail
            refine ⟨fun h => (by cases h), ?_⟩
            apply segsK_nil
            go_wp2_with fail
            have HS2d := Lib.hid (HS2.out.step (Ext.drew _))
            obtain ⟨x0, x1, x2⟩ := HK.out _ HS2d.out.ext k hlt
            refine wp_region_segsK [([5, 1, 4, 3], 0, 0), ([2, 2], 2, 11), ([1, 1], 1, 0), ([1], 0, 0)] (by kernel_rfl) (by kernel_rfl) ?_
            apply segsK_pure
            · intro W
              simp only [runsT, runsF, rep, pick]
              repeat (first | go_values | go_skip | go_guarded | go_step)
              exact ⟨rfl, rfl⟩
            simp only [runsT, runsF, rep, left]
            apply segsK_look
            · simp only [runsT, runsF, rep, pick]
              repeat (first | go_values | go_skip | go_guarded | go_step)
              exact ⟨rfl, rfl⟩
            simp only [runsT, runsF, rep, left]
            apply segsK_op
            go_wp2_with fail
            refine (rMove _ l _ _ _ _ HS2d.out.ux HS2d.out.len).mono ?_
            rintro e w6 ⟨u6, rfl, hU, hE⟩
            have HS3 := Lib.hid (HS2d.out.both hU hE)
            clear hU hE x0 x1 x2
            go_wp2_with fail
            refine ⟨fun h => (by cases h), ?_⟩
            apply segsK_pure
            · intro W
              simp only [runsT, runsF, rep, pick]
              repeat (first | go_values | go_skip | go_guarded | go_step)
              exact ⟨rfl, rfl⟩
            simp only [runsT, runsF, rep, left]
            apply segsK_nil
            go_wp2_with fail
            go_roundg (n - (k + 1))
            case measure => exact HM.out
            case rel => exact ⟨k + 1, _, _, hlt, congrArg (Value.int .i64) wk1, rfl, by simp only [runS]; rw [HL.out, st3, if_pos H7.out]; exact HS3.out, Nat.le_refl _⟩
          · have e7 : ((F k).1 == -7) = false := by simp [h7]
            have e7' : decide ((F k).1 = -7) = false := decide_eq_false h7
            have H7 := Lib.hid h7
            clear h7
            go_wp2_with fail
            clear x0
            have HS1d := Lib.hid (HS1.out.step (Ext.drew _))
            obtain ⟨x0, x1, x2⟩ := HK.out _ HS1d.out.ext k hlt
            refine wp_region_segsK [([5, 1, 4, 3], 0, 0), ([3, 1], 2, 12), ([1], 1, 0)] (by kernel_rfl) (by kernel_rfl) ?_
            apply segsK_pure
            · intro W
              simp only [runsT, runsF, rep, pick]
              repeat (first | go_values | go_skip | go_guarded | go_step)
              exact ⟨rfl, rfl⟩
            simp only [runsT, runsF, rep, left]
            apply segsK_look
            · simp only [runsT, runsF, rep, pick]
              repeat (first | go_values | go_skip | go_guarded | go_step)
              exact ⟨rfl, rfl⟩
            simp only [runsT, runsF, rep, left]
            apply segsK_op
            go_wp2_with fail
            refine (Add_any A l _ _ _ HS1d.out.ba).mono ?_
            rintro e w4 ⟨rfl, hB, hC⟩
            have HS2 := Lib.hid (HS1d.out.turned hB hC (inR_addL HS1d.out.ir _ _))
            clear hB hC x0 x1 x2
            go_wp2_with fail
            refine ⟨fun h => (by cases h), ?_⟩
            apply segsK_nil
            go_wp2_with fail
            have HS2d := Lib.hid (HS2.out.step (Ext.drew _))
            obtain ⟨x0, x1, x2⟩ := HK.out _ HS2d.out.ext k hlt
            refine wp_region_segsK [([5, 1, 4, 4], 0, 0), ([3, 2], 2, 12), ([1, 1], 1, 0), ([1], 0, 0)] (by kernel_rfl) (by kernel_rfl) ?_
            apply segsK_pure
            · intro W
              simp only [runsT, runsF, rep, pick]
              repeat (first | go_values | go_skip | go_guarded | go_step)
              exact ⟨rfl, rfl⟩
            simp only [runsT, runsF, rep, left]
            apply segsK_look
            · simp only [runsT, runsF, rep, pick]
              repeat (first | go_values | go_skip | go_guarded | go_step)
              exact ⟨rfl, rfl⟩
            simp only [runsT, runsF, rep, left]
            apply segsK_op
            go_wp2_with fail
            refine (rAdd _ l _ _ _ _ HS2d.out.ux HS2d.out.len).mono ?_
            rintro e w6 ⟨u6, rfl, hU, hE⟩
            have HS3 := Lib.hid (HS2d.out.both hU hE)
            clear hU hE x0 x1 x2
            go_wp2_with fail
            refine ⟨fun h => (by cases h), ?_⟩
            apply segsK_pure
            · intro W
              simp only [runsT, runsF, rep, pick]
              repeat (first | go_values | go_skip | go_guarded | go_step)
              exact ⟨rfl, rfl⟩
            simp only [runsT, runsF, rep, left]
            apply segsK_nil
            go_wp2_with fail
            go_roundg (n - (k + 1))
            case measure => exact HM.out
            case rel => exact ⟨k + 1, _, _, hlt, congrArg (Value.int .i64) wk1, rfl, by simp only [runS]; rw [HL.out, st3, if_neg H7.out]; exact HS3.out, Nat.le_refl _⟩
      · obtain rfl : k = n := by omega
        have d1 : decide ((k : Int) < (k : Int)) = false := decide_eq_false (by omega)
        clear hlt
        obtain ⟨capx, bx, rfl, _, _, _, hcx⟩ := UU.openU HS.out.ux HS.out.ba.1
        obtain ⟨capo, bo, rfl, _, _, _, hco⟩ := UU.openU HS.out.uo HS.out.bw.1
        have HCX := Lib.hid hcx
        have HCO := Lib.hid hco
        clear hcx hco
        go_wp2_with fail
        refine (Since_gen A l (some ⟨Wb, 0, none⟩) (getL lw) _ HS.out.ba (fun k W hW => Get_any Wb lw k W (HS.out.bw.ext hW))).mono ?_
        rintro e w5 ⟨rfl, hD, hE⟩
        obtain ⟨D, hDe⟩ : ∃ D, wr.heap.size = D := ⟨_, rfl⟩
        rw [hDe] at hD ⊢
        have HS5 := Lib.hid (HS.out.step hE)
        have HD := Lib.hid hD
        have HE5 := Lib.hid hE
        clear hD hE hDe
        go_wp2_with fail
        go_loopg [11, 12, 13, 14] 15 (fun m i _ _ _ wr => ∃ k : Nat, k ≤ 15 ∧ i = .int .i64 ((k : Int) - 1) ∧ Ext w5 wr ∧ 15 - k ≤ m)
        case atStart => exact ⟨0, by omega, rfl, Ext.refl _, by omega⟩
        case round =>
          obtain ⟨q, hq, rfl, hE, hm⟩ := hrel
          have HS6 := Lib.hid (HS5.out.step hE)
          have HD6 := Lib.hid (HD.out.ext hE)
          have HE6 := Lib.hid (HE5.out.trans hE)
          have HX6 := Lib.hid hE
          clear hE
          obtain ⟨z, hz⟩ : ∃ z : Int, (q : Int) - 1 = z := ⟨_, rfl⟩
          rw [hz]
          by_cases h15 : q < 15
          · have HM := Lib.hid (show 15 - (q + 1) < gk ∧ q + 1 ≤ 15 by omega)
            have d14 : decide (z < 14) = true := decide_eq_true (by omega)
            have wz : wrap64 (z + 1) = z + 1 := w64_in (by omega)
            have HZ := Lib.hid (show z + 1 = ((q + 1 : Nat) : Int) - 1 by omega)
            by_cases hin : 0 ≤ z ∧ z < 13
            · obtain ⟨j, hj, hzj⟩ := nat_of_in hin
              clear hz hq hm hin h15
              subst hzj
              have b0 : (0 : Int) ≤ (j : Int) := Int.natCast_nonneg j
              have b1 : (j : Int) < 13 := lt13 hj
              have g0 : decide ((0 : Int) ≤ (j : Int)) = true := decide_eq_true b0
              have g1 : decide ((j : Int) < 13) = true := decide_eq_true b1
              have g2 : decide (j < 13) = true := decide_eq_true hj
              obtain ⟨y, hy⟩ : ∃ y, l.getD j 0 = y := ⟨_, rfl⟩
              obtain ⟨y', hy'⟩ : ∃ y', lw.getD j 0 = y' := ⟨_, rfl⟩
              have EA := Lib.hid (show getL l (j : Int) = y by rw [getL_nat l j hj, hy])
              have EB := Lib.hid (show getL lw (j : Int) = y' by rw [getL_nat lw j hj, hy'])
              have ED := Lib.hid (since_at EA.out EB.out)
              obtain ⟨s, hs⟩ : ∃ s : ByteArray, (⟨(nm j).toArray⟩ : ByteArray) = s := ⟨_, rfl⟩
              have EN := Lib.hid (show (⟨(nameOf (j : Int)).toArray⟩ : ByteArray) = s by rw [nameOf_nat j hj rfl]; exact hs)
              have HY := Lib.hid (And.intro hy (And.intro hy' hs))
              clear hy hy' hs
              have HSd := Lib.hid (HS6.out.step (Ext.drew _))
              go_wp2_with fail
              refine wp_region_segs 15 [([8, 1, 1, 5], false), ([5], false)] (by kernel_rfl) (by kernel_rfl) ?_
              apply segs_cons
              · intro W hW
                have x0 : W.cell? ⟨bx, j, none⟩ = some (.int .u64 y) := by rw [← HY.out.1]; exact HCX.out _ (HE6.out.trans hW.of_drew) j hj
                have x1 : W.cell? ⟨bo, j, none⟩ = some (.int .u64 y') := by rw [← HY.out.2.1]; exact HCO.out _ (HE6.out.trans hW.of_drew) j hj
                simp only [runsT, runsF, rep, pick]
                go_wp2_with fail
                exact ⟨rfl, rfl⟩
              simp only [runsT, runsF, rep, left]
              go_wp2_with fail
              refine (rNames _).mono ?_
              rintro e w7 ⟨bn, rfl, hN1, hE1⟩
              have HNm := Lib.hid hN1
              have HS7 := Lib.hid (HSd.out.step hE1)
              have HD7 := Lib.hid (HD6.out.ext (Ext.trans (Ext.drew _) hE1))
              have HX7 := Lib.hid (HX6.out.trans (Ext.trans (Ext.drew _) hE1))
              clear hN1
              go_wp2_with fail
              refine ⟨fun _ => hE1, ?_⟩
              apply segs_cons
              · intro W hW
                have x2 : W.cell? ⟨bn, j, none⟩ = some (.string s) := by rw [← HY.out.2.2]; exact HNm.out _ hW j hj
                simp only [runsT, runsF, rep, pick]
                go_wp2_with fail
                exact ⟨rfl, rfl⟩
              simp only [runsT, runsF, rep, left]
              go_wp2_with fail
              go_wp2_with fail
              refine (Get_any A l _ _ HS7.out.ba).mono ?_
              rw [EA.out]
              rintro e w' ⟨rfl, rfl⟩
              go_wp2_with fail
              refine (Get_any Wb lw _ _ HS7.out.bw).mono ?_
              rw [EB.out]
              rintro e w' ⟨rfl, rfl⟩
              go_wp2_with fail
              refine (Get_any D _ _ _ HD7.out).mono ?_
              rw [ED.out]
              rintro e w' ⟨rfl, rfl⟩
              go_wp2_with fail
              refine (Name_any j _ (HN.out.ext HS7.out.ext)).mono ?_
              rw [EN.out]
              rintro e w' ⟨rfl, rfl⟩
              have HWZ := Lib.hid wz
              clear wz b0 b1 g0 g1 g2 wt r0
              go_wp2_with fail
              go_roundg (15 - (q + 1))
              case measure => exact HM.out.1
              case rel => exact ⟨q + 1, HM.out.2, by rw [← HZ.out] <;> first | rfl | exact congrArg (Value.int .i64) HWZ.out, HX7.out, Nat.le_refl _⟩
            · have EA := Lib.hid (getL_out l z hin)
              have EB := Lib.hid (getL_out lw z hin)
              have ED := Lib.hid (show getL (sinceL l (getL lw)) z = 0 from getL_out _ z hin)
              have EN := Lib.hid (nameOf_out z hin)
              by_cases hz0 : 0 ≤ z
              · have g0 : decide (0 ≤ z) = true := decide_eq_true hz0
                have g1 : decide (z < 13) = false := decide_eq_false (by omega)
                clear hz hq hm hin h15 hz0
                go_wp2_with fail
                refine (Get_any A l _ _ HS6.out.ba).mono ?_
                rw [EA.out]
                rintro e w' ⟨rfl, rfl⟩
                go_wp2_with fail
                refine (Get_any Wb lw _ _ HS6.out.bw).mono ?_
                rw [EB.out]
                rintro e w' ⟨rfl, rfl⟩
                go_wp2_with fail
                refine (Get_any D _ _ _ HD6.out).mono ?_
                rw [ED.out]
                rintro e w' ⟨rfl, rfl⟩
                go_wp2_with fail
                refine (Name_any z _ (HN.out.ext HS6.out.ext)).mono ?_
                rw [EN.out]
                rintro e w' ⟨rfl, rfl⟩
                go_wp2_with fail
                go_roundg (15 - (q + 1))
                case measure => exact HM.out.1
                case rel => exact ⟨q + 1, HM.out.2, by rw [← HZ.out]; first | rfl | exact congrArg (Value.int .i64) wz, HX6.out, Nat.le_refl _⟩
              · have g0 : decide (0 ≤ z) = false := decide_eq_false hz0
                clear hz hq hm hin h15 hz0
                go_wp2_with fail
                refine (Get_any A l _ _ HS6.out.ba).mono ?_
                rw [EA.out]
                rintro e w' ⟨rfl, rfl⟩
                go_wp2_with fail
                refine (Get_any Wb lw _ _ HS6.out.bw).mono ?_
                rw [EB.out]
                rintro e w' ⟨rfl, rfl⟩
                go_wp2_with fail
                refine (Get_any D _ _ _ HD6.out).mono ?_
                rw [ED.out]
                rintro e w' ⟨rfl, rfl⟩
                go_wp2_with fail
                refine (Name_any z _ (HN.out.ext HS6.out.ext)).mono ?_
                rw [EN.out]
                rintro e w' ⟨rfl, rfl⟩
                go_wp2_with fail
                go_roundg (15 - (q + 1))
                case measure => exact HM.out.1
                case rel => exact ⟨q + 1, HM.out.2, by rw [← HZ.out]; first | rfl | exact congrArg (Value.int .i64) wz, HX6.out, Nat.le_refl _⟩
          · obtain rfl : z = 14 := by omega
            have d14 : decide ((14 : Int) < 14) = false := by decide
            clear hz hq hm h15
            have HSd := Lib.hid (HS6.out.step (Ext.drew _))
            obtain ⟨y2, hy2⟩ : ∃ y, l.getD 2 0 = y := ⟨_, rfl⟩
            obtain ⟨y3, hy3⟩ : ∃ y, l.getD 3 0 = y := ⟨_, rfl⟩
            obtain ⟨y4, hy4⟩ : ∃ y, l.getD 4 0 = y := ⟨_, rfl⟩
            obtain ⟨y5, hy5⟩ : ∃ y, l.getD 5 0 = y := ⟨_, rfl⟩
            obtain ⟨y6, hy6⟩ : ∃ y, l.getD 6 0 = y := ⟨_, rfl⟩
            obtain ⟨y7, hy7⟩ : ∃ y, l.getD 7 0 = y := ⟨_, rfl⟩
            obtain ⟨y8, hy8⟩ : ∃ y, l.getD 8 0 = y := ⟨_, rfl⟩
            obtain ⟨y9, hy9⟩ : ∃ y, l.getD 9 0 = y := ⟨_, rfl⟩
            have EU := Lib.hid (used_plain hy8 hy9)
            have EE := Lib.hid (even_at HS.out.ir hy2 hy3 hy4 hy5 hy6 hy7)
            have HY := Lib.hid (show ∀ W, Ext w5 W → W.cell? ⟨bx, 2, none⟩ = some (.int .u64 y2) ∧ W.cell? ⟨bx, 3, none⟩ = some (.int .u64 y3) ∧ W.cell? ⟨bx, 4, none⟩ = some (.int .u64 y4) ∧ W.cell? ⟨bx, 5, none⟩ = some (.int .u64 y5) ∧ W.cell? ⟨bx, 6, none⟩ = some (.int .u64 y6) ∧ W.cell? ⟨bx, 7, none⟩ = some (.int .u64 y7) ∧ W.cell? ⟨bx, 8, none⟩ = some (.int .u64 y8) ∧ W.cell? ⟨bx, 9, none⟩ = some (.int .u64 y9) from fun W hW => by
              have c := HCX.out W (HE5.out.trans hW)
              exact ⟨hy2 ▸ c 2 (by decide), hy3 ▸ c 3 (by decide), hy4 ▸ c 4 (by decide), hy5 ▸ c 5 (by decide), hy6 ▸ c 6 (by decide), hy7 ▸ c 7 (by decide), hy8 ▸ c 8 (by decide), hy9 ▸ c 9 (by decide)⟩)
            clear hy2 hy3 hy4 hy5 hy6 hy7 hy8 hy9
            go_wp2_with fail
            refine wp_region_segs 49 [([1, 1, 7, 40], false), ([3, 1, 23, 13], false), ([4, 1, 1, 7], false), ([0, 7], false), ([3, 3], false), ([2], false)] (by kernel_rfl) (by kernel_rfl) ?_
            apply segs_cons
            · intro W hW
              obtain ⟨-, -, -, -, -, -, x8, x9⟩ := HY.out _ (HX6.out.trans hW.of_drew)
              simp only [runsT, runsF, rep, pick]
              go_wp2_with fail
              exact ⟨rfl, rfl⟩
            simp only [runsT, runsF, rep, left]
            go_wp2_with fail
            refine (Used_any A l _ HSd.out.ba).mono ?_
            rw [EU.out]
            rintro e w' ⟨rfl, rfl⟩
            go_wp2_with fail
            refine ⟨fun _ => Ext.refl _, ?_⟩
            apply segs_cons
            · intro W hW
              obtain ⟨x2, x3, x4, x5, x6, x7, -, -⟩ := HY.out _ (HX6.out.trans (Ext.trans (Ext.drew _) hW))
              simp only [runsT, runsF, rep, pick]
              go_wp2_with fail
              exact ⟨rfl, rfl⟩
            simp only [runsT, runsF, rep, left]
            go_wp2_with fail
            refine (Even_any A l _ HSd.out.ba).mono ?_
            rw [EE.out]
            rintro e w' ⟨rfl, rfl⟩
            go_wp2_with fail
            refine ⟨fun _ => Ext.refl _, ?_⟩
            apply segs_cons
            · intro W hW
              simp only [runsT, runsF, rep, pick]
              go_wp2_with fail
              exact ⟨rfl, rfl⟩
            simp only [runsT, runsF, rep, left]
            go_wp2_with fail
            refine (Text_any A l _ HSd.out.ba HSd.out.ir (HN.out.ext HSd.out.ext) (tab_ext HT.out HSd.out.ext)).mono ?_
            rintro e w7 ⟨rfl, hE7⟩
            have HS7 := Lib.hid (HSd.out.step hE7)
            go_wp2_with fail
            refine ⟨fun _ => hE7, ?_⟩
            apply segs_cons
            · intro W hW
              exact ⟨rfl, rfl⟩
            simp only [runsT, runsF, rep, left]
            go_wp2_with fail
            refine (rText _ l _ _ HS7.out.ux HS7.out.ba.1 HS7.out.ir).mono ?_
            rintro e w8 ⟨rfl, hE8⟩
            have HS8 := Lib.hid (HS7.out.step hE8)
            go_wp2_with fail
            refine ⟨fun _ => hE8, ?_⟩
            apply segs_cons
            · intro W hW
              simp only [runsT, runsF, rep, pick]
              go_wp2_with fail
              exact ⟨rfl, rfl⟩
            simp only [runsT, runsF, rep, left]
            go_wp2_with fail
            refine (awake_any _).mono ?_
            rintro e w9 ⟨rfl, hE9⟩
            have HE9 := Lib.hid (HS8.out.ext.trans hE9)
            go_wp2_with fail
            refine ⟨fun _ => hE9, ?_⟩
            apply segs_cons
            · intro W hW
              simp only [runsT, runsF, rep, pick]
              go_wp2_with fail
              exact ⟨rfl, rfl⟩
            simp only [runsT, runsF, rep, left]
            go_wp2_with fail
            go_wp2_with fail
            go_ret
            exact ⟨rfl, HE9.out⟩
end Go.Proofs.YtnpfikabcmngpaaDoor.Met
