/-
  BeladyBest: no cache of that room has more hits: the walk of Best, and of the law.
  At most 9 requests, room for at most 3 (the law's own guard); no other condition.
-/
import Derived.Test.YtnjohjicmhobdaaBelAw
import Derived.Test.YtnjohjicmhobdaaAppI
import Derived.Test.YtnjohjicmhobdaaSegE
import Derived.Test.YtnjohjicmhobdaaOpenI
import Derived.Deep.DeepCutAuto
namespace Go.Proofs.Ytnjohjicmhobdaa.Bl
open Go.RowKit Go.Seg Go.Open Go.Lib Bel Rk TrUs Lo1

theorem lst_getD (ks : List Int) : lst (fun j => ks.getD j 0) ks.length = ks := by
  apply List.ext_getElem
  · rw [lst_len]
  · intro i h1 h2
    rw [lst_get]
    simp [List.getD_eq_getElem?_getD, h2]
theorem among_ints (B : Nat) (v : Value) (keys : List Int) (x : Int) (w : World) (h : Ints w B v keys) (hl : keys.length ≤ 1000000) :
    Calls Try.prog 18 #[v, .int .i64 x] w fun e w' => e = .returned (.bool (decide (x ∈ keys))) ∧ w = w' := by
  obtain ⟨a, cap, b, rfl, h1, h2, h3, h4, h5⟩ := h.openI
  have := Among_any a keys.length cap b 0 (fun j => keys.getD j 0) x w h3 (by unfold maxLen; omega) (fun i hi => h5 w (Ext.refl _) i hi)
  rw [lst_getD] at this
  exact this
theorem cells_take {W : World} {kb : Nat} {keys : List Int} (h : ∀ j, j < keys.length → W.cell? ⟨kb, 0 + j, none⟩ = some (.int .i64 (keys.getD j 0))) {k : Nat} (hk : k ≤ keys.length) :
    ∀ ad, some (⟨kb, 0, none⟩ : Addr) = some ad → ∀ j, j < k → W.cell? (ad.add j) = some (.int .i64 ((keys.take k).getD j 0)) := by
  intro ad had j hj
  cases had
  rw [Go.WideShapes.add_plain, h j (by omega)]
  simp [List.getD_eq_getElem?_getD, hj]
theorem cells_drop {W : World} {kb : Nat} {keys : List Int} (h : ∀ j, j < keys.length → W.cell? ⟨kb, 0 + j, none⟩ = some (.int .i64 (keys.getD j 0))) {k : Nat} {ao : Option Addr} (hao : k < keys.length → ao = some ⟨kb, k, none⟩) :
    ∀ ad, ao = some ad → ∀ j, j < keys.length - k → W.cell? (ad.add j) = some (.int .i64 ((keys.drop k).getD j 0)) := by
  intro ad had j hj
  rw [hao (by omega)] at had
  cases had
  rw [Go.WideShapes.add_plain]
  have := h (k + j) (by omega)
  rw [Nat.zero_add] at this
  rw [this]
  simp [List.getD_eq_getElem?_getD, List.getElem?_drop]
theorem lit_cells (W : World) (x : Int) : ∀ ad, some (⟨W.heap.size, 0, none⟩ : Addr) = some ad → ∀ j, j < 1 → (W.alloc (.cells #[.int .i64 x] 3)).cell? (ad.add j) = some (.int .i64 ([x].getD j 0)) := by
  intro ad had j hj
  cases had
  obtain rfl : j = 0 := by omega
  rw [Go.WideShapes.add_plain]
  exact (Blk.new W #[.int .i64 x] 3).cell (i := 0) rfl
theorem swap_len {keys : List Int} {k : Nat} (h : k < keys.length) (x : Int) : (swap keys k x).length = keys.length := by
  unfold swap
  simp
  omega
theorem maxes_bd (f : Nat → Int) (b : Int) (m : Int) (hb : 0 ≤ b ∧ b ≤ m) (hf : ∀ k, 0 ≤ f k ∧ f k ≤ m) (n : Nat) : 0 ≤ maxes f n b ∧ maxes f n b ≤ m := by
  induction n with
  | zero => exact hb
  | succ n ih => have := hf n; simp only [maxes]; omega
theorem best_bd (l : List Int) (r : Int) : ∀ (d i : Nat) (keys : List Int), 0 ≤ best l r d i keys ∧ best l r d i keys ≤ d
  | 0, i, keys => by simp [best]
  | d + 1, i, keys => by
    have h1 := best_bd l r d (i + 1) keys
    have h2 := best_bd l r d (i + 1) (keys ++ [l.getD i 0])
    have h3 := maxes_bd (fun k => best l r d (i + 1) (swap keys k (l.getD i 0))) _ d h1 (fun k => best_bd l r d (i + 1) _) keys.length
    simp only [best]
    repeat' split
    all_goals omega

set_option maxRecDepth 100000 in
set_option maxHeartbeats 8000000 in
theorem Best_any (a : Option Addr) (len cap b off : Nat) (F : Nat → Int) (r : Int) (ha : 0 < len → a = some ⟨b, off, none⟩) (hl : len ≤ 9) (hr0 : 0 ≤ r) (hr3 : r ≤ 3) :
    ∀ (d i : Nat) (keys : List Int) (v : Value) (w : World), i + d = len → (∀ W, Ext w W → ∀ j, j < len → W.cell? ⟨b, off + j, none⟩ = some (.int .i64 (F j))) → Ints w 0 v keys → (keys.length : Int) ≤ r →
      Calls Try.prog 11 #[.slice a len cap, .int .i64 i, .int .i64 r, v] w fun e w' => e = .returned (.int .i64 (best (lst F len) r d i keys)) ∧ Ext w w' := by
  intro d
  induction d with
  | zero =>
    intro i keys v w hi hF hK hkr
    obtain ⟨av, cv, _, rfl, _⟩ := hK.openI
    obtain rfl : i = len := by omega
    clear hF hK ha
    have d0 : decide ((i : Int) ≤ (i : Int)) = true := decide_eq_true (by omega)
    go_enter Try.func11, Try.ntmps11
    go_wp2_with fail
    go_ret
    exact ⟨rfl, Ext.refl _⟩
  | succ d ih =>
    intro i keys v w hi hF hK hkr
    obtain rfl := ha (by omega)
    have hik : i < len := by omega
    have HKL : Hid (i < (lst F len).length) := Lib.hid (by rw [lst_len]; exact hik)
    have HG : Hid ((lst F len).getD i 0 = F i) := Lib.hid (by rw [getD_eq HKL.out, lst_get])
    have IH : ∀ (keys : List Int) (v : Value) (W : World), Ext w W → Ints W 0 v keys → (keys.length : Int) ≤ r → Calls Try.prog 11 #[.slice (some ⟨b, off, none⟩) len cap, .int .i64 ((i : Int) + 1), .int .i64 r, v] W fun e w' => e = .returned (.int .i64 (best (lst F len) r d (i + 1) keys)) ∧ Ext W w' := by
      intro keys v W hE hk hr
      have := ih (i + 1) keys v W (by omega) (fun W' hW => hF W' (hE.trans hW)) hk hr
      rwa [show ((i + 1 : Nat) : Int) = (i : Int) + 1 by omega] at this
    have IH := Lib.hid IH
    have hF0 := hF w (Ext.refl _) i hik
    have HF := Lib.hid hF
    have HK := Lib.hid hK
    obtain ⟨av, cv, _, rfl, _⟩ := hK.openI
    have d0 : decide ((len : Int) ≤ (i : Int)) = false := decide_eq_false (by omega)
    have b0 := best_bd (lst F len) r d (i + 1) keys
    obtain ⟨y0, hy0⟩ : ∃ y, best (lst F len) r d (i + 1) keys = y := ⟨_, rfl⟩
    rw [hy0] at b0
    have HY0 := Lib.hid hy0
    obtain ⟨b1, b2⟩ := b0
    clear ih ha hF hK hy0
    by_cases hm : F i ∈ keys
    · have HM := Lib.hid hm
      have HB := Lib.hid (decide_eq_true hm)
      have HR : Hid (best (lst F len) r (d + 1) i keys = 1 + y0) := Lib.hid (by simp only [best]; rw [HG.out, if_pos hm, HY0.out])
      clear hm
      go_enter Try.func11, Try.ntmps11
      go_wp2_with fail
      refine (among_ints _ _ _ _ _ HK.out (by omega)).mono ?_
      rw [HB.out]
      rintro e w' ⟨rfl, rfl⟩
      go_wp2_with fail
      refine (IH.out keys _ _ (Ext.refl _) HK.out hkr).mono ?_
      rw [HY0.out]
      rintro e w1 ⟨rfl, hE1⟩
      go_wp2_with fail
      go_ret
      exact ⟨by rw [HR.out]; rfl, hE1⟩
    · have HM := Lib.hid hm
      have HB := Lib.hid (decide_eq_false hm)
      clear hm
      go_enter Try.func11, Try.ntmps11
      go_wp2_with fail
      refine (among_ints _ _ _ _ _ HK.out (by omega)).mono ?_
      rw [HB.out]
      rintro e w' ⟨rfl, rfl⟩
      go_wp2_with fail
      refine (IH.out keys _ _ (Ext.refl _) HK.out hkr).mono ?_
      rw [HY0.out]
      rintro e w1 ⟨rfl, hE1⟩
      have HE1 := Lib.hid hE1
      have HK1 := Lib.hid (HK.out.ext hE1)
      clear hE1
      by_cases hlt : (keys.length : Int) < r
      · have d1 : decide ((keys.length : Int) < r) = true := decide_eq_true hlt
        have b3 := best_bd (lst F len) r d (i + 1) (keys ++ [F i])
        obtain ⟨y1, hy1⟩ : ∃ y, best (lst F len) r d (i + 1) (keys ++ [F i]) = y := ⟨_, rfl⟩
        rw [hy1] at b3
        have HY1 := Lib.hid hy1
        obtain ⟨b3, b4⟩ := b3
        have HR : Hid (best (lst F len) r (d + 1) i keys = max y0 y1) := Lib.hid (by simp only [best]; rw [HG.out, if_neg HM.out, if_pos hlt, HY0.out, HY1.out])
        have d3 : ((keys.length : Int) == r) = false := beq_eq_false_iff_ne.2 (by omega)
        clear hy1
        go_upto_region 7 with fail
        go_cut [9] (fun s9 wx => s9 = .int .i64 (max y0 y1) ∧ Ext w wx)
        case first =>
          refine wp_region_segsE (Ext w1) (.quiet [5, 1, 1, 1, 4, 5] (.alt 0 (.alt 0 (.alt 0 (.alt 0 (.alt 0 (.quiet [2] .done) .stop) .stop) .stop) (.alt 1 (.alt 0 (.alt 0 (.alt 0 (.quiet [2] .done) .stop) .stop) .stop) .stop)) (.alt 2 (.alt 0 (.alt 0 (.alt 0 (.alt 0 (.quiet [2] .done) .stop) .stop) .stop) .stop) .stop))) (by kernel_rfl) (by kernel_rfl) (Ext.drew _) ?_
          apply segE_quiet
          · intro W hW
            have x1 := HF.out _ (HE1.out.trans hW) i hik
            simp only [runsT, runsF, rep, pick]
            go_wp2_with fail
            exact ⟨rfl, rfl⟩
          simp only [runsT, runsF, rep, left]
          refine segE_alt _ rfl ?_ ?_
          · skip
            refine lit0I rfl rfl ?_
            intro a_5 c_5 w_5 h_5 s_5
            have H_5 := Lib.hid h_5
            have S_5 := Lib.hid s_5
            have XE_5 := Lib.hid ((Ext.drew w1).trans s_5)
            clear h_5 s_5
            go_wp2_with fail
            refine ⟨XE_5.out, ?_⟩
            try dsimp only [List.eraseIdx]
            refine segE_alt _ rfl ?_ ?_
            · skip
              refine appI2 rfl (.tmp 44) (.tmp 45) rfl _ _ [] rfl H_5.out 0 _ keys rfl (HK1.out.ext XE_5.out) (by simp; omega) XE_5.out.size ?_
              intro a_7 c_7 w_7 h_7 g_7
              simp only [List.nil_append, List.length_nil, Nat.zero_add] at h_7 ⊢
              have G_7 := Lib.hid g_7
              have H_7 := Lib.hid h_7
              have XE_7 := Lib.hid (ext_grown XE_5.out H_5.out (Nat.le_refl _) g_7)
              clear h_7 g_7
              go_wp2_with fail
              refine ⟨XE_7.out, ?_⟩
              try dsimp only [List.eraseIdx]
              refine segE_alt _ rfl ?_ ?_
              · skip
                refine lit1I rfl (.tmp 50) rfl (F i) rfl ?_
                intro a_12 c_12 w_12 h_12 s_12
                have H_12 := Lib.hid h_12
                have S_12 := Lib.hid s_12
                have XE_12 := Lib.hid (XE_7.out.trans s_12)
                clear h_12 s_12
                go_wp2_with fail
                refine ⟨XE_12.out, ?_⟩
                try dsimp only [List.eraseIdx]
                refine segE_alt _ rfl ?_ ?_
                · skip
                  refine appI2 rfl (.tmp 46) (.tmp 51) rfl _ _ keys rfl (H_7.out.ext S_12.out) _ _ [F i] rfl H_12.out (by simp; omega) XE_12.out.size ?_
                  intro a_13 c_13 w_13 h_13 g_13
                  simp only [List.length_cons, List.length_nil, Nat.zero_add] at h_13 ⊢
                  have H_13 := Lib.hid h_13
                  have XE_13 := Lib.hid (ext_grown XE_12.out (H_7.out.ext S_12.out) (Nat.le_refl _) g_13)
                  clear h_13 g_13
                  go_wp2_with fail
                  refine ⟨XE_13.out, ?_⟩
                  try dsimp only [List.eraseIdx]
                  refine segE_alt _ rfl ?_ ?_
                  · skip
                    go_wp2_with fail
                    refine (IH.out (keys ++ [F i]) _ _ (HE1.out.trans XE_13.out) (H_13.out.base (Nat.zero_le _)) (by rw [List.length_append]; simp; omega)).mono ?_
                    rw [HY1.out]
                    rintro e w_14 ⟨rfl, hE14⟩
                    have XE_14 := Lib.hid (XE_13.out.trans hE14)
                    clear hE14
                    go_wp2_with fail
                    refine ⟨XE_14.out, ?_⟩
                    try dsimp only [List.eraseIdx]
                    apply segE_quiet
                    · intro W hW
                      simp only [runsT, runsF, rep, pick]
                      go_wp2_with fail
                      exact ⟨rfl, rfl⟩
                    simp only [runsT, runsF, rep, left]
                    apply segE_done
                    go_wp2_with fail
                    go_meet
                    exact ⟨rfl, HE1.out.trans XE_14.out⟩
                  exact segE_stop
                exact segE_stop
              exact segE_stop
            refine segE_alt _ rfl ?_ ?_
            · skip
              refine lit1I rfl (.tmp 50) rfl (F i) rfl ?_
              intro a_12 c_12 w_12 h_12 s_12
              have H_12 := Lib.hid h_12
              have S_12 := Lib.hid s_12
              have XE_12 := Lib.hid (XE_5.out.trans s_12)
              clear h_12 s_12
              go_wp2_with fail
              refine ⟨XE_12.out, ?_⟩
              try dsimp only [List.eraseIdx]
              refine segE_alt _ rfl ?_ ?_
              · skip
                refine appI2 rfl (.tmp 44) (.tmp 45) rfl _ _ [] rfl (H_5.out.ext S_12.out) 0 _ keys rfl (HK1.out.ext XE_12.out) (by simp; omega) XE_12.out.size ?_
                intro a_7 c_7 w_7 h_7 g_7
                simp only [List.nil_append, List.length_nil, Nat.zero_add] at h_7 ⊢
                have G_7 := Lib.hid g_7
                have H_7 := Lib.hid h_7
                have XE_7 := Lib.hid (ext_grown XE_12.out (H_5.out.ext S_12.out) (Nat.le_refl _) g_7)
                clear h_7 g_7
                go_wp2_with fail
                refine ⟨XE_7.out, ?_⟩
                try dsimp only [List.eraseIdx]
                refine segE_alt _ rfl ?_ ?_
                · skip
                  refine appI2 rfl (.tmp 46) (.tmp 51) rfl _ _ keys rfl H_7.out _ _ [F i] rfl (H_12.out.kept G_7.out (fun k hk hk5 => by have h1 := (H_12.out.lt k hk); have h2 := (H_5.out.lt k hk5); omega)) (by simp; omega) XE_7.out.size ?_
                  intro a_13 c_13 w_13 h_13 g_13
                  simp only [List.length_cons, List.length_nil, Nat.zero_add] at h_13 ⊢
                  have H_13 := Lib.hid h_13
                  have XE_13 := Lib.hid (ext_grown XE_7.out H_7.out (Nat.le_refl _) g_13)
                  clear h_13 g_13
                  go_wp2_with fail
                  refine ⟨XE_13.out, ?_⟩
                  try dsimp only [List.eraseIdx]
                  refine segE_alt _ rfl ?_ ?_
                  · skip
                    go_wp2_with fail
                    refine (IH.out (keys ++ [F i]) _ _ (HE1.out.trans XE_13.out) (H_13.out.base (Nat.zero_le _)) (by rw [List.length_append]; simp; omega)).mono ?_
                    rw [HY1.out]
                    rintro e w_14 ⟨rfl, hE14⟩
                    have XE_14 := Lib.hid (XE_13.out.trans hE14)
                    clear hE14
                    go_wp2_with fail
                    refine ⟨XE_14.out, ?_⟩
                    try dsimp only [List.eraseIdx]
                    apply segE_quiet
                    · intro W hW
                      simp only [runsT, runsF, rep, pick]
                      go_wp2_with fail
                      exact ⟨rfl, rfl⟩
                    simp only [runsT, runsF, rep, left]
                    apply segE_done
                    go_wp2_with fail
                    go_meet
                    exact ⟨rfl, HE1.out.trans XE_14.out⟩
                  exact segE_stop
                exact segE_stop
              exact segE_stop
            exact segE_stop
          refine segE_alt _ rfl ?_ ?_
          · skip
            refine lit1I rfl (.tmp 50) rfl (F i) rfl ?_
            intro a_12 c_12 w_12 h_12 s_12
            have H_12 := Lib.hid h_12
            have S_12 := Lib.hid s_12
            have XE_12 := Lib.hid ((Ext.drew w1).trans s_12)
            clear h_12 s_12
            go_wp2_with fail
            refine ⟨XE_12.out, ?_⟩
            try dsimp only [List.eraseIdx]
            refine segE_alt _ rfl ?_ ?_
            · skip
              refine lit0I rfl rfl ?_
              intro a_5 c_5 w_5 h_5 s_5
              have H_5 := Lib.hid h_5
              have S_5 := Lib.hid s_5
              have XE_5 := Lib.hid (XE_12.out.trans s_5)
              clear h_5 s_5
              go_wp2_with fail
              refine ⟨XE_5.out, ?_⟩
              try dsimp only [List.eraseIdx]
              refine segE_alt _ rfl ?_ ?_
              · skip
                refine appI2 rfl (.tmp 44) (.tmp 45) rfl _ _ [] rfl H_5.out 0 _ keys rfl (HK1.out.ext XE_5.out) (by simp; omega) S_5.out.size ?_
                intro a_7 c_7 w_7 h_7 g_7
                simp only [List.nil_append, List.length_nil, Nat.zero_add] at h_7 ⊢
                have G_7 := Lib.hid g_7
                have H_7 := Lib.hid h_7
                have XE_7 := Lib.hid (ext_grown XE_5.out H_5.out XE_12.out.size g_7)
                clear h_7 g_7
                go_wp2_with fail
                refine ⟨XE_7.out, ?_⟩
                try dsimp only [List.eraseIdx]
                refine segE_alt _ rfl ?_ ?_
                · skip
                  refine appI2 rfl (.tmp 46) (.tmp 51) rfl _ _ keys rfl H_7.out _ _ [F i] rfl ((H_12.out.ext S_5.out).kept G_7.out (fun k hk hk5 => by have h1 := (H_12.out.lt k hk); have h2 := (H_5.out.lt k hk5); omega)) (by simp; omega) (Nat.le_trans S_5.out.size G_7.out.size) ?_
                  intro a_13 c_13 w_13 h_13 g_13
                  simp only [List.length_cons, List.length_nil, Nat.zero_add] at h_13 ⊢
                  have H_13 := Lib.hid h_13
                  have XE_13 := Lib.hid (ext_grown XE_7.out H_7.out XE_12.out.size g_13)
                  clear h_13 g_13
                  go_wp2_with fail
                  refine ⟨XE_13.out, ?_⟩
                  try dsimp only [List.eraseIdx]
                  refine segE_alt _ rfl ?_ ?_
                  · skip
                    go_wp2_with fail
                    refine (IH.out (keys ++ [F i]) _ _ (HE1.out.trans XE_13.out) (H_13.out.base (Nat.zero_le _)) (by rw [List.length_append]; simp; omega)).mono ?_
                    rw [HY1.out]
                    rintro e w_14 ⟨rfl, hE14⟩
                    have XE_14 := Lib.hid (XE_13.out.trans hE14)
                    clear hE14
                    go_wp2_with fail
                    refine ⟨XE_14.out, ?_⟩
                    try dsimp only [List.eraseIdx]
                    apply segE_quiet
                    · intro W hW
                      simp only [runsT, runsF, rep, pick]
                      go_wp2_with fail
                      exact ⟨rfl, rfl⟩
                    simp only [runsT, runsF, rep, left]
                    apply segE_done
                    go_wp2_with fail
                    go_meet
                    exact ⟨rfl, HE1.out.trans XE_14.out⟩
                  exact segE_stop
                exact segE_stop
              exact segE_stop
            exact segE_stop
          exact segE_stop
        case rest =>
          obtain ⟨rfl, hEc⟩ := hcut
          have HEc := Lib.hid hEc
          clear hEc
          go_wp2_with fail
          go_loopg [9, 10, 11] 0 (fun g s9 s10 s11 wr => s9 = .int .i64 (max y0 y1) ∧ s10 = .int .i64 0 ∧ wr = wc)
          case atStart => exact ⟨rfl, rfl, rfl⟩
          case round =>
            obtain ⟨rfl, rfl, rfl⟩ := hrel
            by_cases hz : 0 < keys.length
            all_goals
              go_wp2_with fail
              go_ret
              exact ⟨by rw [HR.out]; rfl, HEc.out⟩
      · have d1 : decide ((keys.length : Int) < r) = false := decide_eq_false hlt
        have d3 : ((keys.length : Int) == r) = true := beq_iff_eq.2 (by omega)
        obtain ⟨f, hf⟩ : ∃ f : Nat → Int, f = fun k => best (lst F len) r d (i + 1) (swap keys k (F i)) := ⟨_, rfl⟩
        have HR : Hid (best (lst F len) r (d + 1) i keys = maxes f keys.length y0) := Lib.hid (by simp only [best]; rw [HG.out, if_neg HM.out, if_neg hlt, if_pos (by omega), HY0.out, hf])
        have hfb : ∀ k, 0 ≤ f k ∧ f k ≤ d := fun k => by rw [hf]; exact best_bd _ _ _ _ _
        have HFB := Lib.hid hfb
        have HFE : Hid (∀ k, best (lst F len) r d (i + 1) (swap keys k (F i)) = f k) := Lib.hid (fun k => by rw [hf])
        clear hf hfb
        go_wp2_with fail
        go_loopg [9, 10, 11] keys.length (fun g s9 s10 s11 wr => ∃ k : Nat, s9 = .int .i64 (maxes f k y0) ∧ s10 = .int .i64 k ∧ k ≤ keys.length ∧ Ext w1 wr ∧ keys.length - k ≤ g)
        case atStart => exact ⟨0, rfl, rfl, Nat.zero_le _, Ext.refl _, Nat.le_refl _⟩
        case round =>
          obtain ⟨k, rfl, rfl, hk, hE2, hg⟩ := hrel
          have HE2 := Lib.hid hE2
          have HK2 := Lib.hid (HK1.out.ext hE2)
          clear hE2
          obtain ⟨m0, m1⟩ := maxes_bd f y0 d ⟨b1, b2⟩ HFB.out k
          obtain ⟨m, hm⟩ : ∃ m, maxes f k y0 = m := ⟨_, rfl⟩
          rw [hm] at m0 m1 ⊢
          have HM1 := Lib.hid hm
          obtain ⟨z0, z1⟩ := HFB.out k
          clear hm
          by_cases hkl : k < keys.length
          · obtain ⟨av', cv', kb, hv, c1, c2, c3, c4, c5⟩ := HK2.out.openI
            simp only [Value.slice.injEq] at hv
            obtain ⟨rfl, -, rfl⟩ := hv
            obtain rfl := c3 (by omega)
            unfold maxLen at c2
            have hk1 : (k : Int) + 1 ≤ keys.length := by omega
            have x1 := HF.out _ (HE1.out.trans HE2.out) i hik
            have HC5 := Lib.hid c5
            clear c3 c4 c5
            by_cases hcv : cv = k + 1
            · subst hcv
              go_wp2_with fail
              refine wp_region_segsE (Ext wr) (.quiet [0, 1, 3, 1, 4, 2] (.alt 0 (.alt 0 (.alt 0 (.quiet [1] .done) .stop) .stop) .stop)) (by kernel_rfl) (by kernel_rfl) (Ext.drew _) ?_
              apply segE_quiet
              · intro W hW
                simp only [runsT, runsF, rep, pick]
                go_wp2_with fail
                exact ⟨rfl, rfl⟩
              simp only [runsT, runsF, rep, left]
              refine segE_alt _ rfl ?_ ?_
              · skip
                refine lit0I rfl rfl ?_
                intro a_0 c_0 w_0 h_0 s_0
                have H_0 := Lib.hid h_0
                have XE_0 := Lib.hid ((Ext.drew wr).trans s_0)
                clear h_0 s_0
                go_wp2_with fail
                refine ⟨XE_0.out, ?_⟩
                try dsimp only [List.eraseIdx]
                refine segE_alt _ rfl ?_ ?_
                · skip
                  refine appI rfl (.tmp 67) (.tmp 70) rfl _ _ [] rfl H_0.out (some ⟨kb, 0, none⟩) k _ (keys.take k) rfl (by simp; omega) (fun h => by cases h) (cells_take (HC5.out _ XE_0.out) hk) (by simp; omega) XE_0.out.size ?_
                  intro a_4 c_4 w_4 h_4 g_4
                  simp only [List.nil_append, List.length_nil, Nat.zero_add] at h_4 ⊢
                  have H_4 := Lib.hid h_4
                  have XE_4 := Lib.hid (ext_grown XE_0.out H_0.out (Nat.le_refl _) g_4)
                  clear h_4 g_4
                  go_wp2_with fail
                  refine ⟨XE_4.out, ?_⟩
                  try dsimp only [List.eraseIdx]
                  refine segE_alt _ rfl ?_ ?_
                  · skip
                    refine appI rfl (.tmp 71) (.tmp 75) rfl _ _ (keys.take k) rfl H_4.out _ _ _ (keys.drop (k + 1)) rfl (by simp; omega) (fun h => by cases h) (fun ad had j hj => absurd hj (by omega)) (by simp; omega) XE_4.out.size ?_
                    intro a_9 c_9 w_9 h_9 g_9
                    have e9 : (keys.take k).length + 0 = keys.length - 1 := by simp; omega
                    rw [e9] at h_9 ⊢
                    obtain ⟨L9, hL9⟩ : ∃ L, keys.take k ++ keys.drop (k + 1) = L := ⟨_, rfl⟩
                    rw [hL9] at h_9
                    have e6 : L9.length + 1 = keys.length := by rw [← hL9]; simp; omega
                    have HL9 := Lib.hid hL9
                    have E6 := Lib.hid e6
                    have H_9 := Lib.hid h_9
                    have XE_9 := Lib.hid (ext_grown XE_4.out H_4.out (Nat.le_refl _) g_9)
                    clear h_9 g_9 e9 e6 hL9
                    go_wp2_with fail
                    refine ⟨XE_9.out, ?_⟩
                    try dsimp only [List.eraseIdx]
                    apply segE_quiet
                    · intro W hW
                      simp only [runsT, runsF, rep, pick]
                      go_wp2_with fail
                      exact ⟨rfl, rfl⟩
                    simp only [runsT, runsF, rep, left]
                    apply segE_done
                    have x2 := HF.out _ (HE1.out.trans (HE2.out.trans XE_9.out)) i hik
                    go_wp2_with (at_builtin; refine appI rfl (.tmp 77) (.tmp 82) rfl _ _ _ rfl (H_9.out.ext ((Below.refl _ _).alloc (Nat.le_refl _) _)) (some ⟨w_9.heap.size, 0, none⟩) 1 1 [F i] rfl rfl (fun h => by cases h) (lit_cells _ _) (by have := E6.out; omega) (Nat.le_trans XE_9.out.size (Nat.le_of_lt (by simp))) ?_)
                    intro a_6 c_6 w_6 h_6 g_6
                    rw [E6.out] at h_6 ⊢
                    rw [← HL9.out] at h_6
                    change Ints w_6 _ _ (swap keys k (F i)) at h_6
                    have XE_6 := Lib.hid (ext_grown (XE_9.out.alloc XE_9.out.size _) (H_9.out.ext ((Below.refl _ _).alloc (Nat.le_refl _) _)) (Nat.le_refl _) g_6)
                    have H_6 := Lib.hid h_6
                    clear h_6 g_6 x2
                    go_wp2_with fail
                    refine (IH.out (swap keys k (F i)) _ _ (HE1.out.trans (HE2.out.trans XE_6.out)) (H_6.out.base (Nat.zero_le _)) (by rw [swap_len hkl]; exact hkr)).mono ?_
                    rw [HFE.out]
                    rintro e w_8 ⟨rfl, hE8⟩
                    have XE_8 := Lib.hid (HE2.out.trans (XE_6.out.trans hE8))
                    clear hE8
                    go_wp2_with fail
                    go_roundg (keys.length - (k + 1))
                    case measure => omega
                    case rel => exact ⟨k + 1, by simp only [maxes]; rw [HM1.out], by go_num, by omega, XE_8.out, Nat.le_refl _⟩
                  exact segE_stop
                exact segE_stop
              exact segE_stop
            · go_wp2_with fail
              refine wp_region_segsE (Ext wr) (.quiet [0, 1, 3, 1, 4, 2] (.alt 0 (.alt 0 (.alt 0 (.quiet [1] .done) .stop) .stop) .stop)) (by kernel_rfl) (by kernel_rfl) (Ext.drew _) ?_
              apply segE_quiet
              · intro W hW
                simp only [runsT, runsF, rep, pick]
                go_wp2_with fail
                exact ⟨rfl, rfl⟩
              simp only [runsT, runsF, rep, left]
              refine segE_alt _ rfl ?_ ?_
              · skip
                refine lit0I rfl rfl ?_
                intro a_0 c_0 w_0 h_0 s_0
                have H_0 := Lib.hid h_0
                have XE_0 := Lib.hid ((Ext.drew wr).trans s_0)
                clear h_0 s_0
                go_wp2_with fail
                refine ⟨XE_0.out, ?_⟩
                try dsimp only [List.eraseIdx]
                refine segE_alt _ rfl ?_ ?_
                · skip
                  refine appI rfl (.tmp 67) (.tmp 70) rfl _ _ [] rfl H_0.out (some ⟨kb, 0, none⟩) k _ (keys.take k) rfl (by simp; omega) (fun h => by cases h) (cells_take (HC5.out _ XE_0.out) hk) (by simp; omega) XE_0.out.size ?_
                  intro a_4 c_4 w_4 h_4 g_4
                  simp only [List.nil_append, List.length_nil, Nat.zero_add] at h_4 ⊢
                  have H_4 := Lib.hid h_4
                  have XE_4 := Lib.hid (ext_grown XE_0.out H_0.out (Nat.le_refl _) g_4)
                  clear h_4 g_4
                  go_wp2_with fail
                  refine ⟨XE_4.out, ?_⟩
                  try dsimp only [List.eraseIdx]
                  refine segE_alt _ rfl ?_ ?_
                  · skip
                    refine appI rfl (.tmp 71) (.tmp 75) rfl _ _ (keys.take k) rfl H_4.out _ _ _ (keys.drop (k + 1)) rfl (by simp) (fun h => by cases h) (cells_drop (keys := keys) (k := k + 1) (HC5.out _ XE_4.out) (fun _ => rfl)) (by simp; omega) XE_4.out.size ?_
                    intro a_9 c_9 w_9 h_9 g_9
                    have e9 : (keys.take k).length + (keys.length - (k + 1)) = keys.length - 1 := by simp; omega
                    rw [e9] at h_9 ⊢
                    obtain ⟨L9, hL9⟩ : ∃ L, keys.take k ++ keys.drop (k + 1) = L := ⟨_, rfl⟩
                    rw [hL9] at h_9
                    have e6 : L9.length + 1 = keys.length := by rw [← hL9]; simp; omega
                    have HL9 := Lib.hid hL9
                    have E6 := Lib.hid e6
                    have H_9 := Lib.hid h_9
                    have XE_9 := Lib.hid (ext_grown XE_4.out H_4.out (Nat.le_refl _) g_9)
                    clear h_9 g_9 e9 e6 hL9
                    go_wp2_with fail
                    refine ⟨XE_9.out, ?_⟩
                    try dsimp only [List.eraseIdx]
                    apply segE_quiet
                    · intro W hW
                      simp only [runsT, runsF, rep, pick]
                      go_wp2_with fail
                      exact ⟨rfl, rfl⟩
                    simp only [runsT, runsF, rep, left]
                    apply segE_done
                    have x2 := HF.out _ (HE1.out.trans (HE2.out.trans XE_9.out)) i hik
                    go_wp2_with (at_builtin; refine appI rfl (.tmp 77) (.tmp 82) rfl _ _ _ rfl (H_9.out.ext ((Below.refl _ _).alloc (Nat.le_refl _) _)) (some ⟨w_9.heap.size, 0, none⟩) 1 1 [F i] rfl rfl (fun h => by cases h) (lit_cells _ _) (by have := E6.out; omega) (Nat.le_trans XE_9.out.size (Nat.le_of_lt (by simp))) ?_)
                    intro a_6 c_6 w_6 h_6 g_6
                    rw [E6.out] at h_6 ⊢
                    rw [← HL9.out] at h_6
                    change Ints w_6 _ _ (swap keys k (F i)) at h_6
                    have XE_6 := Lib.hid (ext_grown (XE_9.out.alloc XE_9.out.size _) (H_9.out.ext ((Below.refl _ _).alloc (Nat.le_refl _) _)) (Nat.le_refl _) g_6)
                    have H_6 := Lib.hid h_6
                    clear h_6 g_6 x2
                    go_wp2_with fail
                    refine (IH.out (swap keys k (F i)) _ _ (HE1.out.trans (HE2.out.trans XE_6.out)) (H_6.out.base (Nat.zero_le _)) (by rw [swap_len hkl]; exact hkr)).mono ?_
                    rw [HFE.out]
                    rintro e w_8 ⟨rfl, hE8⟩
                    have XE_8 := Lib.hid (HE2.out.trans (XE_6.out.trans hE8))
                    clear hE8
                    go_wp2_with fail
                    go_roundg (keys.length - (k + 1))
                    case measure => omega
                    case rel => exact ⟨k + 1, by simp only [maxes]; rw [HM1.out], by go_num, by omega, XE_8.out, Nat.le_refl _⟩
                  exact segE_stop
                exact segE_stop
              exact segE_stop
          · obtain rfl : k = keys.length := by omega
            have hdk : decide ((keys.length : Int) < (keys.length : Int)) = false := decide_eq_false (by omega)
            clear hkl
            go_wp2_with fail
            go_ret
            exact ⟨by rw [HR.out, HM1.out]; rfl, HE1.out.trans HE2.out⟩
set_option maxRecDepth 100000 in
set_option maxHeartbeats 2000000 in
theorem best_walk (a : Option Addr) (len cap b off : Nat) (F : Nat → Int) (room : Int) (w : World) (ha : 0 < len → a = some ⟨b, off, none⟩) (hlm : len ≤ maxLen) (hwf : ∀ i, i < len → (Lit.int .i64 (F i)).wf = true)
    (hF : ∀ W, Ext w W → ∀ i, i < len → W.cell? ⟨b, off + i, none⟩ = some (.int .i64 (F i))) (hr : (Lit.int .i64 room).wf = true) :
    Calls Try.prog 3 #[.slice a len cap, .int .i64 room] w fun e w' => e = .returned (.bool true) ∧ Ext w w' := by
  unfold maxLen at hlm
  obtain ⟨hr1, hr2⟩ := wf_bounds hr
  clear hr
  by_cases hbig : 9 < len ∨ 3 < room
  · have hB := Lib.hid hbig
    clear ha hF hwf hbig
    by_cases h1 : 9 < len
    · have d0 : decide ((9 : Int) < (len : Int)) = true := decide_eq_true (by omega)
      go_enter Try.func3, Try.ntmps3
      go_wp2_with fail
      refine (awake_any _).mono ?_
      rintro e w' ⟨rfl, hE⟩
      go_wp2_with fail
      go_ret
      exact ⟨rfl, hE⟩
    · have d0 : decide ((9 : Int) < (len : Int)) = false := decide_eq_false (by omega)
      have d1 : decide (3 < room) = true := decide_eq_true (hB.out.resolve_left h1)
      go_enter Try.func3, Try.ntmps3
      go_wp2_with fail
      refine (awake_any _).mono ?_
      rintro e w' ⟨rfl, hE⟩
      go_wp2_with fail
      go_ret
      exact ⟨rfl, hE⟩
  · have h1 : len ≤ 9 := by omega
    have h2 : room ≤ 3 := by omega
    have d0 : decide ((9 : Int) < (len : Int)) = false := decide_eq_false (by omega)
    have d1 : decide (3 < room) = false := decide_eq_false (by omega)
    obtain ⟨r, hr⟩ : ∃ r, max room 0 = r := ⟨_, rfl⟩
    have H1 := Hits_any a len cap b off F room r w ha (by omega) hwf hF (by omega)
    have H2 : ∀ W, Ext w W → _ := fun W hW => Best_any a len cap b off F r ha h1 (by omega) (by omega) len 0 [] (.slice none 0 0) W (by omega) (fun W' h' => hF W' (hW.trans h')) (World.ownsRow_nil _ _ _ _) (by simp; omega)
    have hb := best_eq (lst F len) r (by omega)
    rw [lst_len] at hb
    rw [hb] at H2
    obtain ⟨n, hn⟩ : ∃ n, B (lst F len) r len 0 (fun _ => 0) = n := ⟨_, rfl⟩
    rw [hn] at H1 H2
    have H1 := Lib.hid H1
    have H2 := Lib.hid H2
    have e0 : (n == n) = true := beq_self_eq_true n
    clear ha hF hwf hb hn hbig h1 h2
    go_enter Try.func3, Try.ntmps3
    go_wp2_with fail
    refine H1.out.mono ?_
    rintro e w1 ⟨rfl, hE1⟩
    have HE1 := Lib.hid hE1
    clear hE1
    go_wp2_with fail
    refine (H2.out _ HE1.out).mono ?_
    rintro e w2 ⟨rfl, hE2⟩
    have HE2 := Lib.hid (HE1.out.trans hE2)
    clear hE2
    go_wp2_with fail
    refine (awake_any _).mono ?_
    rintro e w3 ⟨rfl, hE3⟩
    go_wp2_with fail
    go_ret
    exact ⟨rfl, HE2.out.trans hE3⟩
end Go.Proofs.Ytnjohjicmhobdaa.Bl
