/-
  Belady: the document's cache by choices: the walk of Serve.
  At most 4096 requests; no other condition.
-/
import Derived.Test.YtnjohjicmhobdaaBelRef
import Derived.Test.YtnjohjicmhobdaaBelSv
import Derived.Test.YtnjohjicmhobdaaBelBestW
namespace Go.Proofs.Ytnjohjicmhobdaa.Bl
open Go.RowKit Go.Seg Go.Open Go.Lib Bel Rk TrUs Lo1

theorem cnt_is {ks : List Int} {x : Int} (h : ks.Pairwise (· < ·)) {t : Nat} (ht : t ≤ ks.length) (h1 : ∀ j, j < t → ks.getD j 0 < x) (h2 : t < ks.length → x ≤ ks.getD t 0) : ks.countP (· < x) = t := by
  have e : ks.countP (· < x) = (ks.take t).countP (· < x) + (ks.drop t).countP (· < x) := by rw [← List.countP_append, List.take_append_drop]
  have e1 : (ks.take t).countP (· < x) = t := by
    have : (ks.take t).countP (· < x) = (ks.take t).length := by
      rw [List.countP_eq_length]
      intro y hy
      obtain ⟨j, hj, rfl⟩ := List.mem_iff_getElem.1 hy
      have hj' : j < t := by rw [List.length_take] at hj; omega
      have := h1 j hj'
      rw [List.getElem_take]
      rw [getD_eq (by omega)] at this
      simpa using this
    rw [this, List.length_take]
    omega
  have e2 : (ks.drop t).countP (· < x) = 0 := by
    rw [List.countP_eq_zero]
    intro y hy
    obtain ⟨j, hj, rfl⟩ := List.mem_iff_getElem.1 hy
    rw [List.length_drop] at hj
    rw [List.getElem_drop]
    have h3 := h2 (by omega)
    rw [getD_eq (by omega)] at h3
    by_cases hz : j = 0
    · subst hz; simpa using h3
    · have := List.pairwise_iff_getElem.1 h t (t + j) (by omega) (by omega) (by omega)
      simp
      omega
  omega
theorem SS.ins {l : List Int} {r : Int} {ch : Nat → Int} {len : Nat} {w wr w2 : World} {k : Nat} {h : Int} {v v2 : Value} {keys K : List Int} (s : SS l r ch len w wr k h v keys) (hk : k < len) (hn : l.getD k 0 ∉ keys) (hc : ch k ≠ r) (hc0 : 0 ≤ ch k ∧ ch k ≤ r)
    (hK : ((keys.length : Int) = r → K = cut keys (ch k).toNat) ∧ ((keys.length : Int) ≠ r → K = keys)) (hrow : Ints w2 w.heap.size v2 (insS K (l.getD k 0))) (hE : Ext w w2) : SS l r ch len w w2 (k + 1) h v2 (insS K (l.getD k 0)) := by
  have hlr := s.lr
  have hlk := s.lk
  by_cases hf : (keys.length : Int) = r
  · have e := hK.1 hf
    have hl := cut_len (ks := keys) (i := (ch k).toNat) (by omega)
    subst e
    refine ⟨hrow, up_insS (up_cut s.up _) (not_cut hn _), by rw [insS_len]; omega, by rw [insS_len]; omega, s.h0, by have := s.hk; omega, hE, s.sum' hk ?_⟩
    rw [srv_no hn]
    unfold chosen
    rw [if_neg hc, if_pos (by omega)]
  · have e := hK.2 hf
    subst e
    refine ⟨hrow, up_insS s.up hn, by rw [insS_len]; omega, by rw [insS_len]; omega, s.h0, by have := s.hk; omega, hE, s.sum' hk ?_⟩
    rw [srv_no hn]
    unfold chosen
    rw [if_neg hc, if_neg (by omega)]

set_option maxRecDepth 100000 in
set_option maxHeartbeats 8000000 in
theorem rServe_any (a : Option Addr) (len cap b off : Nat) (F : Nat → Int) (ca : Option Addr) (n ccap cb coff : Nat) (C : Nat → Int) (room r : Int) (w : World)
    (ha : 0 < len → a = some ⟨b, off, none⟩) (hl : len ≤ 4096) (hF : ∀ W, Ext w W → ∀ i, i < len → W.cell? ⟨b, off + i, none⟩ = some (.int .i64 (F i)))
    (hca : 0 < n → ca = some ⟨cb, coff, none⟩) (hn : n ≤ maxLen) (hwfC : ∀ j, j < n → -9223372036854775808 ≤ C j ∧ C j ≤ 9223372036854775807) (hC : ∀ W, Ext w W → ∀ i, i < n → W.cell? ⟨cb, coff + i, none⟩ = some (.int .i64 (C i)))
    (hr : (room < 0 ∧ r = 0) ∨ (0 ≤ room ∧ room = r)) (hr1 : r ≤ 9223372036854775807) :
    Calls Try.prog 17 #[.slice a len cap, .int .i64 room, .slice ca n ccap] w fun e w' => e = .returned (.int .i64 (srv (lst F len) r (chc C n r) len 0 [])) ∧ Ext w w' := by
  have HA := Lib.hid ha
  have HF := Lib.hid hF
  have HCA := Lib.hid hca
  have HWC := Lib.hid hwfC
  have HC := Lib.hid hC
  have HLL := Lib.hid (lst_len F len)
  have HS0 : Hid (SS (lst F len) r (chc C n r) len w w 0 0 (.slice none 0 0) []) := Lib.hid ⟨World.ownsRow_nil _ _ _ _, List.Pairwise.nil, by simp; omega, Nat.le_refl _, Int.le_refl _, Int.le_refl _, Ext.refl _, by simp⟩
  have hr0 : 0 ≤ r := by omega
  have hmx : max room 0 = r := by omega
  unfold maxLen at hn
  clear ha hF hca hwfC hC hr
  go_enter Try.func17, Try.ntmps17
  go_wp2_with fail
  clear hmx
  go_loopg [7, 8, 9] len (fun g v u i wr => ∃ (k : Nat) (h : Int) (keys : List Int), u = .int .i64 h ∧ i = .int .i64 k ∧ k ≤ len ∧ SS (lst F len) r (chc C n r) len w wr k h v keys ∧ len - k ≤ g)
  case atStart => exact ⟨0, 0, [], rfl, rfl, Nat.zero_le _, HS0.out, Nat.le_refl _⟩
  case round =>
    clear HS0
    obtain ⟨k, h, keys, rfl, rfl, hk, hS, hg⟩ := hrel
    have HS := Lib.hid hS
    have hh0 := hS.h0
    have hhk := hS.hk
    have hkr := hS.lr
    have hkk := hS.lk
    obtain ⟨av, cv, kb, rfl, c1, c2, c3, c4, c5⟩ := hS.row.openI
    have HV := Lib.hid c3
    have HC5 := Lib.hid c5
    unfold maxLen at c2
    clear hS c3 c4 c5
    by_cases hik : k < len
    · obtain rfl := HA.out (by omega)
      have HKL : Hid (k < (lst F len).length) := Lib.hid (by rw [HLL.out]; exact hik)
      have HG : Hid ((lst F len).getD k 0 = F k) := Lib.hid (by rw [getD_eq HKL.out, lst_get])
      have x0 := HF.out _ HS.out.ext k hik
      by_cases hm : F k ∈ keys
      · have HB := Lib.hid (decide_eq_true hm)
        have HI := Lib.hid (HS.out.hit HKL.out (by rw [HG.out]; exact hm) hik)
        clear hm
        go_wp2_with fail
        refine (among_ints _ _ _ _ _ HS.out.row (by omega)).mono ?_
        rw [HB.out]
        rintro e w' ⟨rfl, rfl⟩
        go_wp2_with fail
        go_roundg (len - (k + 1))
        case measure => omega
        case rel => exact ⟨k + 1, h + 1, keys, rfl, by go_num, by omega, HI.out, Nat.le_refl _⟩
      · have HB := Lib.hid (decide_eq_false hm)
        have HNM : Hid ((lst F len).getD k 0 ∉ keys) := Lib.hid (by rw [HG.out]; exact hm)
        obtain ⟨c, hc⟩ : ∃ c, chc C n r k = c := ⟨_, rfl⟩
        have hck := chc_ok C n hr0 k
        rw [hc] at hck
        have HCC := Lib.hid hc
        obtain ⟨hc0, hc1⟩ := hck
        clear hc hm
        go_wp2_with fail
        refine (among_ints _ _ _ _ _ HS.out.row (by omega)).mono ?_
        rw [HB.out]
        rintro e w' ⟨rfl, rfl⟩
        obtain ⟨bb, hbb⟩ : ∃ bb : Bool, decide (k < n ∧ 0 ≤ C k) = bb := ⟨_, rfl⟩
        have HBB := Lib.hid hbb
        clear hbb
        go_upto_region 10 with fail
        go_cut [38] (fun s wx => s = .bool bb ∧ wx = wr)
        case first =>
          by_cases h1 : k < n
          · obtain rfl := HCA.out (by omega)
            have x1 := HC.out _ HS.out.ext k h1
            by_cases h2 : 0 ≤ C k
            · have d2 : decide (0 ≤ C k) = true := decide_eq_true h2
              have E : Hid (bb = true) := Lib.hid (by rw [← HBB.out]; exact decide_eq_true ⟨h1, h2⟩)
              go_wp2_with fail
              go_meet
              exact ⟨by rw [E.out], rfl⟩
            · have d2 : decide (0 ≤ C k) = false := decide_eq_false h2
              have E : Hid (bb = false) := Lib.hid (by rw [← HBB.out]; exact decide_eq_false (fun h => h2 h.2))
              go_wp2_with fail
              go_meet
              exact ⟨by rw [E.out], rfl⟩
          · have d1 : decide ((k : Int) < (n : Int)) = false := decide_eq_false (by omega)
            have E : Hid (bb = false) := Lib.hid (by rw [← HBB.out]; exact decide_eq_false (fun h => h1 h.1))
            go_wp2_with fail
            go_meet
            exact ⟨by rw [E.out], rfl⟩
        case rest =>
        obtain ⟨rfl, rfl⟩ := hcut
        go_upto_if 38 with fail
        go_cut [10] (fun s10 wx => s10 = .int .i64 c ∧ wx = wc)
        case first =>
          have hc := HCC.out
          unfold chc at hc
          cases bb with
          | true =>
            have hb := of_decide_eq_true HBB.out
            obtain rfl := HCA.out (by omega)
            obtain ⟨h1, h2⟩ := hb
            have x1 := HC.out _ HS.out.ext k h1
            obtain ⟨w0, w1⟩ := HWC.out k h1
            rw [if_pos ⟨h1, h2⟩] at hc
            have m0 := Int.emod_nonneg (C k) (show r + 1 ≠ 0 by omega)
            have m1 := Int.emod_lt_of_pos (C k) (show 0 < r + 1 by omega)
            have HC' := Lib.hid hc
            clear hc
            go_wp2_with fail
            go_meet
            exact ⟨by rw [← HC'.out], rfl⟩
          | false =>
            rw [if_neg (of_decide_eq_false HBB.out)] at hc
            have HC' := Lib.hid hc
            clear hc
            go_wp2_with fail
            go_meet
            exact ⟨by rw [← HC'.out], rfl⟩
        case rest =>
          obtain ⟨rfl, rfl⟩ := hcut
          by_cases hcr : c = r
          · have d1 : (c == r) = true := by simp [hcr]
            have HST := Lib.hid (srv_no (l := lst F len) (r := r) (ch := chc C n r) (d := len - (k + 1)) (i := k) (keys := keys) HNM.out)
            have HCR := Lib.hid hcr
            clear hcr
            go_wp2_with fail
            go_roundg (len - (k + 1))
            case measure => omega
            case rel => exact ⟨k + 1, h, keys, rfl, by go_num, by omega, ⟨HS.out.row, HS.out.up, hkr, by omega, hh0, by omega, HS.out.ext, HS.out.sum' hik (by rw [HST.out, HCC.out]; unfold chosen; rw [if_pos HCR.out])⟩, Nat.le_refl _⟩
          · have d1 : (c == r) = false := by simp [hcr]
            have HCR := Lib.hid hcr
            obtain ⟨j, rfl⟩ : ∃ j : Nat, c = j := ⟨c.toNat, by omega⟩
            clear hcr
            obtain ⟨K, hK⟩ : ∃ K, ((keys.length : Int) = r → K = cut keys j) ∧ ((keys.length : Int) ≠ r → K = keys) := by
              by_cases hf : (keys.length : Int) = r
              · exact ⟨cut keys j, fun _ => rfl, fun h => absurd hf h⟩
              · exact ⟨keys, fun h => absurd h hf, fun _ => rfl⟩
            have HK := Lib.hid hK
            clear hK
            obtain ⟨fb, hfb⟩ : ∃ fb : Bool, ((keys.length : Int) == r) = fb := ⟨_, rfl⟩
            go_upto_if 55 with fail
            have HFB := Lib.hid hfb
            clear hfb
            go_cut [7] (fun s7 wx => (∃ a7 c7, s7 = .slice a7 K.length c7) ∧ Ints wx w.heap.size s7 K ∧ Ext w wx)
            case first =>
              cases fb with
              | true =>
                have hf : (keys.length : Int) = r := by have := HFB.out; simpa using this
                have HE := Lib.hid HS.out.ext
                have HKE := Lib.hid (HK.out.1 hf)
                have hjk : j < keys.length := by have := HCR.out; omega
                obtain rfl := HV.out (by omega)
                by_cases hcv : cv = j + 1
                · subst hcv
                  go_wp2_with fail
                  refine wp_region_segsE (Ext wc) (.quiet [0, 1, 3, 1, 4, 2] (.alt 0 (.alt 0 (.alt 0 (.quiet [1] .done) .stop) .stop) .stop)) (by kernel_rfl) (by kernel_rfl) (Ext.drew _) ?_
                  apply segE_quiet
                  · intro W hW
                    simp only [runsT, runsF, rep, pick]
                    go_wp2_with fail
                    exact ⟨rfl, rfl⟩
                  simp only [runsT, runsF, rep, left]
                  refine segE_alt _ rfl ?_ ?_
                  · skip
                    refine lit0I rfl rfl ?_
                    intro a_0 c_0 w_0 h_0 s_0
                    have H_0 := Lib.hid h_0
                    have XE_0 := Lib.hid ((Ext.drew wc).trans s_0)
                    clear h_0 s_0
                    go_wp2_with fail
                    refine ⟨XE_0.out, ?_⟩
                    try dsimp only [List.eraseIdx]
                    refine segE_alt _ rfl ?_ ?_
                    · skip
                      refine appI rfl (.tmp 56) (.tmp 59) rfl _ _ [] rfl H_0.out (some ⟨kb, 0, none⟩) j _ (keys.take j) rfl (by simp; omega) (fun h => by cases h) (cells_take (HC5.out _ XE_0.out) (by omega)) (by simp; omega) XE_0.out.size ?_
                      intro a_4 c_4 w_4 h_4 g_4
                      simp only [List.nil_append, List.length_nil, Nat.zero_add] at h_4 ⊢
                      have H_4 := Lib.hid h_4
                      have XE_4 := Lib.hid (ext_grown XE_0.out H_0.out (Nat.le_refl _) g_4)
                      clear h_4 g_4
                      go_wp2_with fail
                      refine ⟨XE_4.out, ?_⟩
                      try dsimp only [List.eraseIdx]
                      refine segE_alt _ rfl ?_ ?_
                      · skip
                        refine appI rfl (.tmp 60) (.tmp 64) rfl _ _ (keys.take j) rfl H_4.out _ _ _ (keys.drop (j + 1)) rfl (by simp; omega) (fun h => by cases h) (fun ad had j hj => absurd hj (by omega)) (by simp; omega) XE_4.out.size ?_
                        intro a_9 c_9 w_9 h_9 g_9
                        have e9 : (keys.take j).length + 0 = (cut keys j).length := by unfold cut; simp; omega
                        rw [e9] at h_9 ⊢
                        change Ints w_9 _ _ (cut keys j) at h_9
                        have H_9 := Lib.hid h_9
                        have XE_9 := Lib.hid (ext_grown XE_4.out H_4.out (Nat.le_refl _) g_9)
                        clear h_9 g_9 e9
                        go_wp2_with fail
                        refine ⟨XE_9.out, ?_⟩
                        try dsimp only [List.eraseIdx]
                        apply segE_quiet
                        · intro W hW
                          simp only [runsT, runsF, rep, pick]
                          go_wp2_with fail
                          exact ⟨rfl, rfl⟩
                        simp only [runsT, runsF, rep, left]
                        apply segE_done
                        go_wp2_with fail
                        go_meet
                        exact ⟨⟨_, _, by rw [HKE.out]⟩, by rw [HKE.out]; exact H_9.out.base HS.out.ext.size, HS.out.ext.trans XE_9.out⟩
                      exact segE_stop
                    exact segE_stop
                  exact segE_stop
                · go_wp2_with fail
                  refine wp_region_segsE (Ext wc) (.quiet [0, 1, 3, 1, 4, 2] (.alt 0 (.alt 0 (.alt 0 (.quiet [1] .done) .stop) .stop) .stop)) (by kernel_rfl) (by kernel_rfl) (Ext.drew _) ?_
                  apply segE_quiet
                  · intro W hW
                    simp only [runsT, runsF, rep, pick]
                    go_wp2_with fail
                    exact ⟨rfl, rfl⟩
                  simp only [runsT, runsF, rep, left]
                  refine segE_alt _ rfl ?_ ?_
                  · skip
                    refine lit0I rfl rfl ?_
                    intro a_0 c_0 w_0 h_0 s_0
                    have H_0 := Lib.hid h_0
                    have XE_0 := Lib.hid ((Ext.drew wc).trans s_0)
                    clear h_0 s_0
                    go_wp2_with fail
                    refine ⟨XE_0.out, ?_⟩
                    try dsimp only [List.eraseIdx]
                    refine segE_alt _ rfl ?_ ?_
                    · skip
                      refine appI rfl (.tmp 56) (.tmp 59) rfl _ _ [] rfl H_0.out (some ⟨kb, 0, none⟩) j _ (keys.take j) rfl (by simp; omega) (fun h => by cases h) (cells_take (HC5.out _ XE_0.out) (by omega)) (by simp; omega) XE_0.out.size ?_
                      intro a_4 c_4 w_4 h_4 g_4
                      simp only [List.nil_append, List.length_nil, Nat.zero_add] at h_4 ⊢
                      have H_4 := Lib.hid h_4
                      have XE_4 := Lib.hid (ext_grown XE_0.out H_0.out (Nat.le_refl _) g_4)
                      clear h_4 g_4
                      go_wp2_with fail
                      refine ⟨XE_4.out, ?_⟩
                      try dsimp only [List.eraseIdx]
                      refine segE_alt _ rfl ?_ ?_
                      · skip
                        refine appI rfl (.tmp 60) (.tmp 64) rfl _ _ (keys.take j) rfl H_4.out _ _ _ (keys.drop (j + 1)) rfl (by simp) (fun h => by cases h) (cells_drop (keys := keys) (k := j + 1) (HC5.out _ XE_4.out) (fun _ => rfl)) (by simp; omega) XE_4.out.size ?_
                        intro a_9 c_9 w_9 h_9 g_9
                        have e9 : (keys.take j).length + (keys.length - (j + 1)) = (cut keys j).length := by unfold cut; simp
                        rw [e9] at h_9 ⊢
                        change Ints w_9 _ _ (cut keys j) at h_9
                        have H_9 := Lib.hid h_9
                        have XE_9 := Lib.hid (ext_grown XE_4.out H_4.out (Nat.le_refl _) g_9)
                        clear h_9 g_9 e9
                        go_wp2_with fail
                        refine ⟨XE_9.out, ?_⟩
                        try dsimp only [List.eraseIdx]
                        apply segE_quiet
                        · intro W hW
                          simp only [runsT, runsF, rep, pick]
                          go_wp2_with fail
                          exact ⟨rfl, rfl⟩
                        simp only [runsT, runsF, rep, left]
                        apply segE_done
                        go_wp2_with fail
                        go_meet
                        exact ⟨⟨_, _, by rw [HKE.out]⟩, by rw [HKE.out]; exact H_9.out.base HS.out.ext.size, HS.out.ext.trans XE_9.out⟩
                      exact segE_stop
                    exact segE_stop
                  exact segE_stop
              | false =>
                have hf : (keys.length : Int) ≠ r := by have := HFB.out; simpa using this
                have HKE := Lib.hid (HK.out.2 hf)
                go_wp2_with fail
                go_meet
                exact ⟨⟨_, _, by rw [HKE.out]⟩, by rw [HKE.out]; exact HS.out.row, HS.out.ext⟩
            case rest =>
              obtain ⟨⟨a7, c7, rfl⟩, hR7, hEc⟩ := hcut
              have HR7 := Lib.hid hR7
              have HEc := Lib.hid hEc
              have hKl : K.length ≤ 4096 := by
                by_cases hf : (keys.length : Int) = r
                · rw [HK.out.1 hf]; have := cut_len (ks := keys) (i := j) (by have := HCR.out; omega); omega
                · rw [HK.out.2 hf]; omega
              have HKU : Hid (K.Pairwise (· < ·)) := Lib.hid (by
                by_cases hf : (keys.length : Int) = r
                · rw [HK.out.1 hf]; exact up_cut HS.out.up _
                · rw [HK.out.2 hf]; exact HS.out.up)
              obtain ⟨a7', c7', kb7, hv, g1, g2, g3, g4, g5⟩ := hR7.openI
              simp only [Value.slice.injEq] at hv
              obtain ⟨rfl, -, rfl⟩ := hv
              have HV7 := Lib.hid g3
              have HC7 := Lib.hid g5
              unfold maxLen at g2
              clear hR7 hEc g3 g4 g5
              go_wp2_with fail
              go_loopg [11] K.length (fun g s w2 => ∃ t : Nat, s = .int .i64 t ∧ t ≤ K.length ∧ Ext wc w2 ∧ Hid (∀ j, j < t → K.getD j 0 < F k) ∧ K.length - t ≤ g)
              case atStart => exact ⟨0, rfl, Nat.zero_le _, Ext.refl _, Lib.hid (fun j h => absurd h (by omega)), Nat.le_refl _⟩
              case round =>
                obtain ⟨t, rfl, ht, hE2, hlow, hg2⟩ := hrel
                have HE2 := Lib.hid hE2
                clear hE2
                by_cases htk : t < K.length
                · obtain rfl := HV7.out (by omega)
                  have d4 : decide ((t : Int) < (K.length : Int)) = true := decide_eq_true (by omega)
                  obtain ⟨z, hz⟩ : ∃ z, K.getD t 0 = z := ⟨_, rfl⟩
                  have HZ := Lib.hid hz
                  clear hz
                  by_cases hlt : z < F k
                  · have d5 : decide (z < F k) = true := decide_eq_true hlt
                    have HLT := Lib.hid hlt
                    clear hlt
                    go_wp2_with fail
                    refine wp_region_segsE (Ext wr) (.quiet [15] .done) (by kernel_rfl) (by kernel_rfl) (Ext.drew _) ?_
                    apply segE_quiet
                    · intro W hW
                      have y0 := HF.out _ (HEc.out.trans (HE2.out.trans hW)) k hik
                      have y1 := HC7.out _ (HE2.out.trans hW) t htk
                      rw [Nat.zero_add, HZ.out] at y1
                      simp only [runsT, runsF, rep, pick]
                      go_wp2_with fail
                      exact ⟨rfl, rfl⟩
                    simp only [runsT, runsF, rep, left]
                    apply segE_done
                    go_wp2_with fail
                    go_roundg (K.length - (t + 1))
                    case measure => omega
                    case rel => exact ⟨t + 1, by go_num, by omega, HE2.out.trans (Ext.drew _), Lib.hid (fun j hj => by
                      by_cases e : j = t
                      · rw [e, HZ.out]; exact HLT.out
                      · exact hlow.out j (by omega)), Nat.le_refl _⟩
                  · have d5 : decide (z < F k) = false := decide_eq_false hlt
                    have HCN : Hid (K.countP (· < F k) = t) := Lib.hid (cnt_is HKU.out (by omega) hlow.out (fun _ => by rw [HZ.out]; omega))
                    clear hlt
                    go_wp2_with fail
                    refine wp_region_segsE (Ext wr) (.quiet [15] .done) (by kernel_rfl) (by kernel_rfl) (Ext.drew _) ?_
                    apply segE_quiet
                    · intro W hW
                      have y0 := HF.out _ (HEc.out.trans (HE2.out.trans hW)) k hik
                      have y1 := HC7.out _ (HE2.out.trans hW) t htk
                      rw [Nat.zero_add, HZ.out] at y1
                      simp only [runsT, runsF, rep, pick]
                      go_wp2_with fail
                      exact ⟨rfl, rfl⟩
                    simp only [runsT, runsF, rep, left]
                    apply segE_done
                    go_wp2_with fail
                    have hct : ¬ c7 = t := by omega
                    have ht0 : (t : Int) ≤ (K.length : Int) := by omega
                    go_wp2_with fail
                    refine wp_region_segsE (Ext wr) (.quiet [0, 1, 3, 1, 4, 2, 3, 2] (.alt 0 (.alt 0 (.alt 0 (.alt 0 (.alt 0 (.quiet [1] .done) .stop) .stop) .stop) (.alt 1 (.alt 0 (.alt 0 (.alt 0 (.quiet [1] .done) .stop) .stop) .stop) .stop)) (.alt 2 (.alt 0 (.alt 0 (.alt 0 (.alt 0 (.quiet [1] .done) .stop) .stop) .stop) .stop) .stop))) (by kernel_rfl) (by kernel_rfl) ((Ext.drew wr).trans (Ext.drew wr.drew)) ?_
                    apply segE_quiet
                    · intro W hW
                      have y2 := HF.out _ (HEc.out.trans (HE2.out.trans hW)) k hik
                      simp only [runsT, runsF, rep, pick]
                      go_wp2_with fail
                      exact ⟨rfl, rfl⟩
                    simp only [runsT, runsF, rep, left]
                    refine segE_alt _ rfl ?_ ?_
                    · skip
                      refine lit0I rfl rfl ?_
                      intro a_0 c_0 w_0 h_0 s_0
                      have H_0 := Lib.hid h_0
                      have S_0 := Lib.hid s_0
                      have XE_0 := Lib.hid (((Ext.drew wr).trans (Ext.drew wr.drew)).trans s_0)
                      clear h_0 s_0
                      go_wp2_with fail
                      refine ⟨XE_0.out, ?_⟩
                      try dsimp only [List.eraseIdx]
                      refine segE_alt _ rfl ?_ ?_
                      · skip
                        have cc := (HR7.out.ext (HE2.out.trans XE_0.out)).cut0 t (by omega)
                        refine appL rfl (.tmp 83) (.tmp 86) rfl _ _ [] rfl H_0.out _ _ _ (K.take t) rfl (by simp; omega) (fun h => by cases h) cc.2 (by first | omega | (simp; done) | (simp; omega)) XE_0.out.size ?_
                        intro a_4 c_4 w_4 h_4 g_4
                        obtain ⟨L4, hL4⟩ : ∃ L, [] ++ K.take t = L := ⟨_, rfl⟩
                        rw [hL4] at h_4 ⊢
                        have l4 : L4.length ≤ 4096 := by rw [← hL4]; simp; omega
                        have HL4 := Lib.hid hL4
                        have G_4 := Lib.hid g_4
                        have H_4 := Lib.hid h_4
                        have XE_4 := Lib.hid (ext_grown XE_0.out H_0.out (Nat.le_refl _) g_4)
                        clear h_4 g_4 cc hL4
                        go_wp2_with fail
                        refine ⟨XE_4.out, ?_⟩
                        try dsimp only [List.eraseIdx]
                        refine segE_alt _ rfl ?_ ?_
                        · skip
                          refine lit1I rfl (.tmp 91) rfl (F k) rfl ?_
                          intro a_9 c_9 w_9 h_9 s_9
                          have H_9 := Lib.hid h_9
                          have S_9 := Lib.hid s_9
                          have XE_9 := Lib.hid (XE_4.out.trans s_9)
                          clear h_9 s_9
                          go_wp2_with fail
                          refine ⟨XE_9.out, ?_⟩
                          try dsimp only [List.eraseIdx]
                          refine segE_alt _ rfl ?_ ?_
                          · skip
                            refine appL2 rfl (.tmp 87) (.tmp 92) rfl _ _ L4 rfl (H_4.out.ext S_9.out) _ _ [F k] rfl H_9.out (by first | omega | (simp; done) | (simp; omega)) XE_9.out.size ?_
                            intro a_10 c_10 w_10 h_10 g_10
                            obtain ⟨L10, hL10⟩ : ∃ L, L4 ++ [F k] = L := ⟨_, rfl⟩
                            rw [hL10] at h_10 ⊢
                            have l10 : L10.length ≤ 4097 := by rw [← hL10]; simp; omega
                            have HL10 := Lib.hid hL10
                            have G_10 := Lib.hid g_10
                            have H_10 := Lib.hid h_10
                            have XE_10 := Lib.hid (ext_grown XE_9.out (H_4.out.ext S_9.out) (Nat.le_refl _) g_10)
                            clear h_10 g_10 hL10
                            go_wp2_with fail
                            refine ⟨XE_10.out, ?_⟩
                            try dsimp only [List.eraseIdx]
                            refine segE_alt _ rfl ?_ ?_
                            · skip
                              refine appL rfl (.tmp 93) (.tmp 96) rfl _ _ L10 rfl H_10.out _ _ _ (K.drop t) rfl (by simp) (fun h => by cases h) (cells_drop (keys := K) (k := t) (HC7.out _ (HE2.out.trans XE_10.out)) (fun _ => by simp)) (by first | omega | (simp; done) | (simp; omega)) XE_10.out.size ?_
                              intro a_14 c_14 w_14 h_14 g_14
                              have hL14 : L10 ++ (K.drop t) = insS K (F k) := by rw [← HL10.out, ← HL4.out]; unfold insS; rw [HCN.out]; simp
                              rw [hL14] at h_14 ⊢
                              have H_14 := Lib.hid h_14
                              have XE_14 := Lib.hid (ext_grown XE_10.out H_10.out (Nat.le_refl _) g_14)
                              clear h_14 g_14 hL14
                              go_wp2_with fail
                              refine ⟨XE_14.out, ?_⟩
                              try dsimp only [List.eraseIdx]
                              apply segE_quiet
                              · intro W hW
                                simp only [runsT, runsF, rep, pick]
                                go_wp2_with fail
                                exact ⟨rfl, rfl⟩
                              simp only [runsT, runsF, rep, left]
                              apply segE_done
                              go_wp2_with fail
                              go_roundg (len - (k + 1))
                              case measure => omega
                              case rel => exact ⟨k + 1, h, insS K (F k), rfl, by go_num, by omega, by
                                have hi := HS.out.ins (w2 := w_14) hik HNM.out (by rw [HCC.out]; exact HCR.out) (by rw [HCC.out]; exact ⟨by omega, by omega⟩) (by rw [HCC.out]; exact HK.out) (by rw [HG.out]; exact H_14.out.base (HEc.out.trans HE2.out).size) (HEc.out.trans (HE2.out.trans XE_14.out))
                                rw [HG.out] at hi
                                exact hi, Nat.le_refl _⟩
                            exact segE_stop
                          exact segE_stop
                        exact segE_stop
                      refine segE_alt _ rfl ?_ ?_
                      · skip
                        refine lit1I rfl (.tmp 91) rfl (F k) rfl ?_
                        intro a_9 c_9 w_9 h_9 s_9
                        have H_9 := Lib.hid h_9
                        have S_9 := Lib.hid s_9
                        have XE_9 := Lib.hid (XE_0.out.trans s_9)
                        clear h_9 s_9
                        go_wp2_with fail
                        refine ⟨XE_9.out, ?_⟩
                        try dsimp only [List.eraseIdx]
                        refine segE_alt _ rfl ?_ ?_
                        · skip
                          have cc := (HR7.out.ext (HE2.out.trans XE_9.out)).cut0 t (by omega)
                          refine appL rfl (.tmp 83) (.tmp 86) rfl _ _ [] rfl (H_0.out.ext S_9.out) _ _ _ (K.take t) rfl (by simp; omega) (fun h => by cases h) cc.2 (by first | omega | (simp; done) | (simp; omega)) XE_9.out.size ?_
                          intro a_4 c_4 w_4 h_4 g_4
                          obtain ⟨L4, hL4⟩ : ∃ L, [] ++ K.take t = L := ⟨_, rfl⟩
                          rw [hL4] at h_4 ⊢
                          have l4 : L4.length ≤ 4096 := by rw [← hL4]; simp; omega
                          have HL4 := Lib.hid hL4
                          have G_4 := Lib.hid g_4
                          have H_4 := Lib.hid h_4
                          have XE_4 := Lib.hid (ext_grown XE_9.out (H_0.out.ext S_9.out) (Nat.le_refl _) g_4)
                          clear h_4 g_4 cc hL4
                          go_wp2_with fail
                          refine ⟨XE_4.out, ?_⟩
                          try dsimp only [List.eraseIdx]
                          refine segE_alt _ rfl ?_ ?_
                          · skip
                            refine appL2 rfl (.tmp 87) (.tmp 92) rfl _ _ L4 rfl H_4.out _ _ [F k] rfl (H_9.out.kept G_4.out (fun k hk hk5 => by have h1 := H_9.out.lt k hk; have h2 := H_0.out.lt k hk5; omega)) (by first | omega | (simp; done) | (simp; omega)) XE_4.out.size ?_
                            intro a_10 c_10 w_10 h_10 g_10
                            obtain ⟨L10, hL10⟩ : ∃ L, L4 ++ [F k] = L := ⟨_, rfl⟩
                            rw [hL10] at h_10 ⊢
                            have l10 : L10.length ≤ 4097 := by rw [← hL10]; simp; omega
                            have HL10 := Lib.hid hL10
                            have G_10 := Lib.hid g_10
                            have H_10 := Lib.hid h_10
                            have XE_10 := Lib.hid (ext_grown XE_4.out H_4.out (Nat.le_refl _) g_10)
                            clear h_10 g_10 hL10
                            go_wp2_with fail
                            refine ⟨XE_10.out, ?_⟩
                            try dsimp only [List.eraseIdx]
                            refine segE_alt _ rfl ?_ ?_
                            · skip
                              refine appL rfl (.tmp 93) (.tmp 96) rfl _ _ L10 rfl H_10.out _ _ _ (K.drop t) rfl (by simp) (fun h => by cases h) (cells_drop (keys := K) (k := t) (HC7.out _ (HE2.out.trans XE_10.out)) (fun _ => by simp)) (by first | omega | (simp; done) | (simp; omega)) XE_10.out.size ?_
                              intro a_14 c_14 w_14 h_14 g_14
                              have hL14 : L10 ++ (K.drop t) = insS K (F k) := by rw [← HL10.out, ← HL4.out]; unfold insS; rw [HCN.out]; simp
                              rw [hL14] at h_14 ⊢
                              have H_14 := Lib.hid h_14
                              have XE_14 := Lib.hid (ext_grown XE_10.out H_10.out (Nat.le_refl _) g_14)
                              clear h_14 g_14 hL14
                              go_wp2_with fail
                              refine ⟨XE_14.out, ?_⟩
                              try dsimp only [List.eraseIdx]
                              apply segE_quiet
                              · intro W hW
                                simp only [runsT, runsF, rep, pick]
                                go_wp2_with fail
                                exact ⟨rfl, rfl⟩
                              simp only [runsT, runsF, rep, left]
                              apply segE_done
                              go_wp2_with fail
                              go_roundg (len - (k + 1))
                              case measure => omega
                              case rel => exact ⟨k + 1, h, insS K (F k), rfl, by go_num, by omega, by
                                have hi := HS.out.ins (w2 := w_14) hik HNM.out (by rw [HCC.out]; exact HCR.out) (by rw [HCC.out]; exact ⟨by omega, by omega⟩) (by rw [HCC.out]; exact HK.out) (by rw [HG.out]; exact H_14.out.base (HEc.out.trans HE2.out).size) (HEc.out.trans (HE2.out.trans XE_14.out))
                                rw [HG.out] at hi
                                exact hi, Nat.le_refl _⟩
                            exact segE_stop
                          exact segE_stop
                        exact segE_stop
                      exact segE_stop
                    refine segE_alt _ rfl ?_ ?_
                    · skip
                      refine lit1I rfl (.tmp 91) rfl (F k) rfl ?_
                      intro a_9 c_9 w_9 h_9 s_9
                      have H_9 := Lib.hid h_9
                      have S_9 := Lib.hid s_9
                      have XE_9 := Lib.hid (((Ext.drew wr).trans (Ext.drew wr.drew)).trans s_9)
                      clear h_9 s_9
                      go_wp2_with fail
                      refine ⟨XE_9.out, ?_⟩
                      try dsimp only [List.eraseIdx]
                      refine segE_alt _ rfl ?_ ?_
                      · skip
                        refine lit0I rfl rfl ?_
                        intro a_0 c_0 w_0 h_0 s_0
                        have H_0 := Lib.hid h_0
                        have S_0 := Lib.hid s_0
                        have XE_0 := Lib.hid (XE_9.out.trans s_0)
                        clear h_0 s_0
                        go_wp2_with fail
                        refine ⟨XE_0.out, ?_⟩
                        try dsimp only [List.eraseIdx]
                        refine segE_alt _ rfl ?_ ?_
                        · skip
                          have cc := (HR7.out.ext (HE2.out.trans XE_0.out)).cut0 t (by omega)
                          refine appL rfl (.tmp 83) (.tmp 86) rfl _ _ [] rfl H_0.out _ _ _ (K.take t) rfl (by simp; omega) (fun h => by cases h) cc.2 (by first | omega | (simp; done) | (simp; omega)) S_0.out.size ?_
                          intro a_4 c_4 w_4 h_4 g_4
                          obtain ⟨L4, hL4⟩ : ∃ L, [] ++ K.take t = L := ⟨_, rfl⟩
                          rw [hL4] at h_4 ⊢
                          have l4 : L4.length ≤ 4096 := by rw [← hL4]; simp; omega
                          have HL4 := Lib.hid hL4
                          have G_4 := Lib.hid g_4
                          have H_4 := Lib.hid h_4
                          have XE_4 := Lib.hid (ext_grown XE_0.out H_0.out XE_9.out.size g_4)
                          clear h_4 g_4 cc hL4
                          go_wp2_with fail
                          refine ⟨XE_4.out, ?_⟩
                          try dsimp only [List.eraseIdx]
                          refine segE_alt _ rfl ?_ ?_
                          · skip
                            refine appL2 rfl (.tmp 87) (.tmp 92) rfl _ _ L4 rfl H_4.out _ _ [F k] rfl ((H_9.out.ext S_0.out).kept G_4.out (fun k hk hk5 => by have h1 := H_9.out.lt k hk; have h2 := H_0.out.lt k hk5; omega)) (by first | omega | (simp; done) | (simp; omega)) (Nat.le_trans S_0.out.size G_4.out.size) ?_
                            intro a_10 c_10 w_10 h_10 g_10
                            obtain ⟨L10, hL10⟩ : ∃ L, L4 ++ [F k] = L := ⟨_, rfl⟩
                            rw [hL10] at h_10 ⊢
                            have l10 : L10.length ≤ 4097 := by rw [← hL10]; simp; omega
                            have HL10 := Lib.hid hL10
                            have G_10 := Lib.hid g_10
                            have H_10 := Lib.hid h_10
                            have XE_10 := Lib.hid (ext_grown XE_4.out H_4.out XE_9.out.size g_10)
                            clear h_10 g_10 hL10
                            go_wp2_with fail
                            refine ⟨XE_10.out, ?_⟩
                            try dsimp only [List.eraseIdx]
                            refine segE_alt _ rfl ?_ ?_
                            · skip
                              refine appL rfl (.tmp 93) (.tmp 96) rfl _ _ L10 rfl H_10.out _ _ _ (K.drop t) rfl (by simp) (fun h => by cases h) (cells_drop (keys := K) (k := t) (HC7.out _ (HE2.out.trans XE_10.out)) (fun _ => by simp)) (by first | omega | (simp; done) | (simp; omega)) (Nat.le_trans S_0.out.size (Nat.le_trans G_4.out.size G_10.out.size)) ?_
                              intro a_14 c_14 w_14 h_14 g_14
                              have hL14 : L10 ++ (K.drop t) = insS K (F k) := by rw [← HL10.out, ← HL4.out]; unfold insS; rw [HCN.out]; simp
                              rw [hL14] at h_14 ⊢
                              have H_14 := Lib.hid h_14
                              have XE_14 := Lib.hid (ext_grown XE_10.out H_10.out XE_9.out.size g_14)
                              clear h_14 g_14 hL14
                              go_wp2_with fail
                              refine ⟨XE_14.out, ?_⟩
                              try dsimp only [List.eraseIdx]
                              apply segE_quiet
                              · intro W hW
                                simp only [runsT, runsF, rep, pick]
                                go_wp2_with fail
                                exact ⟨rfl, rfl⟩
                              simp only [runsT, runsF, rep, left]
                              apply segE_done
                              go_wp2_with fail
                              go_roundg (len - (k + 1))
                              case measure => omega
                              case rel => exact ⟨k + 1, h, insS K (F k), rfl, by go_num, by omega, by
                                have hi := HS.out.ins (w2 := w_14) hik HNM.out (by rw [HCC.out]; exact HCR.out) (by rw [HCC.out]; exact ⟨by omega, by omega⟩) (by rw [HCC.out]; exact HK.out) (by rw [HG.out]; exact H_14.out.base (HEc.out.trans (HE2.out.trans XE_9.out)).size) (HEc.out.trans (HE2.out.trans XE_14.out))
                                rw [HG.out] at hi
                                exact hi, Nat.le_refl _⟩
                            exact segE_stop
                          exact segE_stop
                        exact segE_stop
                      exact segE_stop
                    exact segE_stop
                · obtain rfl : t = K.length := by omega
                  have d4 : decide ((K.length : Int) < (K.length : Int)) = false := decide_eq_false (by omega)
                  have HCN : Hid (K.countP (· < F k) = K.length) := Lib.hid (cnt_is HKU.out (Nat.le_refl _) hlow.out (fun h => absurd h (by omega)))
                  clear htk
                  clear HV7 HC7
                  go_wp2_with fail
                  refine wp_region_segsE (Ext wr) (.quiet [15] .done) (by kernel_rfl) (by kernel_rfl) (Ext.drew _) ?_
                  apply segE_quiet
                  · intro W hW
                    simp only [runsT, runsF, rep, pick]
                    go_wp2_with fail
                    exact ⟨rfl, rfl⟩
                  simp only [runsT, runsF, rep, left]
                  apply segE_done
                  go_wp2_with fail
                  go_wp2_with fail
                  cases a7 with
                  | none =>
                    obtain ⟨hz, rfl⟩ := Row.Own.none' (R := RI) HR7.out rfl
                    have hz' : (K.length : Int) = 0 := by omega
                    refine wp_region_segsE (Ext wr) (.quiet [0, 1, 3, 1, 4, 2, 3, 2] (.alt 0 (.alt 0 (.alt 0 (.alt 0 (.alt 0 (.quiet [1] .done) .stop) .stop) .stop) (.alt 1 (.alt 0 (.alt 0 (.alt 0 (.quiet [1] .done) .stop) .stop) .stop) .stop)) (.alt 2 (.alt 0 (.alt 0 (.alt 0 (.alt 0 (.quiet [1] .done) .stop) .stop) .stop) .stop) .stop))) (by kernel_rfl) (by kernel_rfl) ((Ext.drew wr).trans (Ext.drew wr.drew)) ?_
                    apply segE_quiet
                    · intro W hW
                      have y2 := HF.out _ (HEc.out.trans (HE2.out.trans hW)) k hik
                      simp only [runsT, runsF, rep, pick]
                      go_wp2_with fail
                      exact ⟨rfl, rfl⟩
                    simp only [runsT, runsF, rep, left]
                    refine segE_alt _ rfl ?_ ?_
                    · skip
                      refine lit0I rfl rfl ?_
                      intro a_0 c_0 w_0 h_0 s_0
                      have H_0 := Lib.hid h_0
                      have S_0 := Lib.hid s_0
                      have XE_0 := Lib.hid (((Ext.drew wr).trans (Ext.drew wr.drew)).trans s_0)
                      clear h_0 s_0
                      go_wp2_with fail
                      refine ⟨XE_0.out, ?_⟩
                      try dsimp only [List.eraseIdx]
                      refine segE_alt _ rfl ?_ ?_
                      · skip
                        have cc := (HR7.out.ext (HE2.out.trans XE_0.out)).cut0 K.length (by omega)
                        refine appL rfl (.tmp 83) (.tmp 86) rfl _ _ [] rfl H_0.out _ _ _ (K.take K.length) rfl (by rw [List.take_length]; exact hz) (fun _ => ⟨rfl, rfl⟩) (fun ad had => by cases had) (by first | omega | (simp; done) | (simp; omega)) XE_0.out.size ?_
                        intro a_4 c_4 w_4 h_4 g_4
                        obtain ⟨L4, hL4⟩ : ∃ L, [] ++ K.take K.length = L := ⟨_, rfl⟩
                        rw [hL4] at h_4 ⊢
                        have l4 : L4.length ≤ 4096 := by rw [← hL4]; simp; omega
                        have HL4 := Lib.hid hL4
                        have G_4 := Lib.hid g_4
                        have H_4 := Lib.hid h_4
                        have XE_4 := Lib.hid (ext_grown XE_0.out H_0.out (Nat.le_refl _) g_4)
                        clear h_4 g_4 cc hL4
                        go_wp2_with fail
                        refine ⟨XE_4.out, ?_⟩
                        try dsimp only [List.eraseIdx]
                        refine segE_alt _ rfl ?_ ?_
                        · skip
                          refine lit1I rfl (.tmp 91) rfl (F k) rfl ?_
                          intro a_9 c_9 w_9 h_9 s_9
                          have H_9 := Lib.hid h_9
                          have S_9 := Lib.hid s_9
                          have XE_9 := Lib.hid (XE_4.out.trans s_9)
                          clear h_9 s_9
                          go_wp2_with fail
                          refine ⟨XE_9.out, ?_⟩
                          try dsimp only [List.eraseIdx]
                          refine segE_alt _ rfl ?_ ?_
                          · skip
                            refine appL2 rfl (.tmp 87) (.tmp 92) rfl _ _ L4 rfl (H_4.out.ext S_9.out) _ _ [F k] rfl H_9.out (by first | omega | (simp; done) | (simp; omega)) XE_9.out.size ?_
                            intro a_10 c_10 w_10 h_10 g_10
                            obtain ⟨L10, hL10⟩ : ∃ L, L4 ++ [F k] = L := ⟨_, rfl⟩
                            rw [hL10] at h_10 ⊢
                            have l10 : L10.length ≤ 4097 := by rw [← hL10]; simp; omega
                            have HL10 := Lib.hid hL10
                            have G_10 := Lib.hid g_10
                            have H_10 := Lib.hid h_10
                            have XE_10 := Lib.hid (ext_grown XE_9.out (H_4.out.ext S_9.out) (Nat.le_refl _) g_10)
                            clear h_10 g_10 hL10
                            go_wp2_with fail
                            refine ⟨XE_10.out, ?_⟩
                            try dsimp only [List.eraseIdx]
                            refine segE_alt _ rfl ?_ ?_
                            · skip
                              refine appL rfl (.tmp 93) (.tmp 96) rfl _ _ L10 rfl H_10.out _ _ _ [] rfl (by simp) (fun _ => ⟨rfl, rfl⟩) (fun ad had => by cases had) (by first | omega | (simp; done) | (simp; omega)) XE_10.out.size ?_
                              intro a_14 c_14 w_14 h_14 g_14
                              have hL14 : L10 ++ [] = insS K (F k) := by rw [← HL10.out, ← HL4.out]; unfold insS; rw [HCN.out]; simp
                              rw [hL14] at h_14 ⊢
                              have H_14 := Lib.hid h_14
                              have XE_14 := Lib.hid (ext_grown XE_10.out H_10.out (Nat.le_refl _) g_14)
                              clear h_14 g_14 hL14
                              go_wp2_with fail
                              refine ⟨XE_14.out, ?_⟩
                              try dsimp only [List.eraseIdx]
                              apply segE_quiet
                              · intro W hW
                                simp only [runsT, runsF, rep, pick]
                                go_wp2_with fail
                                exact ⟨rfl, rfl⟩
                              simp only [runsT, runsF, rep, left]
                              apply segE_done
                              go_wp2_with fail
                              go_roundg (len - (k + 1))
                              case measure => omega
                              case rel => exact ⟨k + 1, h, insS K (F k), rfl, by go_num, by omega, by
                                have hi := HS.out.ins (w2 := w_14) hik HNM.out (by rw [HCC.out]; exact HCR.out) (by rw [HCC.out]; exact ⟨by omega, by omega⟩) (by rw [HCC.out]; exact HK.out) (by rw [HG.out]; exact H_14.out.base (HEc.out.trans HE2.out).size) (HEc.out.trans (HE2.out.trans XE_14.out))
                                rw [HG.out] at hi
                                exact hi, Nat.le_refl _⟩
                            exact segE_stop
                          exact segE_stop
                        exact segE_stop
                      refine segE_alt _ rfl ?_ ?_
                      · skip
                        refine lit1I rfl (.tmp 91) rfl (F k) rfl ?_
                        intro a_9 c_9 w_9 h_9 s_9
                        have H_9 := Lib.hid h_9
                        have S_9 := Lib.hid s_9
                        have XE_9 := Lib.hid (XE_0.out.trans s_9)
                        clear h_9 s_9
                        go_wp2_with fail
                        refine ⟨XE_9.out, ?_⟩
                        try dsimp only [List.eraseIdx]
                        refine segE_alt _ rfl ?_ ?_
                        · skip
                          have cc := (HR7.out.ext (HE2.out.trans XE_9.out)).cut0 K.length (by omega)
                          refine appL rfl (.tmp 83) (.tmp 86) rfl _ _ [] rfl (H_0.out.ext S_9.out) _ _ _ (K.take K.length) rfl (by rw [List.take_length]; exact hz) (fun _ => ⟨rfl, rfl⟩) (fun ad had => by cases had) (by first | omega | (simp; done) | (simp; omega)) XE_9.out.size ?_
                          intro a_4 c_4 w_4 h_4 g_4
                          obtain ⟨L4, hL4⟩ : ∃ L, [] ++ K.take K.length = L := ⟨_, rfl⟩
                          rw [hL4] at h_4 ⊢
                          have l4 : L4.length ≤ 4096 := by rw [← hL4]; simp; omega
                          have HL4 := Lib.hid hL4
                          have G_4 := Lib.hid g_4
                          have H_4 := Lib.hid h_4
                          have XE_4 := Lib.hid (ext_grown XE_9.out (H_0.out.ext S_9.out) (Nat.le_refl _) g_4)
                          clear h_4 g_4 cc hL4
                          go_wp2_with fail
                          refine ⟨XE_4.out, ?_⟩
                          try dsimp only [List.eraseIdx]
                          refine segE_alt _ rfl ?_ ?_
                          · skip
                            refine appL2 rfl (.tmp 87) (.tmp 92) rfl _ _ L4 rfl H_4.out _ _ [F k] rfl (H_9.out.kept G_4.out (fun k hk hk5 => by have h1 := H_9.out.lt k hk; have h2 := H_0.out.lt k hk5; omega)) (by first | omega | (simp; done) | (simp; omega)) XE_4.out.size ?_
                            intro a_10 c_10 w_10 h_10 g_10
                            obtain ⟨L10, hL10⟩ : ∃ L, L4 ++ [F k] = L := ⟨_, rfl⟩
                            rw [hL10] at h_10 ⊢
                            have l10 : L10.length ≤ 4097 := by rw [← hL10]; simp; omega
                            have HL10 := Lib.hid hL10
                            have G_10 := Lib.hid g_10
                            have H_10 := Lib.hid h_10
                            have XE_10 := Lib.hid (ext_grown XE_4.out H_4.out (Nat.le_refl _) g_10)
                            clear h_10 g_10 hL10
                            go_wp2_with fail
                            refine ⟨XE_10.out, ?_⟩
                            try dsimp only [List.eraseIdx]
                            refine segE_alt _ rfl ?_ ?_
                            · skip
                              refine appL rfl (.tmp 93) (.tmp 96) rfl _ _ L10 rfl H_10.out _ _ _ [] rfl (by simp) (fun _ => ⟨rfl, rfl⟩) (fun ad had => by cases had) (by first | omega | (simp; done) | (simp; omega)) XE_10.out.size ?_
                              intro a_14 c_14 w_14 h_14 g_14
                              have hL14 : L10 ++ [] = insS K (F k) := by rw [← HL10.out, ← HL4.out]; unfold insS; rw [HCN.out]; simp
                              rw [hL14] at h_14 ⊢
                              have H_14 := Lib.hid h_14
                              have XE_14 := Lib.hid (ext_grown XE_10.out H_10.out (Nat.le_refl _) g_14)
                              clear h_14 g_14 hL14
                              go_wp2_with fail
                              refine ⟨XE_14.out, ?_⟩
                              try dsimp only [List.eraseIdx]
                              apply segE_quiet
                              · intro W hW
                                simp only [runsT, runsF, rep, pick]
                                go_wp2_with fail
                                exact ⟨rfl, rfl⟩
                              simp only [runsT, runsF, rep, left]
                              apply segE_done
                              go_wp2_with fail
                              go_roundg (len - (k + 1))
                              case measure => omega
                              case rel => exact ⟨k + 1, h, insS K (F k), rfl, by go_num, by omega, by
                                have hi := HS.out.ins (w2 := w_14) hik HNM.out (by rw [HCC.out]; exact HCR.out) (by rw [HCC.out]; exact ⟨by omega, by omega⟩) (by rw [HCC.out]; exact HK.out) (by rw [HG.out]; exact H_14.out.base (HEc.out.trans HE2.out).size) (HEc.out.trans (HE2.out.trans XE_14.out))
                                rw [HG.out] at hi
                                exact hi, Nat.le_refl _⟩
                            exact segE_stop
                          exact segE_stop
                        exact segE_stop
                      exact segE_stop
                    refine segE_alt _ rfl ?_ ?_
                    · skip
                      refine lit1I rfl (.tmp 91) rfl (F k) rfl ?_
                      intro a_9 c_9 w_9 h_9 s_9
                      have H_9 := Lib.hid h_9
                      have S_9 := Lib.hid s_9
                      have XE_9 := Lib.hid (((Ext.drew wr).trans (Ext.drew wr.drew)).trans s_9)
                      clear h_9 s_9
                      go_wp2_with fail
                      refine ⟨XE_9.out, ?_⟩
                      try dsimp only [List.eraseIdx]
                      refine segE_alt _ rfl ?_ ?_
                      · skip
                        refine lit0I rfl rfl ?_
                        intro a_0 c_0 w_0 h_0 s_0
                        have H_0 := Lib.hid h_0
                        have S_0 := Lib.hid s_0
                        have XE_0 := Lib.hid (XE_9.out.trans s_0)
                        clear h_0 s_0
                        go_wp2_with fail
                        refine ⟨XE_0.out, ?_⟩
                        try dsimp only [List.eraseIdx]
                        refine segE_alt _ rfl ?_ ?_
                        · skip
                          have cc := (HR7.out.ext (HE2.out.trans XE_0.out)).cut0 K.length (by omega)
                          refine appL rfl (.tmp 83) (.tmp 86) rfl _ _ [] rfl H_0.out _ _ _ (K.take K.length) rfl (by rw [List.take_length]; exact hz) (fun _ => ⟨rfl, rfl⟩) (fun ad had => by cases had) (by first | omega | (simp; done) | (simp; omega)) S_0.out.size ?_
                          intro a_4 c_4 w_4 h_4 g_4
                          obtain ⟨L4, hL4⟩ : ∃ L, [] ++ K.take K.length = L := ⟨_, rfl⟩
                          rw [hL4] at h_4 ⊢
                          have l4 : L4.length ≤ 4096 := by rw [← hL4]; simp; omega
                          have HL4 := Lib.hid hL4
                          have G_4 := Lib.hid g_4
                          have H_4 := Lib.hid h_4
                          have XE_4 := Lib.hid (ext_grown XE_0.out H_0.out XE_9.out.size g_4)
                          clear h_4 g_4 cc hL4
                          go_wp2_with fail
                          refine ⟨XE_4.out, ?_⟩
                          try dsimp only [List.eraseIdx]
                          refine segE_alt _ rfl ?_ ?_
                          · skip
                            refine appL2 rfl (.tmp 87) (.tmp 92) rfl _ _ L4 rfl H_4.out _ _ [F k] rfl ((H_9.out.ext S_0.out).kept G_4.out (fun k hk hk5 => by have h1 := H_9.out.lt k hk; have h2 := H_0.out.lt k hk5; omega)) (by first | omega | (simp; done) | (simp; omega)) (Nat.le_trans S_0.out.size G_4.out.size) ?_
                            intro a_10 c_10 w_10 h_10 g_10
                            obtain ⟨L10, hL10⟩ : ∃ L, L4 ++ [F k] = L := ⟨_, rfl⟩
                            rw [hL10] at h_10 ⊢
                            have l10 : L10.length ≤ 4097 := by rw [← hL10]; simp; omega
                            have HL10 := Lib.hid hL10
                            have G_10 := Lib.hid g_10
                            have H_10 := Lib.hid h_10
                            have XE_10 := Lib.hid (ext_grown XE_4.out H_4.out XE_9.out.size g_10)
                            clear h_10 g_10 hL10
                            go_wp2_with fail
                            refine ⟨XE_10.out, ?_⟩
                            try dsimp only [List.eraseIdx]
                            refine segE_alt _ rfl ?_ ?_
                            · skip
                              refine appL rfl (.tmp 93) (.tmp 96) rfl _ _ L10 rfl H_10.out _ _ _ [] rfl (by simp) (fun _ => ⟨rfl, rfl⟩) (fun ad had => by cases had) (by first | omega | (simp; done) | (simp; omega)) (Nat.le_trans S_0.out.size (Nat.le_trans G_4.out.size G_10.out.size)) ?_
                              intro a_14 c_14 w_14 h_14 g_14
                              have hL14 : L10 ++ [] = insS K (F k) := by rw [← HL10.out, ← HL4.out]; unfold insS; rw [HCN.out]; simp
                              rw [hL14] at h_14 ⊢
                              have H_14 := Lib.hid h_14
                              have XE_14 := Lib.hid (ext_grown XE_10.out H_10.out XE_9.out.size g_14)
                              clear h_14 g_14 hL14
                              go_wp2_with fail
                              refine ⟨XE_14.out, ?_⟩
                              try dsimp only [List.eraseIdx]
                              apply segE_quiet
                              · intro W hW
                                simp only [runsT, runsF, rep, pick]
                                go_wp2_with fail
                                exact ⟨rfl, rfl⟩
                              simp only [runsT, runsF, rep, left]
                              apply segE_done
                              go_wp2_with fail
                              go_roundg (len - (k + 1))
                              case measure => omega
                              case rel => exact ⟨k + 1, h, insS K (F k), rfl, by go_num, by omega, by
                                have hi := HS.out.ins (w2 := w_14) hik HNM.out (by rw [HCC.out]; exact HCR.out) (by rw [HCC.out]; exact ⟨by omega, by omega⟩) (by rw [HCC.out]; exact HK.out) (by rw [HG.out]; exact H_14.out.base (HEc.out.trans (HE2.out.trans XE_9.out)).size) (HEc.out.trans (HE2.out.trans XE_14.out))
                                rw [HG.out] at hi
                                exact hi, Nat.le_refl _⟩
                            exact segE_stop
                          exact segE_stop
                        exact segE_stop
                      exact segE_stop
                    exact segE_stop
                  | some ad =>
                    by_cases hct : c7 = K.length
                    · skip
                      refine wp_region_segsE (Ext wr) (.quiet [0, 1, 3, 1, 4, 2, 3, 2] (.alt 0 (.alt 0 (.alt 0 (.alt 0 (.alt 0 (.quiet [1] .done) .stop) .stop) .stop) (.alt 1 (.alt 0 (.alt 0 (.alt 0 (.quiet [1] .done) .stop) .stop) .stop) .stop)) (.alt 2 (.alt 0 (.alt 0 (.alt 0 (.alt 0 (.quiet [1] .done) .stop) .stop) .stop) .stop) .stop))) (by kernel_rfl) (by kernel_rfl) ((Ext.drew wr).trans (Ext.drew wr.drew)) ?_
                      apply segE_quiet
                      · intro W hW
                        have y2 := HF.out _ (HEc.out.trans (HE2.out.trans hW)) k hik
                        simp only [runsT, runsF, rep, pick]
                        go_wp2_with fail
                        exact ⟨rfl, rfl⟩
                      simp only [runsT, runsF, rep, left]
                      refine segE_alt _ rfl ?_ ?_
                      · skip
                        refine lit0I rfl rfl ?_
                        intro a_0 c_0 w_0 h_0 s_0
                        have H_0 := Lib.hid h_0
                        have S_0 := Lib.hid s_0
                        have XE_0 := Lib.hid (((Ext.drew wr).trans (Ext.drew wr.drew)).trans s_0)
                        clear h_0 s_0
                        go_wp2_with fail
                        refine ⟨XE_0.out, ?_⟩
                        try dsimp only [List.eraseIdx]
                        refine segE_alt _ rfl ?_ ?_
                        · skip
                          have cc := (HR7.out.ext (HE2.out.trans XE_0.out)).cut0 K.length (by omega)
                          refine appL rfl (.tmp 83) (.tmp 86) rfl _ _ [] rfl H_0.out _ _ _ (K.take K.length) rfl (by simp) (fun h => by cases h) cc.2 (by first | omega | (simp; done) | (simp; omega)) XE_0.out.size ?_
                          intro a_4 c_4 w_4 h_4 g_4
                          obtain ⟨L4, hL4⟩ : ∃ L, [] ++ K.take K.length = L := ⟨_, rfl⟩
                          rw [hL4] at h_4 ⊢
                          have l4 : L4.length ≤ 4096 := by rw [← hL4]; simp; omega
                          have HL4 := Lib.hid hL4
                          have G_4 := Lib.hid g_4
                          have H_4 := Lib.hid h_4
                          have XE_4 := Lib.hid (ext_grown XE_0.out H_0.out (Nat.le_refl _) g_4)
                          clear h_4 g_4 cc hL4
                          go_wp2_with fail
                          refine ⟨XE_4.out, ?_⟩
                          try dsimp only [List.eraseIdx]
                          refine segE_alt _ rfl ?_ ?_
                          · skip
                            refine lit1I rfl (.tmp 91) rfl (F k) rfl ?_
                            intro a_9 c_9 w_9 h_9 s_9
                            have H_9 := Lib.hid h_9
                            have S_9 := Lib.hid s_9
                            have XE_9 := Lib.hid (XE_4.out.trans s_9)
                            clear h_9 s_9
                            go_wp2_with fail
                            refine ⟨XE_9.out, ?_⟩
                            try dsimp only [List.eraseIdx]
                            refine segE_alt _ rfl ?_ ?_
                            · skip
                              refine appL2 rfl (.tmp 87) (.tmp 92) rfl _ _ L4 rfl (H_4.out.ext S_9.out) _ _ [F k] rfl H_9.out (by first | omega | (simp; done) | (simp; omega)) XE_9.out.size ?_
                              intro a_10 c_10 w_10 h_10 g_10
                              obtain ⟨L10, hL10⟩ : ∃ L, L4 ++ [F k] = L := ⟨_, rfl⟩
                              rw [hL10] at h_10 ⊢
                              have l10 : L10.length ≤ 4097 := by rw [← hL10]; simp; omega
                              have HL10 := Lib.hid hL10
                              have G_10 := Lib.hid g_10
                              have H_10 := Lib.hid h_10
                              have XE_10 := Lib.hid (ext_grown XE_9.out (H_4.out.ext S_9.out) (Nat.le_refl _) g_10)
                              clear h_10 g_10 hL10
                              go_wp2_with fail
                              refine ⟨XE_10.out, ?_⟩
                              try dsimp only [List.eraseIdx]
                              refine segE_alt _ rfl ?_ ?_
                              · skip
                                refine appL rfl (.tmp 93) (.tmp 96) rfl _ _ L10 rfl H_10.out _ _ _ [] rfl (by simp) (fun h => by cases h) (fun ad had j hj => absurd hj (by omega)) (by first | omega | (simp; done) | (simp; omega)) XE_10.out.size ?_
                                intro a_14 c_14 w_14 h_14 g_14
                                have hL14 : L10 ++ [] = insS K (F k) := by rw [← HL10.out, ← HL4.out]; unfold insS; rw [HCN.out]; simp
                                rw [hL14] at h_14 ⊢
                                have H_14 := Lib.hid h_14
                                have XE_14 := Lib.hid (ext_grown XE_10.out H_10.out (Nat.le_refl _) g_14)
                                clear h_14 g_14 hL14
                                go_wp2_with fail
                                refine ⟨XE_14.out, ?_⟩
                                try dsimp only [List.eraseIdx]
                                apply segE_quiet
                                · intro W hW
                                  simp only [runsT, runsF, rep, pick]
                                  go_wp2_with fail
                                  exact ⟨rfl, rfl⟩
                                simp only [runsT, runsF, rep, left]
                                apply segE_done
                                go_wp2_with fail
                                go_roundg (len - (k + 1))
                                case measure => omega
                                case rel => exact ⟨k + 1, h, insS K (F k), rfl, by go_num, by omega, by
                                  have hi := HS.out.ins (w2 := w_14) hik HNM.out (by rw [HCC.out]; exact HCR.out) (by rw [HCC.out]; exact ⟨by omega, by omega⟩) (by rw [HCC.out]; exact HK.out) (by rw [HG.out]; exact H_14.out.base (HEc.out.trans HE2.out).size) (HEc.out.trans (HE2.out.trans XE_14.out))
                                  rw [HG.out] at hi
                                  exact hi, Nat.le_refl _⟩
                              exact segE_stop
                            exact segE_stop
                          exact segE_stop
                        refine segE_alt _ rfl ?_ ?_
                        · skip
                          refine lit1I rfl (.tmp 91) rfl (F k) rfl ?_
                          intro a_9 c_9 w_9 h_9 s_9
                          have H_9 := Lib.hid h_9
                          have S_9 := Lib.hid s_9
                          have XE_9 := Lib.hid (XE_0.out.trans s_9)
                          clear h_9 s_9
                          go_wp2_with fail
                          refine ⟨XE_9.out, ?_⟩
                          try dsimp only [List.eraseIdx]
                          refine segE_alt _ rfl ?_ ?_
                          · skip
                            have cc := (HR7.out.ext (HE2.out.trans XE_9.out)).cut0 K.length (by omega)
                            refine appL rfl (.tmp 83) (.tmp 86) rfl _ _ [] rfl (H_0.out.ext S_9.out) _ _ _ (K.take K.length) rfl (by simp) (fun h => by cases h) cc.2 (by first | omega | (simp; done) | (simp; omega)) XE_9.out.size ?_
                            intro a_4 c_4 w_4 h_4 g_4
                            obtain ⟨L4, hL4⟩ : ∃ L, [] ++ K.take K.length = L := ⟨_, rfl⟩
                            rw [hL4] at h_4 ⊢
                            have l4 : L4.length ≤ 4096 := by rw [← hL4]; simp; omega
                            have HL4 := Lib.hid hL4
                            have G_4 := Lib.hid g_4
                            have H_4 := Lib.hid h_4
                            have XE_4 := Lib.hid (ext_grown XE_9.out (H_0.out.ext S_9.out) (Nat.le_refl _) g_4)
                            clear h_4 g_4 cc hL4
                            go_wp2_with fail
                            refine ⟨XE_4.out, ?_⟩
                            try dsimp only [List.eraseIdx]
                            refine segE_alt _ rfl ?_ ?_
                            · skip
                              refine appL2 rfl (.tmp 87) (.tmp 92) rfl _ _ L4 rfl H_4.out _ _ [F k] rfl (H_9.out.kept G_4.out (fun k hk hk5 => by have h1 := H_9.out.lt k hk; have h2 := H_0.out.lt k hk5; omega)) (by first | omega | (simp; done) | (simp; omega)) XE_4.out.size ?_
                              intro a_10 c_10 w_10 h_10 g_10
                              obtain ⟨L10, hL10⟩ : ∃ L, L4 ++ [F k] = L := ⟨_, rfl⟩
                              rw [hL10] at h_10 ⊢
                              have l10 : L10.length ≤ 4097 := by rw [← hL10]; simp; omega
                              have HL10 := Lib.hid hL10
                              have G_10 := Lib.hid g_10
                              have H_10 := Lib.hid h_10
                              have XE_10 := Lib.hid (ext_grown XE_4.out H_4.out (Nat.le_refl _) g_10)
                              clear h_10 g_10 hL10
                              go_wp2_with fail
                              refine ⟨XE_10.out, ?_⟩
                              try dsimp only [List.eraseIdx]
                              refine segE_alt _ rfl ?_ ?_
                              · skip
                                refine appL rfl (.tmp 93) (.tmp 96) rfl _ _ L10 rfl H_10.out _ _ _ [] rfl (by simp) (fun h => by cases h) (fun ad had j hj => absurd hj (by omega)) (by first | omega | (simp; done) | (simp; omega)) XE_10.out.size ?_
                                intro a_14 c_14 w_14 h_14 g_14
                                have hL14 : L10 ++ [] = insS K (F k) := by rw [← HL10.out, ← HL4.out]; unfold insS; rw [HCN.out]; simp
                                rw [hL14] at h_14 ⊢
                                have H_14 := Lib.hid h_14
                                have XE_14 := Lib.hid (ext_grown XE_10.out H_10.out (Nat.le_refl _) g_14)
                                clear h_14 g_14 hL14
                                go_wp2_with fail
                                refine ⟨XE_14.out, ?_⟩
                                try dsimp only [List.eraseIdx]
                                apply segE_quiet
                                · intro W hW
                                  simp only [runsT, runsF, rep, pick]
                                  go_wp2_with fail
                                  exact ⟨rfl, rfl⟩
                                simp only [runsT, runsF, rep, left]
                                apply segE_done
                                go_wp2_with fail
                                go_roundg (len - (k + 1))
                                case measure => omega
                                case rel => exact ⟨k + 1, h, insS K (F k), rfl, by go_num, by omega, by
                                  have hi := HS.out.ins (w2 := w_14) hik HNM.out (by rw [HCC.out]; exact HCR.out) (by rw [HCC.out]; exact ⟨by omega, by omega⟩) (by rw [HCC.out]; exact HK.out) (by rw [HG.out]; exact H_14.out.base (HEc.out.trans HE2.out).size) (HEc.out.trans (HE2.out.trans XE_14.out))
                                  rw [HG.out] at hi
                                  exact hi, Nat.le_refl _⟩
                              exact segE_stop
                            exact segE_stop
                          exact segE_stop
                        exact segE_stop
                      refine segE_alt _ rfl ?_ ?_
                      · skip
                        refine lit1I rfl (.tmp 91) rfl (F k) rfl ?_
                        intro a_9 c_9 w_9 h_9 s_9
                        have H_9 := Lib.hid h_9
                        have S_9 := Lib.hid s_9
                        have XE_9 := Lib.hid (((Ext.drew wr).trans (Ext.drew wr.drew)).trans s_9)
                        clear h_9 s_9
                        go_wp2_with fail
                        refine ⟨XE_9.out, ?_⟩
                        try dsimp only [List.eraseIdx]
                        refine segE_alt _ rfl ?_ ?_
                        · skip
                          refine lit0I rfl rfl ?_
                          intro a_0 c_0 w_0 h_0 s_0
                          have H_0 := Lib.hid h_0
                          have S_0 := Lib.hid s_0
                          have XE_0 := Lib.hid (XE_9.out.trans s_0)
                          clear h_0 s_0
                          go_wp2_with fail
                          refine ⟨XE_0.out, ?_⟩
                          try dsimp only [List.eraseIdx]
                          refine segE_alt _ rfl ?_ ?_
                          · skip
                            have cc := (HR7.out.ext (HE2.out.trans XE_0.out)).cut0 K.length (by omega)
                            refine appL rfl (.tmp 83) (.tmp 86) rfl _ _ [] rfl H_0.out _ _ _ (K.take K.length) rfl (by simp) (fun h => by cases h) cc.2 (by first | omega | (simp; done) | (simp; omega)) S_0.out.size ?_
                            intro a_4 c_4 w_4 h_4 g_4
                            obtain ⟨L4, hL4⟩ : ∃ L, [] ++ K.take K.length = L := ⟨_, rfl⟩
                            rw [hL4] at h_4 ⊢
                            have l4 : L4.length ≤ 4096 := by rw [← hL4]; simp; omega
                            have HL4 := Lib.hid hL4
                            have G_4 := Lib.hid g_4
                            have H_4 := Lib.hid h_4
                            have XE_4 := Lib.hid (ext_grown XE_0.out H_0.out XE_9.out.size g_4)
                            clear h_4 g_4 cc hL4
                            go_wp2_with fail
                            refine ⟨XE_4.out, ?_⟩
                            try dsimp only [List.eraseIdx]
                            refine segE_alt _ rfl ?_ ?_
                            · skip
                              refine appL2 rfl (.tmp 87) (.tmp 92) rfl _ _ L4 rfl H_4.out _ _ [F k] rfl ((H_9.out.ext S_0.out).kept G_4.out (fun k hk hk5 => by have h1 := H_9.out.lt k hk; have h2 := H_0.out.lt k hk5; omega)) (by first | omega | (simp; done) | (simp; omega)) (Nat.le_trans S_0.out.size G_4.out.size) ?_
                              intro a_10 c_10 w_10 h_10 g_10
                              obtain ⟨L10, hL10⟩ : ∃ L, L4 ++ [F k] = L := ⟨_, rfl⟩
                              rw [hL10] at h_10 ⊢
                              have l10 : L10.length ≤ 4097 := by rw [← hL10]; simp; omega
                              have HL10 := Lib.hid hL10
                              have G_10 := Lib.hid g_10
                              have H_10 := Lib.hid h_10
                              have XE_10 := Lib.hid (ext_grown XE_4.out H_4.out XE_9.out.size g_10)
                              clear h_10 g_10 hL10
                              go_wp2_with fail
                              refine ⟨XE_10.out, ?_⟩
                              try dsimp only [List.eraseIdx]
                              refine segE_alt _ rfl ?_ ?_
                              · skip
                                refine appL rfl (.tmp 93) (.tmp 96) rfl _ _ L10 rfl H_10.out _ _ _ [] rfl (by simp) (fun h => by cases h) (fun ad had j hj => absurd hj (by omega)) (by first | omega | (simp; done) | (simp; omega)) (Nat.le_trans S_0.out.size (Nat.le_trans G_4.out.size G_10.out.size)) ?_
                                intro a_14 c_14 w_14 h_14 g_14
                                have hL14 : L10 ++ [] = insS K (F k) := by rw [← HL10.out, ← HL4.out]; unfold insS; rw [HCN.out]; simp
                                rw [hL14] at h_14 ⊢
                                have H_14 := Lib.hid h_14
                                have XE_14 := Lib.hid (ext_grown XE_10.out H_10.out XE_9.out.size g_14)
                                clear h_14 g_14 hL14
                                go_wp2_with fail
                                refine ⟨XE_14.out, ?_⟩
                                try dsimp only [List.eraseIdx]
                                apply segE_quiet
                                · intro W hW
                                  simp only [runsT, runsF, rep, pick]
                                  go_wp2_with fail
                                  exact ⟨rfl, rfl⟩
                                simp only [runsT, runsF, rep, left]
                                apply segE_done
                                go_wp2_with fail
                                go_roundg (len - (k + 1))
                                case measure => omega
                                case rel => exact ⟨k + 1, h, insS K (F k), rfl, by go_num, by omega, by
                                  have hi := HS.out.ins (w2 := w_14) hik HNM.out (by rw [HCC.out]; exact HCR.out) (by rw [HCC.out]; exact ⟨by omega, by omega⟩) (by rw [HCC.out]; exact HK.out) (by rw [HG.out]; exact H_14.out.base (HEc.out.trans (HE2.out.trans XE_9.out)).size) (HEc.out.trans (HE2.out.trans XE_14.out))
                                  rw [HG.out] at hi
                                  exact hi, Nat.le_refl _⟩
                              exact segE_stop
                            exact segE_stop
                          exact segE_stop
                        exact segE_stop
                      exact segE_stop
                    · skip
                      refine wp_region_segsE (Ext wr) (.quiet [0, 1, 3, 1, 4, 2, 3, 2] (.alt 0 (.alt 0 (.alt 0 (.alt 0 (.alt 0 (.quiet [1] .done) .stop) .stop) .stop) (.alt 1 (.alt 0 (.alt 0 (.alt 0 (.quiet [1] .done) .stop) .stop) .stop) .stop)) (.alt 2 (.alt 0 (.alt 0 (.alt 0 (.alt 0 (.quiet [1] .done) .stop) .stop) .stop) .stop) .stop))) (by kernel_rfl) (by kernel_rfl) ((Ext.drew wr).trans (Ext.drew wr.drew)) ?_
                      apply segE_quiet
                      · intro W hW
                        have y2 := HF.out _ (HEc.out.trans (HE2.out.trans hW)) k hik
                        simp only [runsT, runsF, rep, pick]
                        go_wp2_with fail
                        exact ⟨rfl, rfl⟩
                      simp only [runsT, runsF, rep, left]
                      refine segE_alt _ rfl ?_ ?_
                      · skip
                        refine lit0I rfl rfl ?_
                        intro a_0 c_0 w_0 h_0 s_0
                        have H_0 := Lib.hid h_0
                        have S_0 := Lib.hid s_0
                        have XE_0 := Lib.hid (((Ext.drew wr).trans (Ext.drew wr.drew)).trans s_0)
                        clear h_0 s_0
                        go_wp2_with fail
                        refine ⟨XE_0.out, ?_⟩
                        try dsimp only [List.eraseIdx]
                        refine segE_alt _ rfl ?_ ?_
                        · skip
                          have cc := (HR7.out.ext (HE2.out.trans XE_0.out)).cut0 K.length (by omega)
                          refine appL rfl (.tmp 83) (.tmp 86) rfl _ _ [] rfl H_0.out _ _ _ (K.take K.length) rfl (by simp) (fun h => by cases h) cc.2 (by first | omega | (simp; done) | (simp; omega)) XE_0.out.size ?_
                          intro a_4 c_4 w_4 h_4 g_4
                          obtain ⟨L4, hL4⟩ : ∃ L, [] ++ K.take K.length = L := ⟨_, rfl⟩
                          rw [hL4] at h_4 ⊢
                          have l4 : L4.length ≤ 4096 := by rw [← hL4]; simp; omega
                          have HL4 := Lib.hid hL4
                          have G_4 := Lib.hid g_4
                          have H_4 := Lib.hid h_4
                          have XE_4 := Lib.hid (ext_grown XE_0.out H_0.out (Nat.le_refl _) g_4)
                          clear h_4 g_4 cc hL4
                          go_wp2_with fail
                          refine ⟨XE_4.out, ?_⟩
                          try dsimp only [List.eraseIdx]
                          refine segE_alt _ rfl ?_ ?_
                          · skip
                            refine lit1I rfl (.tmp 91) rfl (F k) rfl ?_
                            intro a_9 c_9 w_9 h_9 s_9
                            have H_9 := Lib.hid h_9
                            have S_9 := Lib.hid s_9
                            have XE_9 := Lib.hid (XE_4.out.trans s_9)
                            clear h_9 s_9
                            go_wp2_with fail
                            refine ⟨XE_9.out, ?_⟩
                            try dsimp only [List.eraseIdx]
                            refine segE_alt _ rfl ?_ ?_
                            · skip
                              refine appL2 rfl (.tmp 87) (.tmp 92) rfl _ _ L4 rfl (H_4.out.ext S_9.out) _ _ [F k] rfl H_9.out (by first | omega | (simp; done) | (simp; omega)) XE_9.out.size ?_
                              intro a_10 c_10 w_10 h_10 g_10
                              obtain ⟨L10, hL10⟩ : ∃ L, L4 ++ [F k] = L := ⟨_, rfl⟩
                              rw [hL10] at h_10 ⊢
                              have l10 : L10.length ≤ 4097 := by rw [← hL10]; simp; omega
                              have HL10 := Lib.hid hL10
                              have G_10 := Lib.hid g_10
                              have H_10 := Lib.hid h_10
                              have XE_10 := Lib.hid (ext_grown XE_9.out (H_4.out.ext S_9.out) (Nat.le_refl _) g_10)
                              clear h_10 g_10 hL10
                              go_wp2_with fail
                              refine ⟨XE_10.out, ?_⟩
                              try dsimp only [List.eraseIdx]
                              refine segE_alt _ rfl ?_ ?_
                              · skip
                                refine appL rfl (.tmp 93) (.tmp 96) rfl _ _ L10 rfl H_10.out _ _ _ [] rfl (by simp) (fun h => by cases h) (fun ad had j hj => absurd hj (by omega)) (by first | omega | (simp; done) | (simp; omega)) XE_10.out.size ?_
                                intro a_14 c_14 w_14 h_14 g_14
                                have hL14 : L10 ++ [] = insS K (F k) := by rw [← HL10.out, ← HL4.out]; unfold insS; rw [HCN.out]; simp
                                rw [hL14] at h_14 ⊢
                                have H_14 := Lib.hid h_14
                                have XE_14 := Lib.hid (ext_grown XE_10.out H_10.out (Nat.le_refl _) g_14)
                                clear h_14 g_14 hL14
                                go_wp2_with fail
                                refine ⟨XE_14.out, ?_⟩
                                try dsimp only [List.eraseIdx]
                                apply segE_quiet
                                · intro W hW
                                  simp only [runsT, runsF, rep, pick]
                                  go_wp2_with fail
                                  exact ⟨rfl, rfl⟩
                                simp only [runsT, runsF, rep, left]
                                apply segE_done
                                go_wp2_with fail
                                go_roundg (len - (k + 1))
                                case measure => omega
                                case rel => exact ⟨k + 1, h, insS K (F k), rfl, by go_num, by omega, by
                                  have hi := HS.out.ins (w2 := w_14) hik HNM.out (by rw [HCC.out]; exact HCR.out) (by rw [HCC.out]; exact ⟨by omega, by omega⟩) (by rw [HCC.out]; exact HK.out) (by rw [HG.out]; exact H_14.out.base (HEc.out.trans HE2.out).size) (HEc.out.trans (HE2.out.trans XE_14.out))
                                  rw [HG.out] at hi
                                  exact hi, Nat.le_refl _⟩
                              exact segE_stop
                            exact segE_stop
                          exact segE_stop
                        refine segE_alt _ rfl ?_ ?_
                        · skip
                          refine lit1I rfl (.tmp 91) rfl (F k) rfl ?_
                          intro a_9 c_9 w_9 h_9 s_9
                          have H_9 := Lib.hid h_9
                          have S_9 := Lib.hid s_9
                          have XE_9 := Lib.hid (XE_0.out.trans s_9)
                          clear h_9 s_9
                          go_wp2_with fail
                          refine ⟨XE_9.out, ?_⟩
                          try dsimp only [List.eraseIdx]
                          refine segE_alt _ rfl ?_ ?_
                          · skip
                            have cc := (HR7.out.ext (HE2.out.trans XE_9.out)).cut0 K.length (by omega)
                            refine appL rfl (.tmp 83) (.tmp 86) rfl _ _ [] rfl (H_0.out.ext S_9.out) _ _ _ (K.take K.length) rfl (by simp) (fun h => by cases h) cc.2 (by first | omega | (simp; done) | (simp; omega)) XE_9.out.size ?_
                            intro a_4 c_4 w_4 h_4 g_4
                            obtain ⟨L4, hL4⟩ : ∃ L, [] ++ K.take K.length = L := ⟨_, rfl⟩
                            rw [hL4] at h_4 ⊢
                            have l4 : L4.length ≤ 4096 := by rw [← hL4]; simp; omega
                            have HL4 := Lib.hid hL4
                            have G_4 := Lib.hid g_4
                            have H_4 := Lib.hid h_4
                            have XE_4 := Lib.hid (ext_grown XE_9.out (H_0.out.ext S_9.out) (Nat.le_refl _) g_4)
                            clear h_4 g_4 cc hL4
                            go_wp2_with fail
                            refine ⟨XE_4.out, ?_⟩
                            try dsimp only [List.eraseIdx]
                            refine segE_alt _ rfl ?_ ?_
                            · skip
                              refine appL2 rfl (.tmp 87) (.tmp 92) rfl _ _ L4 rfl H_4.out _ _ [F k] rfl (H_9.out.kept G_4.out (fun k hk hk5 => by have h1 := H_9.out.lt k hk; have h2 := H_0.out.lt k hk5; omega)) (by first | omega | (simp; done) | (simp; omega)) XE_4.out.size ?_
                              intro a_10 c_10 w_10 h_10 g_10
                              obtain ⟨L10, hL10⟩ : ∃ L, L4 ++ [F k] = L := ⟨_, rfl⟩
                              rw [hL10] at h_10 ⊢
                              have l10 : L10.length ≤ 4097 := by rw [← hL10]; simp; omega
                              have HL10 := Lib.hid hL10
                              have G_10 := Lib.hid g_10
                              have H_10 := Lib.hid h_10
                              have XE_10 := Lib.hid (ext_grown XE_4.out H_4.out (Nat.le_refl _) g_10)
                              clear h_10 g_10 hL10
                              go_wp2_with fail
                              refine ⟨XE_10.out, ?_⟩
                              try dsimp only [List.eraseIdx]
                              refine segE_alt _ rfl ?_ ?_
                              · skip
                                refine appL rfl (.tmp 93) (.tmp 96) rfl _ _ L10 rfl H_10.out _ _ _ [] rfl (by simp) (fun h => by cases h) (fun ad had j hj => absurd hj (by omega)) (by first | omega | (simp; done) | (simp; omega)) XE_10.out.size ?_
                                intro a_14 c_14 w_14 h_14 g_14
                                have hL14 : L10 ++ [] = insS K (F k) := by rw [← HL10.out, ← HL4.out]; unfold insS; rw [HCN.out]; simp
                                rw [hL14] at h_14 ⊢
                                have H_14 := Lib.hid h_14
                                have XE_14 := Lib.hid (ext_grown XE_10.out H_10.out (Nat.le_refl _) g_14)
                                clear h_14 g_14 hL14
                                go_wp2_with fail
                                refine ⟨XE_14.out, ?_⟩
                                try dsimp only [List.eraseIdx]
                                apply segE_quiet
                                · intro W hW
                                  simp only [runsT, runsF, rep, pick]
                                  go_wp2_with fail
                                  exact ⟨rfl, rfl⟩
                                simp only [runsT, runsF, rep, left]
                                apply segE_done
                                go_wp2_with fail
                                go_roundg (len - (k + 1))
                                case measure => omega
                                case rel => exact ⟨k + 1, h, insS K (F k), rfl, by go_num, by omega, by
                                  have hi := HS.out.ins (w2 := w_14) hik HNM.out (by rw [HCC.out]; exact HCR.out) (by rw [HCC.out]; exact ⟨by omega, by omega⟩) (by rw [HCC.out]; exact HK.out) (by rw [HG.out]; exact H_14.out.base (HEc.out.trans HE2.out).size) (HEc.out.trans (HE2.out.trans XE_14.out))
                                  rw [HG.out] at hi
                                  exact hi, Nat.le_refl _⟩
                              exact segE_stop
                            exact segE_stop
                          exact segE_stop
                        exact segE_stop
                      refine segE_alt _ rfl ?_ ?_
                      · skip
                        refine lit1I rfl (.tmp 91) rfl (F k) rfl ?_
                        intro a_9 c_9 w_9 h_9 s_9
                        have H_9 := Lib.hid h_9
                        have S_9 := Lib.hid s_9
                        have XE_9 := Lib.hid (((Ext.drew wr).trans (Ext.drew wr.drew)).trans s_9)
                        clear h_9 s_9
                        go_wp2_with fail
                        refine ⟨XE_9.out, ?_⟩
                        try dsimp only [List.eraseIdx]
                        refine segE_alt _ rfl ?_ ?_
                        · skip
                          refine lit0I rfl rfl ?_
                          intro a_0 c_0 w_0 h_0 s_0
                          have H_0 := Lib.hid h_0
                          have S_0 := Lib.hid s_0
                          have XE_0 := Lib.hid (XE_9.out.trans s_0)
                          clear h_0 s_0
                          go_wp2_with fail
                          refine ⟨XE_0.out, ?_⟩
                          try dsimp only [List.eraseIdx]
                          refine segE_alt _ rfl ?_ ?_
                          · skip
                            have cc := (HR7.out.ext (HE2.out.trans XE_0.out)).cut0 K.length (by omega)
                            refine appL rfl (.tmp 83) (.tmp 86) rfl _ _ [] rfl H_0.out _ _ _ (K.take K.length) rfl (by simp) (fun h => by cases h) cc.2 (by first | omega | (simp; done) | (simp; omega)) S_0.out.size ?_
                            intro a_4 c_4 w_4 h_4 g_4
                            obtain ⟨L4, hL4⟩ : ∃ L, [] ++ K.take K.length = L := ⟨_, rfl⟩
                            rw [hL4] at h_4 ⊢
                            have l4 : L4.length ≤ 4096 := by rw [← hL4]; simp; omega
                            have HL4 := Lib.hid hL4
                            have G_4 := Lib.hid g_4
                            have H_4 := Lib.hid h_4
                            have XE_4 := Lib.hid (ext_grown XE_0.out H_0.out XE_9.out.size g_4)
                            clear h_4 g_4 cc hL4
                            go_wp2_with fail
                            refine ⟨XE_4.out, ?_⟩
                            try dsimp only [List.eraseIdx]
                            refine segE_alt _ rfl ?_ ?_
                            · skip
                              refine appL2 rfl (.tmp 87) (.tmp 92) rfl _ _ L4 rfl H_4.out _ _ [F k] rfl ((H_9.out.ext S_0.out).kept G_4.out (fun k hk hk5 => by have h1 := H_9.out.lt k hk; have h2 := H_0.out.lt k hk5; omega)) (by first | omega | (simp; done) | (simp; omega)) (Nat.le_trans S_0.out.size G_4.out.size) ?_
                              intro a_10 c_10 w_10 h_10 g_10
                              obtain ⟨L10, hL10⟩ : ∃ L, L4 ++ [F k] = L := ⟨_, rfl⟩
                              rw [hL10] at h_10 ⊢
                              have l10 : L10.length ≤ 4097 := by rw [← hL10]; simp; omega
                              have HL10 := Lib.hid hL10
                              have G_10 := Lib.hid g_10
                              have H_10 := Lib.hid h_10
                              have XE_10 := Lib.hid (ext_grown XE_4.out H_4.out XE_9.out.size g_10)
                              clear h_10 g_10 hL10
                              go_wp2_with fail
                              refine ⟨XE_10.out, ?_⟩
                              try dsimp only [List.eraseIdx]
                              refine segE_alt _ rfl ?_ ?_
                              · skip
                                refine appL rfl (.tmp 93) (.tmp 96) rfl _ _ L10 rfl H_10.out _ _ _ [] rfl (by simp) (fun h => by cases h) (fun ad had j hj => absurd hj (by omega)) (by first | omega | (simp; done) | (simp; omega)) (Nat.le_trans S_0.out.size (Nat.le_trans G_4.out.size G_10.out.size)) ?_
                                intro a_14 c_14 w_14 h_14 g_14
                                have hL14 : L10 ++ [] = insS K (F k) := by rw [← HL10.out, ← HL4.out]; unfold insS; rw [HCN.out]; simp
                                rw [hL14] at h_14 ⊢
                                have H_14 := Lib.hid h_14
                                have XE_14 := Lib.hid (ext_grown XE_10.out H_10.out XE_9.out.size g_14)
                                clear h_14 g_14 hL14
                                go_wp2_with fail
                                refine ⟨XE_14.out, ?_⟩
                                try dsimp only [List.eraseIdx]
                                apply segE_quiet
                                · intro W hW
                                  simp only [runsT, runsF, rep, pick]
                                  go_wp2_with fail
                                  exact ⟨rfl, rfl⟩
                                simp only [runsT, runsF, rep, left]
                                apply segE_done
                                go_wp2_with fail
                                go_roundg (len - (k + 1))
                                case measure => omega
                                case rel => exact ⟨k + 1, h, insS K (F k), rfl, by go_num, by omega, by
                                  have hi := HS.out.ins (w2 := w_14) hik HNM.out (by rw [HCC.out]; exact HCR.out) (by rw [HCC.out]; exact ⟨by omega, by omega⟩) (by rw [HCC.out]; exact HK.out) (by rw [HG.out]; exact H_14.out.base (HEc.out.trans (HE2.out.trans XE_9.out)).size) (HEc.out.trans (HE2.out.trans XE_14.out))
                                  rw [HG.out] at hi
                                  exact hi, Nat.le_refl _⟩
                              exact segE_stop
                            exact segE_stop
                          exact segE_stop
                        exact segE_stop
                      exact segE_stop
    · obtain rfl : k = len := by omega
      have hdk : decide ((k : Int) < (k : Int)) = false := decide_eq_false (by omega)
      clear hik
      go_wp2_with fail
      go_ret
      have := HS.out.sum
      exact ⟨by rw [← this, Nat.sub_self]; simp [srv], HS.out.ext⟩
end Go.Proofs.Ytnjohjicmhobdaa.Bl
