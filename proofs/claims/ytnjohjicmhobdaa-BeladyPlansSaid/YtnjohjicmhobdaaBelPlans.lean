/-
  BeladyPlans: the next uses, the hits of the cache that lets the last used one go, and those of any cache by choices, are the document's.
  At most 60 requests (the law's own guard); no other condition.
-/
import Derived.Test.YtnjohjicmhobdaaBelRPl
namespace Go.Proofs.Ytnjohjicmhobdaa.Bl
open Go.RowKit Go.Seg Go.Open Go.Lib Bel Rk TrUs Lo1

theorem all_perm {l : List Int} {i : Nat} {a b : List Int} (h : a.Perm b) : (all l i a).Perm (all l i b) := by
  unfold all
  by_cases hm : l.getD i 0 ∈ a
  · rw [if_pos hm, if_pos (h.mem_iff.1 hm)]; exact h
  · rw [if_neg hm, if_neg (fun x => hm (h.mem_iff.2 x))]; exact h.cons _
theorem NextL.uniq {l : List Int} {r : Int} {i : Nat} {a b a' b' : List Int} (h : a.Perm b) (ha : NextL l r i a a') (hb : NextL l r i b b') : a'.Perm b' := by
  have hp := all_perm (l := l) (i := i) h
  have hl := hp.length_eq
  rcases ha with ⟨h1, h2⟩ | ⟨h1, y, h2, h3⟩
  · rcases hb with ⟨g1, g2⟩ | ⟨g1, z, g2, g3⟩
    · exact h2.trans (hp.trans g2.symm)
    · omega
  · rcases hb with ⟨g1, g2⟩ | ⟨g1, z, g2, g3⟩
    · omega
    · have e1 := h3 z (hp.mem_iff.2 (g2.mem_iff.2 List.mem_cons_self))
      have e2 := g3 y (hp.mem_iff.1 (h2.mem_iff.2 List.mem_cons_self))
      have e : y = z := by omega
      subst e
      exact (h2.symm.trans (hp.trans g2)).cons_inv
theorem Pre.uniq {l : List Int} {r : Int} {i : Nat} {keys : List Int} {o : List Bool} (p : Pre l r i keys o) : ∀ {keys' : List Int} {o' : List Bool}, Pre l r i keys' o' → keys.Perm keys' ∧ o = o' := by
  induction p with
  | nil => intro keys' o' q; cases q; exact ⟨List.Perm.refl _, rfl⟩
  | snoc i keys keys1 o hp hi hn ih =>
    intro keys' o' q
    cases q with
    | snoc i2 keys2 keys2' o2 hp2 hi2 hn2 =>
      obtain ⟨h1, h2⟩ := ih hp2
      refine ⟨NextL.uniq h1 hn hn2, ?_⟩
      rw [h2, decide_eq_decide.2 (h1.mem_iff (a := l.getD i 0))]

set_option maxRecDepth 100000 in
set_option maxHeartbeats 8000000 in
theorem plans_walk (a : Option Addr) (len cap b off : Nat) (F : Nat → Int) (ca : Option Addr) (n ccap cb coff : Nat) (C : Nat → Int) (room : Int) (w : World)
    (ha : 0 < len → a = some ⟨b, off, none⟩) (hlm : len ≤ maxLen) (hwf : ∀ i, i < len → (Lit.int .i64 (F i)).wf = true) (hF : ∀ W, Ext w W → ∀ i, i < len → W.cell? ⟨b, off + i, none⟩ = some (.int .i64 (F i)))
    (hca : 0 < n → ca = some ⟨cb, coff, none⟩) (hn : n ≤ maxLen) (hwfC : ∀ j, j < n → (Lit.int .i64 (C j)).wf = true) (hC : ∀ W, Ext w W → ∀ i, i < n → W.cell? ⟨cb, coff + i, none⟩ = some (.int .i64 (C i)))
    (hr : (Lit.int .i64 room).wf = true) :
    Calls Try.prog 4 #[.slice a len cap, .int .i64 room, .slice ca n ccap] w fun e w' => e = .returned (.bool true) ∧ Ext w w' := by
  unfold maxLen at hlm
  obtain ⟨hr1, hr2⟩ := wf_bounds hr
  clear hr
  by_cases hbig : 60 < len
  · have d0 : decide ((60 : Int) < (len : Int)) = true := decide_eq_true (by omega)
    clear ha hF hca hwfC hC hn hwf
    go_enter Try.func4, Try.ntmps4
    go_wp2_with fail
    refine (awake_any _).mono ?_
    rintro e w' ⟨rfl, hE⟩
    go_wp2_with fail
    go_ret
    exact ⟨rfl, hE⟩
  · have d0 : decide ((60 : Int) < (len : Int)) = false := decide_eq_false (by omega)
    obtain ⟨r, hrr⟩ : ∃ r, (room < 0 ∧ r = 0) ∨ (0 ≤ room ∧ room = r) := by
      by_cases h : room < 0
      · exact ⟨0, .inl ⟨h, rfl⟩⟩
      · exact ⟨room, .inr ⟨by omega, rfl⟩⟩
    have hr0 : 0 ≤ r := by omega
    have hr9 : r ≤ 9223372036854775807 := by omega
    have hl2 : len ≤ 4096 := by omega
    have H1 := Lib.hid (Next_any a len cap b off F w ha hl2 hwf hF)
    have H2 : ∀ W, Ext w W → _ := fun W hW => Plan_at a len cap b off F room r W ha hl2 hwf (fun W' h' => hF W' (hW.trans h')) hrr
    have H3 : ∀ W, Ext w W → _ := fun W hW => rPlan_any a len cap b off F room r W ha hl2 (fun W' h' => hF W' (hW.trans h')) hrr
    have H4 : ∀ W, Ext w W → _ := fun W hW => Hits_any a len cap b off F room r W ha hl2 hwf (fun W' h' => hF W' (hW.trans h')) hrr
    have H5 : ∀ W, Ext w W → _ := fun W hW => Serve_any a len cap b off F ca n ccap cb coff C room r W ha hl2 (fun W' h' => hF W' (hW.trans h')) hca hn (fun j hj => wf_bounds (hwfC j hj)) (fun W' h' => hC W' (hW.trans h')) hrr hr9
    have H6 : ∀ W, Ext w W → _ := fun W hW => rServe_any a len cap b off F ca n ccap cb coff C room r W ha hl2 (fun W' h' => hF W' (hW.trans h')) hca hn (fun j hj => wf_bounds (hwfC j hj)) (fun W' h' => hC W' (hW.trans h')) hrr hr9
    have H7 : ∀ W, Ext w W → ∀ i, i < len → _ := fun W hW i hi => rNext_any a len cap b off F i W ha hl2 hi (fun W' h' => hF W' (hW.trans h'))
    obtain ⟨sB, hsB⟩ : ∃ x, srv (lst F len) r (chc C n r) len 0 [] = x := ⟨_, rfl⟩
    rw [hsB] at H5 H6
    have e0 : (sB == sB) = true := beq_self_eq_true sB
    have H2 := Lib.hid H2
    have H3 := Lib.hid H3
    have H4 := Lib.hid H4
    have H5 := Lib.hid H5
    have H6 := Lib.hid H6
    have H7 := Lib.hid H7
    have HLL := Lib.hid (lst_len F len)
    clear ha hF hca hwfC hC hn hwf hsB hrr
    go_enter Try.func4, Try.ntmps4
    go_wp2_with fail
    refine H1.out.mono ?_
    rintro e w1 ⟨g1, rfl, hg1, hB1, hE1⟩
    have HE1 := Lib.hid hE1
    have HB1 := Lib.hid hB1
    clear hg1 hB1 hE1
    go_wp2_with fail
    refine (H2.out _ HE1.out).mono ?_
    rintro e w2 ⟨g2, keys, o, rfl, hg2, hB2, hP, hE2⟩
    have HE2 := Lib.hid (HE1.out.trans hE2)
    have HB1 := Lib.hid (HB1.out.ext hE2)
    have HB2 := Lib.hid hB2
    have HP := Lib.hid hP
    clear hg2 hB2 hP hE2
    go_wp2_with fail
    refine (H3.out _ HE2.out).mono ?_
    rintro e w3 ⟨v3, keys', o', rfl, hV3, hP3, hE3⟩
    have ho : o' = o := (HP.out.uniq hP3).2.symm
    subst ho
    have HE3 := Lib.hid (HE2.out.trans hE3)
    have HB1 := Lib.hid (HB1.out.ext hE3)
    have HB2 := Lib.hid (HB2.out.ext hE3)
    obtain ⟨a3, c3, b3, rfl, q1, q2, q3, q4, q5⟩ := hV3.open'
    have HA3 := Lib.hid q3
    have HC3 := Lib.hid q5
    have HOL := Lib.hid HP.out.len
    have HH : Hid (hits o' = B (lst F len) r len 0 (fun _ => 0)) := Lib.hid (by
      have := Pre.hits_eq (l := lst F len) hr0 (keys := keys) (o := o') (by rw [lst_len]; exact HP.out)
      rw [lst_len] at this
      exact this)
    unfold maxLen at q2
    clear hV3 hP3 hE3 q3 q4 q5
    go_wp2_with fail
    go_loopg [10, 11] len (fun g u i wr => ∃ k : Nat, u = .int .i64 (hits (o'.take k)) ∧ i = .int .i64 k ∧ k ≤ len ∧ Ext w3 wr ∧ len - k ≤ g)
    case atStart => exact ⟨0, by simp [hits], rfl, Nat.zero_le _, Ext.refl _, Nat.le_refl _⟩
    case round =>
      obtain ⟨k, rfl, rfl, hk, hE, hg⟩ := hrel
      have HE := Lib.hid hE
      obtain ⟨hh0, hh1⟩ := hits_le o' k
      obtain ⟨m, hm⟩ : ∃ m, hits (o'.take k) = m := ⟨_, rfl⟩
      rw [hm] at hh0 hh1 ⊢
      have HM := Lib.hid hm
      clear hE hm
      by_cases hik : k < len
      · obtain rfl := HA3.out (by omega)
        have hko : k < o'.length := by rw [HOL.out]; exact hik
        have HKO := Lib.hid hko
        have HT := Lib.hid (hits_take hko)
        obtain ⟨bb, hbb⟩ : ∃ bb, o'[k] = bb := ⟨_, rfl⟩
        have HBB : Hid (o'[k]'HKO.out = bb) := Lib.hid hbb
        obtain ⟨q, hq⟩ : ∃ q, nxt (lst F len) (k + 1) (F k) = q := ⟨_, rfl⟩
        have HQ := Lib.hid hq
        have e1 : ((q : Int) != (q : Int)) = false := by simp
        have hkz : (0 : Int) ≤ (k : Int) := by omega
        have hkz1 : (k : Int) < (len : Int) := by omega
        have HF1 : Hid (∀ W, Ext w3 W → W.cell? ⟨g1, k, none⟩ = some (.int .i64 q)) := Lib.hid (fun W hW => (HB1.out.ext hW).cell (by rw [OC_get (by rw [HLL.out]; exact hik), if_pos (Nat.zero_le _), lst_getD' hik, HQ.out]))
        have HF2 : Hid (∀ W, Ext w3 W → W.cell? ⟨g2, k, none⟩ = some (.bool bb)) := Lib.hid (fun W hW => (HB2.out.ext hW).cell (bools_get (by rw [List.getElem?_eq_getElem HKO.out, HBB.out])))
        have HF3 : Hid (∀ W, Ext w3 W → W.cell? ⟨b3, k, none⟩ = some (.bool bb)) := Lib.hid (fun W hW => by
          rw [HC3.out W hW k (by simp [RB]; omega)]
          unfold bl
          rw [List.getElem?_map, List.getElem?_eq_getElem HKO.out, HBB.out]
          rfl)
        have HNX : ∀ W, Ext w3 W → _ := fun W hW => H7.out W (HE3.out.trans hW) k hik
        rw [hq] at HNX
        have HNX := Lib.hid HNX
        clear hbb hq
        cases bb
        · go_wp2_with fail
          refine wp_region_segsE (Ext w3) (.quiet [11, 20] (.alt 0 (.quiet [19] .done) .stop)) (by kernel_rfl) (by kernel_rfl) (HE.out.trans (Ext.drew wr)) ?_
          apply segE_quiet
          · intro W hW
            have y1 := HF1.out _ hW
            have y2 := HF2.out _ hW
            have y3 := HF3.out _ hW
            simp only [runsT, runsF, rep, pick]
            go_wp2_with fail
            exact ⟨rfl, rfl⟩
          simp only [runsT, runsF, rep, left]
          refine segE_alt _ rfl ?_ segE_stop
          go_wp2_with fail
          refine (HNX.out _ (HE.out.trans (Ext.drew wr))).mono ?_
          rintro e w_11 ⟨rfl, hE11⟩
          have XE_11 := Lib.hid ((HE.out.trans (Ext.drew wr)).trans hE11)
          clear hE11
          go_wp2_with fail
          refine ⟨XE_11.out, ?_⟩
          try dsimp only [List.eraseIdx]
          apply segE_quiet
          · intro W hW
            have y1 := HF1.out _ hW
            have y2 := HF2.out _ hW
            have y3 := HF3.out _ hW
            simp only [runsT, runsF, rep, pick]
            go_wp2_with fail
            exact ⟨rfl, rfl⟩
          simp only [runsT, runsF, rep, left]
          apply segE_done
          have x3 := HF3.out _ XE_11.out
          go_wp2_with fail
          go_roundg (len - (k + 1))
          case measure => omega
          case rel => exact ⟨k + 1, by rw [HT.out, HBB.out, HM.out]; simp, by go_num, by omega, XE_11.out, Nat.le_refl _⟩
        · go_wp2_with fail
          refine wp_region_segsE (Ext w3) (.quiet [11, 20] (.alt 0 (.quiet [19] .done) .stop)) (by kernel_rfl) (by kernel_rfl) (HE.out.trans (Ext.drew wr)) ?_
          apply segE_quiet
          · intro W hW
            have y1 := HF1.out _ hW
            have y2 := HF2.out _ hW
            have y3 := HF3.out _ hW
            simp only [runsT, runsF, rep, pick]
            go_wp2_with fail
            exact ⟨rfl, rfl⟩
          simp only [runsT, runsF, rep, left]
          refine segE_alt _ rfl ?_ segE_stop
          go_wp2_with fail
          refine (HNX.out _ (HE.out.trans (Ext.drew wr))).mono ?_
          rintro e w_11 ⟨rfl, hE11⟩
          have XE_11 := Lib.hid ((HE.out.trans (Ext.drew wr)).trans hE11)
          clear hE11
          go_wp2_with fail
          refine ⟨XE_11.out, ?_⟩
          try dsimp only [List.eraseIdx]
          apply segE_quiet
          · intro W hW
            have y1 := HF1.out _ hW
            have y2 := HF2.out _ hW
            have y3 := HF3.out _ hW
            simp only [runsT, runsF, rep, pick]
            go_wp2_with fail
            exact ⟨rfl, rfl⟩
          simp only [runsT, runsF, rep, left]
          apply segE_done
          have x3 := HF3.out _ XE_11.out
          go_wp2_with fail
          go_roundg (len - (k + 1))
          case measure => omega
          case rel => exact ⟨k + 1, by rw [HT.out, HBB.out, HM.out]; simp, by go_num, by omega, XE_11.out, Nat.le_refl _⟩
      · obtain rfl : k = len := by omega
        have hdk : decide ((k : Int) < (k : Int)) = false := decide_eq_false (by omega)
        have e1 : ((k : Int) == (k : Int)) = true := by simp
        have e2 : (m == m) = true := beq_self_eq_true m
        have HB : Hid (B (lst F k) r k 0 (fun _ => 0) = m) := Lib.hid (by rw [← HH.out, ← HM.out, List.take_of_length_le (by rw [HOL.out]; exact Nat.le_refl _)])
        clear hik
        go_wp2_with fail
        refine (H4.out _ (HE3.out.trans HE.out)).mono ?_
        rw [HB.out]
        rintro e w4 ⟨rfl, hE4⟩
        have HE4 := Lib.hid ((HE3.out.trans HE.out).trans hE4)
        clear hE4
        go_wp2_with fail
        refine (H5.out _ HE4.out).mono ?_
        rintro e w5 ⟨rfl, hE5⟩
        have HE5 := Lib.hid (HE4.out.trans hE5)
        clear hE5
        go_wp2_with fail
        refine (H6.out _ HE5.out).mono ?_
        rintro e w6 ⟨rfl, hE6⟩
        have HE6 := Lib.hid (HE5.out.trans hE6)
        clear hE6
        go_wp2_with fail
        refine (awake_any _).mono ?_
        rintro e w7 ⟨rfl, hE7⟩
        go_wp2_with fail
        go_ret
        exact ⟨rfl, HE6.out.trans hE7⟩
end Go.Proofs.Ytnjohjicmhobdaa.Bl
