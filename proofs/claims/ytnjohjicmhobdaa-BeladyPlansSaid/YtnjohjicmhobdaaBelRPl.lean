/-
  Belady: the document's plan: the walk of Plan.
  At most 4096 requests; no other condition.
-/
import Derived.Test.YtnjohjicmhobdaaBelRSv
import Derived.Test.YtnjohjicmhobdaaBelServes
namespace Go.Proofs.Ytnjohjicmhobdaa.Bl
open Go.RowKit Go.Seg Go.Open Go.Lib Bel Rk TrUs Lo1

def RB : Row.Ty Try.prog := ⟨28, 4, .bool false, 1, 1, Try.underlying28, by kernel_rfl, rfl, by decide, by decide⟩
def bl (o : List Bool) : List Value := o.map Value.bool
theorem bl_one (o : List Bool) : ∀ u ∈ bl o, u.oneCell' = true := by
  intro u hu
  obtain ⟨x, _, rfl⟩ := List.mem_map.1 hu
  rfl
/-- Rows of unlike kinds lie apart. -/
theorem own_apart {P : Program} {R R' : Row.Ty P} {w : World} {B B' n m : Nat} {v u : Value} {xs ys : List Value} (h : Row.Own R w B v n xs) (h' : Row.Own R' w B' u m ys) (hne : R.e ≠ R'.e) : ∀ k, v.ownBlock = some k → u.ownBlock ≠ some k := by
  intro k hk hk'
  rcases h.2 with ⟨rfl, _⟩ | ⟨g, cap, cur, rfl, _, hh, _⟩
  · cases hk
  · rcases h'.2 with ⟨rfl, _⟩ | ⟨g', cap', cur', rfl, _, hh', _⟩
    · cases hk'
    · simp only [Value.ownBlock, Option.some.injEq] at hk hk'
      subst hk
      subst hk'
      rw [hh] at hh'
      simp only [Option.some.injEq, Obj.cells.injEq] at hh'
      exact hne hh'.2.1
theorem cut_perm {ks : List Int} {j : Nat} (h : j < ks.length) : ks.Perm (ks.getD j 0 :: cut ks j) := by
  unfold cut
  rw [getD_eq h]
  have e : ks = ks.take j ++ ks[j] :: ks.drop (j + 1) := by rw [← List.drop_eq_getElem_cons h, List.take_append_drop]
  have h1 : (ks.take j ++ ks[j] :: ks.drop (j + 1)).Perm (ks[j] :: (ks.take j ++ ks.drop (j + 1))) := List.perm_middle
  rwa [← e] at h1
theorem NextL.keep {l : List Int} {r : Int} {i : Nat} {keys ks : List Int} (hp : ks.Perm (all l i keys)) (h : (ks.length : Int) ≤ r) : NextL l r i keys ks := .inl ⟨by rw [← hp.length_eq]; exact h, hp⟩
theorem NextL.cut {l : List Int} {r : Int} {i : Nat} {keys ks : List Int} (hp : ks.Perm (all l i keys)) (h : r < (ks.length : Int)) {j : Nat} (hj : j < ks.length)
    (hm : ∀ t, t < ks.length → nxt l (i + 1) (ks.getD t 0) < nxt l (i + 1) (ks.getD j 0) ∨ (nxt l (i + 1) (ks.getD t 0) = nxt l (i + 1) (ks.getD j 0) ∧ ks.getD t 0 ≤ ks.getD j 0)) : NextL l r i keys (Bel.cut ks j) :=
  .inr ⟨by rw [← hp.length_eq]; exact h, ks.getD j 0, hp.symm.trans (cut_perm hj), fun x hx => by
    obtain ⟨t, ht, rfl⟩ := List.mem_iff_getElem.1 (hp.mem_iff.2 hx)
    have := hm t ht
    rwa [getD_eq ht] at this⟩
/-- The one that is let go so far. -/
def Best1 (f : Int → Nat) (ks : List Int) (n la : Nat) : Prop := ∀ t, t < n → f (ks.getD t 0) < f (ks.getD la 0) ∨ (f (ks.getD t 0) = f (ks.getD la 0) ∧ ks.getD t 0 ≤ ks.getD la 0)
theorem Best1.next {f : Int → Nat} {ks : List Int} {n la : Nat} (h : Best1 f ks n la) (hn : f (ks.getD la 0) < f (ks.getD n 0) ∨ (f (ks.getD n 0) = f (ks.getD la 0) ∧ ks.getD la 0 < ks.getD n 0)) : Best1 f ks (n + 1) n := by
  intro t ht
  by_cases e : t = n
  · rw [e]; exact .inr ⟨rfl, Int.le_refl _⟩
  · have := h t (by omega)
    omega
theorem Best1.stay {f : Int → Nat} {ks : List Int} {n la : Nat} (h : Best1 f ks n la) (hn : ¬ (f (ks.getD la 0) < f (ks.getD n 0) ∨ (f (ks.getD n 0) = f (ks.getD la 0) ∧ ks.getD la 0 < ks.getD n 0))) : Best1 f ks (n + 1) la := by
  intro t ht
  by_cases e : t = n
  · rw [e]; omega
  · exact h t (by omega)

set_option maxRecDepth 100000 in
set_option maxHeartbeats 8000000 in
theorem rPlan_any (a : Option Addr) (len cap b off : Nat) (F : Nat → Int) (room r : Int) (w : World) (ha : 0 < len → a = some ⟨b, off, none⟩) (hl : len ≤ 4096)
    (hF : ∀ W, Ext w W → ∀ i, i < len → W.cell? ⟨b, off + i, none⟩ = some (.int .i64 (F i))) (hr : (room < 0 ∧ r = 0) ∨ (0 ≤ room ∧ room = r)) :
    Calls Try.prog 14 #[.slice a len cap, .int .i64 room] w fun e w' => ∃ v keys o, e = .returned v ∧ Row.Own RB w' w.heap.size v len (bl o) ∧ Pre (lst F len) r len keys o ∧ Ext w w' := by
  have HA := Lib.hid ha
  have HF := Lib.hid hF
  have HLL := Lib.hid (lst_len F len)
  have hr0 : 0 ≤ r := by omega
  have hmx : max room 0 = r := by omega
  clear ha hF hr
  go_enter Try.func14, Try.ntmps14
  go_wp2_with fail
  go_loopg [5, 6, 7] len (fun g v u i wr => ∃ (k : Nat) (keys : List Int) (o : List Bool) (av : Option Addr) (cv : Nat) (au : Option Addr) (cu : Nat), v = .slice av keys.length cv ∧ u = .slice au k cu ∧ i = .int .i64 k ∧ k ≤ len ∧ Ints wr w.heap.size v keys ∧ Row.Own RB wr w.heap.size u k (bl o) ∧ Pre (lst F len) r k keys o ∧ Ext w wr ∧ len - k ≤ g)
  case atStart => exact ⟨0, [], [], none, 0, none, 0, rfl, rfl, rfl, Nat.zero_le _, World.ownsRow_nil _ _ _ _, World.ownsRow_nil _ _ _ _, .nil, Ext.refl _, Nat.le_refl _⟩
  case round =>
    obtain ⟨k, keys, o, av, cv, au, cu, rfl, rfl, rfl, hk, hV, hU, hP, hE, hg⟩ := hrel
    have hkr := (hP.basic hr0).2.1
    have HV := Lib.hid hV
    have HU := Lib.hid hU
    have HP := Lib.hid hP
    have HE := Lib.hid hE
    have hkl : keys.length ≤ 4096 := by
      have h1 := (hP.basic hr0).2.2.2.1
      have h2 := dist_ge (l := lst F len) k keys (by rw [lst_len]; exact hk) (hP.basic hr0).1 h1
      have h3 := dist_bd (lst F len) k
      omega
    have HOL := Lib.hid hP.len
    clear hV hU hP hE
    by_cases hik : k < len
    · obtain rfl := HA.out (by omega)
      have HKL : Hid (k < (lst F len).length) := Lib.hid (by rw [HLL.out]; exact hik)
      have HG : Hid ((lst F len).getD k 0 = F k) := Lib.hid (by rw [getD_eq HKL.out, lst_get])
      obtain ⟨bb, hbb⟩ : ∃ bb : Bool, decide (F k ∈ keys) = bb := ⟨_, rfl⟩
      have HBB := Lib.hid hbb
      clear hbb
      have x0 := HF.out _ HE.out k hik
      have hA : Ext wr (wr.alloc (Obj.cells #[.bool bb] 4)) := (Below.refl _ _).alloc (Nat.le_refl _) _
      have HA4 := Lib.hid hA
      clear hA
      go_wp2_with fail
      refine (among_ints _ _ _ _ _ HV.out (by omega)).mono ?_
      rw [HBB.out]
      rintro e w' ⟨rfl, rfl⟩
      go_wp2_with (at_builtin; refine Row.wpList_app2 RB _ rfl (.tmp 18) (.tmp 25) rfl w.heap.size _ k (bl o) rfl (HU.out.ext HA4.out) _ _ 1 [.bool bb] rfl (Row.own_lit RB wr #[.bool bb] rfl) (bl_one [bb]) (by omega) (Nat.le_trans HE.out.size HA4.out.size) ?_)
      intro a_8 c_8 w_8 h_8 g_8
      have h_8' : Row.Own RB w_8 w.heap.size (.slice a_8 (k + 1) c_8) (k + 1) (bl (o ++ [bb])) := by unfold bl; rw [List.map_append]; exact h_8
      have H_8 := Lib.hid h_8'
      have XE_8 := Lib.hid (Row.ext_grown (HE.out.trans HA4.out) (HU.out.ext HA4.out) (Nat.le_refl _) g_8)
      have HX8 := Lib.hid ((HV.out.ext HA4.out).kept (u := .slice au k cu) g_8 (own_apart (R := RI) (HV.out.ext HA4.out) (HU.out.ext HA4.out) (by decide)))
      clear h_8 h_8' g_8 x0
      have x8 := HF.out _ XE_8.out k hik
      go_wp2_with fail
      refine (among_ints _ _ _ _ _ HX8.out (by omega)).mono ?_
      rw [HBB.out]
      rintro e w' ⟨rfl, rfl⟩
      obtain ⟨ks, hks⟩ : ∃ ks, (bb = true → ks = keys) ∧ (bb = false → ks = keys ++ [F k]) := by
        cases bb
        · exact ⟨keys ++ [F k], fun h => (by cases h), fun _ => rfl⟩
        · exact ⟨keys, fun _ => rfl, fun h => (by cases h)⟩
      have HKS := Lib.hid hks
      clear hks x8
      obtain ⟨nb, hnb⟩ : ∃ nb : Bool, (!bb) = nb := ⟨_, rfl⟩
      go_upto_if 33 with fail
      have HNB := Lib.hid hnb
      clear hnb
      go_cut [5] (fun s5 wx => (∃ a5 c5, s5 = .slice a5 ks.length c5) ∧ Ints wx w.heap.size s5 ks ∧ Ext w_8 wx)
      case first =>
        cases nb with
        | false =>
          have E : Hid (ks = keys) := Lib.hid (HKS.out.1 (by have := HNB.out; simpa using this))
          go_wp2_with fail
          go_meet
          exact ⟨⟨_, _, by rw [E.out]⟩, by rw [E.out]; exact HX8.out, Ext.refl _⟩
        | true =>
          have E : Hid (ks = keys ++ [F k]) := Lib.hid (HKS.out.2 (by have := HNB.out; simpa using this))
          go_wp2_with fail
          refine wp_region_segsE (Ext w_8) (.quiet [0, 1, 1, 1, 4, 3] (.alt 0 (.alt 0 (.alt 0 (.alt 0 (.quiet [1] .done) .stop) .stop) (.alt 1 (.alt 0 (.alt 0 (.quiet [1] .done) .stop) .stop) .stop)) (.alt 2 (.alt 0 (.alt 0 (.alt 0 (.quiet [1] .done) .stop) .stop) .stop) .stop))) (by kernel_rfl) (by kernel_rfl) (Ext.drew _) ?_
          apply segE_quiet
          · intro W hW
            have x0 := HF.out _ (XE_8.out.trans hW) k hik
            simp only [runsT, runsF, rep, pick]
            go_wp2_with fail
            exact ⟨rfl, rfl⟩
          simp only [runsT, runsF, rep, left]
          refine segE_alt _ rfl ?_ ?_
          · skip
            refine lit0I rfl rfl ?_
            intro b_0 d_0 v_0 y_0 z_0
            have Y_0 := Lib.hid y_0
            have Z_0 := Lib.hid z_0
            have XY_0 := Lib.hid ((Ext.drew w_8).trans z_0)
            clear y_0 z_0
            go_wp2_with fail
            refine ⟨XY_0.out, ?_⟩
            try dsimp only [List.eraseIdx]
            refine segE_alt _ rfl ?_ ?_
            · skip
              refine appL2 rfl (.tmp 34) (.tmp 35) rfl _ _ [] rfl Y_0.out _ _ keys rfl (HX8.out.ext XY_0.out) (by simp; omega) XY_0.out.size ?_
              intro b_2 d_2 v_2 y_2 gy_2
              rw [List.nil_append] at y_2 ⊢
              have Gy_2 := Lib.hid gy_2
              have Y_2 := Lib.hid y_2
              have XY_2 := Lib.hid (ext_grown XY_0.out Y_0.out (Nat.le_refl _) gy_2)
              clear y_2 gy_2
              go_wp2_with fail
              refine ⟨XY_2.out, ?_⟩
              try dsimp only [List.eraseIdx]
              refine segE_alt _ rfl ?_ ?_
              · skip
                refine lit1I rfl (.tmp 40) rfl (F k) rfl ?_
                intro b_7 d_7 v_7 y_7 z_7
                have Y_7 := Lib.hid y_7
                have Z_7 := Lib.hid z_7
                have XY_7 := Lib.hid (XY_2.out.trans z_7)
                clear y_7 z_7
                go_wp2_with fail
                refine ⟨XY_7.out, ?_⟩
                try dsimp only [List.eraseIdx]
                refine segE_alt _ rfl ?_ ?_
                · skip
                  refine appL2 rfl (.tmp 36) (.tmp 41) rfl _ _ keys rfl (Y_2.out.ext Z_7.out) _ _ [F k] rfl Y_7.out (by simp; omega) XY_7.out.size ?_
                  intro b_8 d_8 v_8 y_8 gy_8
                  rw [← E.out] at y_8 ⊢
                  have Y_8 := Lib.hid y_8
                  have XY_8 := Lib.hid (ext_grown XY_7.out (Y_2.out.ext Z_7.out) (Nat.le_refl _) gy_8)
                  clear y_8 gy_8
                  go_wp2_with fail
                  refine ⟨XY_8.out, ?_⟩
                  try dsimp only [List.eraseIdx]
                  apply segE_quiet
                  · intro W hW
                    simp only [runsT, runsF, rep, pick]
                    go_wp2_with fail
                    exact ⟨rfl, rfl⟩
                  simp only [runsT, runsF, rep, left]
                  apply segE_done
                  go_wp2_with fail
                  go_meet
                  exact ⟨⟨_, _, rfl⟩, Y_8.out.base XE_8.out.size, XY_8.out⟩
                exact segE_stop
              exact segE_stop
            refine segE_alt _ rfl ?_ ?_
            · skip
              refine lit1I rfl (.tmp 40) rfl (F k) rfl ?_
              intro b_7 d_7 v_7 y_7 z_7
              have Y_7 := Lib.hid y_7
              have Z_7 := Lib.hid z_7
              have XY_7 := Lib.hid (XY_0.out.trans z_7)
              clear y_7 z_7
              go_wp2_with fail
              refine ⟨XY_7.out, ?_⟩
              try dsimp only [List.eraseIdx]
              refine segE_alt _ rfl ?_ ?_
              · skip
                refine appL2 rfl (.tmp 34) (.tmp 35) rfl _ _ [] rfl (Y_0.out.ext Z_7.out) _ _ keys rfl (HX8.out.ext XY_7.out) (by simp; omega) XY_7.out.size ?_
                intro b_2 d_2 v_2 y_2 gy_2
                rw [List.nil_append] at y_2 ⊢
                have Gy_2 := Lib.hid gy_2
                have Y_2 := Lib.hid y_2
                have XY_2 := Lib.hid (ext_grown XY_7.out (Y_0.out.ext Z_7.out) (Nat.le_refl _) gy_2)
                clear y_2 gy_2
                go_wp2_with fail
                refine ⟨XY_2.out, ?_⟩
                try dsimp only [List.eraseIdx]
                refine segE_alt _ rfl ?_ ?_
                · skip
                  refine appL2 rfl (.tmp 36) (.tmp 41) rfl _ _ keys rfl Y_2.out _ _ [F k] rfl (Y_7.out.kept Gy_2.out (fun k hk hk5 => by have h1 := Y_7.out.lt k hk; have h2 := Y_0.out.lt k hk5; omega)) (by simp; omega) XY_2.out.size ?_
                  intro b_8 d_8 v_8 y_8 gy_8
                  rw [← E.out] at y_8 ⊢
                  have Y_8 := Lib.hid y_8
                  have XY_8 := Lib.hid (ext_grown XY_2.out Y_2.out (Nat.le_refl _) gy_8)
                  clear y_8 gy_8
                  go_wp2_with fail
                  refine ⟨XY_8.out, ?_⟩
                  try dsimp only [List.eraseIdx]
                  apply segE_quiet
                  · intro W hW
                    simp only [runsT, runsF, rep, pick]
                    go_wp2_with fail
                    exact ⟨rfl, rfl⟩
                  simp only [runsT, runsF, rep, left]
                  apply segE_done
                  go_wp2_with fail
                  go_meet
                  exact ⟨⟨_, _, rfl⟩, Y_8.out.base XE_8.out.size, XY_8.out⟩
                exact segE_stop
              exact segE_stop
            exact segE_stop
          refine segE_alt _ rfl ?_ ?_
          · skip
            refine lit1I rfl (.tmp 40) rfl (F k) rfl ?_
            intro b_7 d_7 v_7 y_7 z_7
            have Y_7 := Lib.hid y_7
            have Z_7 := Lib.hid z_7
            have XY_7 := Lib.hid ((Ext.drew w_8).trans z_7)
            clear y_7 z_7
            go_wp2_with fail
            refine ⟨XY_7.out, ?_⟩
            try dsimp only [List.eraseIdx]
            refine segE_alt _ rfl ?_ ?_
            · skip
              refine lit0I rfl rfl ?_
              intro b_0 d_0 v_0 y_0 z_0
              have Y_0 := Lib.hid y_0
              have Z_0 := Lib.hid z_0
              have XY_0 := Lib.hid (XY_7.out.trans z_0)
              clear y_0 z_0
              go_wp2_with fail
              refine ⟨XY_0.out, ?_⟩
              try dsimp only [List.eraseIdx]
              refine segE_alt _ rfl ?_ ?_
              · skip
                refine appL2 rfl (.tmp 34) (.tmp 35) rfl _ _ [] rfl Y_0.out _ _ keys rfl (HX8.out.ext XY_0.out) (by simp; omega) Z_0.out.size ?_
                intro b_2 d_2 v_2 y_2 gy_2
                rw [List.nil_append] at y_2 ⊢
                have Gy_2 := Lib.hid gy_2
                have Y_2 := Lib.hid y_2
                have XY_2 := Lib.hid (ext_grown XY_0.out Y_0.out XY_7.out.size gy_2)
                clear y_2 gy_2
                go_wp2_with fail
                refine ⟨XY_2.out, ?_⟩
                try dsimp only [List.eraseIdx]
                refine segE_alt _ rfl ?_ ?_
                · skip
                  refine appL2 rfl (.tmp 36) (.tmp 41) rfl _ _ keys rfl Y_2.out _ _ [F k] rfl ((Y_7.out.ext Z_0.out).kept Gy_2.out (fun k hk hk5 => by have h1 := Y_7.out.lt k hk; have h2 := Y_0.out.lt k hk5; omega)) (by simp; omega) (Nat.le_trans Z_0.out.size Gy_2.out.size) ?_
                  intro b_8 d_8 v_8 y_8 gy_8
                  rw [← E.out] at y_8 ⊢
                  have Y_8 := Lib.hid y_8
                  have XY_8 := Lib.hid (ext_grown XY_2.out Y_2.out XY_7.out.size gy_8)
                  clear y_8 gy_8
                  go_wp2_with fail
                  refine ⟨XY_8.out, ?_⟩
                  try dsimp only [List.eraseIdx]
                  apply segE_quiet
                  · intro W hW
                    simp only [runsT, runsF, rep, pick]
                    go_wp2_with fail
                    exact ⟨rfl, rfl⟩
                  simp only [runsT, runsF, rep, left]
                  apply segE_done
                  go_wp2_with fail
                  go_meet
                  exact ⟨⟨_, _, rfl⟩, Y_8.out.base (XE_8.out.trans XY_7.out).size, XY_8.out⟩
                exact segE_stop
              exact segE_stop
            exact segE_stop
          exact segE_stop
      case rest =>
        obtain ⟨⟨a5, c5, rfl⟩, hV5, hE5⟩ := hcut
        have HU5 := Lib.hid (H_8.out.ext hE5)
        have HE5 := Lib.hid (XE_8.out.trans hE5)
        have HV5 := Lib.hid hV5
        have hP5 : ks.Perm (all (lst F len) k keys) := by
          cases bb with
          | true => rw [HKS.out.1 rfl, all_mem (by rw [HG.out]; exact of_decide_eq_true HBB.out)]
          | false => rw [HKS.out.2 rfl, all_new (by rw [HG.out]; exact of_decide_eq_false HBB.out), HG.out]; exact List.perm_append_singleton _ _
        have HP5 := Lib.hid hP5
        have hl5 : ks.length ≤ 4097 := by
          cases bb with
          | true => rw [HKS.out.1 rfl]; omega
          | false => rw [HKS.out.2 rfl]; simp; omega
        have HO : Hid (bb = decide ((lst F len).getD k 0 ∈ keys)) := Lib.hid (by rw [HG.out, HBB.out])
        obtain ⟨a5', c5', kb, hv, g1, g2, g3, g4, g5⟩ := hV5.openI
        simp only [Value.slice.injEq] at hv
        obtain ⟨rfl, -, rfl⟩ := hv
        have HV7 := Lib.hid g3
        have HC7 := Lib.hid g5
        unfold maxLen at g2
        clear hV5 hE5 hP5 g3 g4 g5
        by_cases hov : r < (ks.length : Int)
        · have d1 : decide (r < (ks.length : Int)) = true := decide_eq_true hov
          obtain rfl := HV7.out (by omega)
          go_wp2_with fail
          go_loopg [8, 9] ks.length (fun g s t w2 => ∃ la n : Nat, s = .int .i64 la ∧ t = .int .i64 n ∧ la < ks.length ∧ n ≤ ks.length ∧ Ext wc w2 ∧ Hid (Best1 (nxt (lst F len) (k + 1)) ks n la) ∧ ks.length - n ≤ g)
          case atStart => exact ⟨0, 0, rfl, rfl, by omega, Nat.zero_le _, Ext.refl _, Lib.hid (fun t h => absurd h (by omega)), Nat.le_refl _⟩
          case round =>
            obtain ⟨la, n, rfl, rfl, hla, hn, hE2, hB1, hg2⟩ := hrel
            have HE2 := Lib.hid hE2
            clear hE2
            by_cases hnk : n < ks.length
            · obtain ⟨zn, hzn⟩ : ∃ z, ks.getD n 0 = z := ⟨_, rfl⟩
              obtain ⟨zl, hzl⟩ : ∃ z, ks.getD la 0 = z := ⟨_, rfl⟩
              obtain ⟨fn, hfn⟩ : ∃ z, nxt (lst F len) (k + 1) zn = z := ⟨_, rfl⟩
              obtain ⟨fl, hfl⟩ : ∃ z, nxt (lst F len) (k + 1) zl = z := ⟨_, rfl⟩
              have HZN := Lib.hid hzn
              have HZL := Lib.hid hzl
              have HFN := Lib.hid hfn
              have HFL := Lib.hid hfl
              clear hzn hzl hfn hfl
              go_wp2_with fail
              refine wp_region_segsE (Ext wr) (.quiet [6, 1, 6, 3] (.alt 0 (.alt 0 (.quiet [2] .done) .stop) .stop)) (by kernel_rfl) (by kernel_rfl) (Ext.drew _) ?_
              apply segE_quiet
              · intro W hW
                have y1 := HC7.out _ (HE2.out.trans hW) n hnk
                have y2 := HC7.out _ (HE2.out.trans hW) la hla
                rw [Nat.zero_add, HZN.out] at y1
                rw [Nat.zero_add, HZL.out] at y2
                simp only [runsT, runsF, rep, pick]
                go_wp2_with fail
                exact ⟨rfl, rfl⟩
              simp only [runsT, runsF, rep, left]
              refine segE_alt _ rfl ?_ segE_stop
              go_wp2_with fail
              refine (use_any (some ⟨b, off, none⟩) len cap b off F k zn _ (fun _ => rfl) hl hik (HF.out _ (HE5.out.trans (HE2.out.trans (Ext.drew wr))))).mono ?_
              rw [HFN.out]
              rintro e w' ⟨rfl, rfl⟩
              go_wp2_with fail
              refine ⟨Ext.drew wr, ?_⟩
              try dsimp only [List.eraseIdx]
              refine segE_alt _ rfl ?_ segE_stop
              go_wp2_with fail
              refine (use_any (some ⟨b, off, none⟩) len cap b off F k zl _ (fun _ => rfl) hl hik (HF.out _ (HE5.out.trans (HE2.out.trans (Ext.drew wr))))).mono ?_
              rw [HFL.out]
              rintro e w' ⟨rfl, rfl⟩
              go_wp2_with fail
              refine ⟨Ext.drew wr, ?_⟩
              try dsimp only [List.eraseIdx]
              apply segE_quiet
              · intro W hW
                have y1 := HC7.out _ (HE2.out.trans hW) n hnk
                have y2 := HC7.out _ (HE2.out.trans hW) la hla
                rw [Nat.zero_add, HZN.out] at y1
                rw [Nat.zero_add, HZL.out] at y2
                simp only [runsT, runsF, rep, pick]
                go_wp2_with fail
                exact ⟨rfl, rfl⟩
              simp only [runsT, runsF, rep, left]
              apply segE_done
              go_wp2_with fail
              have XE_13 := Lib.hid (Ext.drew wr)
              by_cases q1 : fl < fn
              · have e1 : decide ((fl : Int) < (fn : Int)) = true := decide_eq_true (by omega)
                have e1' : decide (fl < fn) = true := decide_eq_true q1
                have HB2 := Lib.hid (hB1.out.next (by rw [HZN.out, HZL.out, HFN.out, HFL.out]; exact .inl q1))
                refine wp_region_segsE (Ext wr) (.quiet [19] .done) (by kernel_rfl) (by kernel_rfl) ((Ext.drew wr).trans (Ext.drew wr.drew)) ?_
                apply segE_quiet
                · intro W hW
                  have y1 := HC7.out _ (HE2.out.trans hW) n hnk
                  have y2 := HC7.out _ (HE2.out.trans hW) la hla
                  rw [Nat.zero_add, HZN.out] at y1
                  rw [Nat.zero_add, HZL.out] at y2
                  simp only [runsT, runsF, rep, pick]
                  go_wp2_with fail
                  exact ⟨rfl, rfl⟩
                simp only [runsT, runsF, rep, left]
                apply segE_done
                go_wp2_with fail
                go_roundg (ks.length - (n + 1))
                case measure => omega
                case rel => exact ⟨n, n + 1, rfl, by go_num, hnk, by omega, HE2.out.trans (XE_13.out.trans (Ext.drew _)), HB2, Nat.le_refl _⟩
              · have e1 : decide ((fl : Int) < (fn : Int)) = false := decide_eq_false (by omega)
                have e1' : decide (fl < fn) = false := decide_eq_false q1
                by_cases q2 : fn = fl
                · have e2 : ((fn : Int) == (fl : Int)) = true := by simp [q2]
                  have e2' : (fn == fl) = true := by simp [q2]
                  by_cases q3 : zl < zn
                  · have e3 : decide (zl < zn) = true := decide_eq_true q3
                    have HB2 := Lib.hid (hB1.out.next (by rw [HZN.out, HZL.out, HFN.out, HFL.out]; exact .inr ⟨q2, q3⟩))
                    have HQ := Lib.hid q2
                    clear q1 q2 q3
                    refine wp_region_segsE (Ext wr) (.quiet [19] .done) (by kernel_rfl) (by kernel_rfl) ((Ext.drew wr).trans (Ext.drew wr.drew)) ?_
                    apply segE_quiet
                    · intro W hW
                      have y1 := HC7.out _ (HE2.out.trans hW) n hnk
                      have y2 := HC7.out _ (HE2.out.trans hW) la hla
                      rw [Nat.zero_add, HZN.out] at y1
                      rw [Nat.zero_add, HZL.out] at y2
                      simp only [runsT, runsF, rep, pick]
                      go_wp2_with fail
                      exact ⟨rfl, rfl⟩
                    simp only [runsT, runsF, rep, left]
                    apply segE_done
                    go_wp2_with fail
                    go_roundg (ks.length - (n + 1))
                    case measure => omega
                    case rel => exact ⟨n, n + 1, rfl, by go_num, hnk, by omega, HE2.out.trans (XE_13.out.trans (Ext.drew _)), HB2, Nat.le_refl _⟩
                  · have e3 : decide (zl < zn) = false := decide_eq_false q3
                    have HB2 := Lib.hid (hB1.out.stay (by rw [HZN.out, HZL.out, HFN.out, HFL.out]; exact fun h => h.elim q1 (fun h => q3 h.2)))
                    have HQ := Lib.hid q2
                    clear q1 q2 q3
                    refine wp_region_segsE (Ext wr) (.quiet [19] .done) (by kernel_rfl) (by kernel_rfl) ((Ext.drew wr).trans (Ext.drew wr.drew)) ?_
                    apply segE_quiet
                    · intro W hW
                      have y1 := HC7.out _ (HE2.out.trans hW) n hnk
                      have y2 := HC7.out _ (HE2.out.trans hW) la hla
                      rw [Nat.zero_add, HZN.out] at y1
                      rw [Nat.zero_add, HZL.out] at y2
                      simp only [runsT, runsF, rep, pick]
                      go_wp2_with fail
                      exact ⟨rfl, rfl⟩
                    simp only [runsT, runsF, rep, left]
                    apply segE_done
                    go_wp2_with fail
                    go_roundg (ks.length - (n + 1))
                    case measure => omega
                    case rel => exact ⟨la, n + 1, rfl, by go_num, hla, by omega, HE2.out.trans (XE_13.out.trans (Ext.drew _)), HB2, Nat.le_refl _⟩
                · have e2 : ((fn : Int) == (fl : Int)) = false := beq_eq_false_iff_ne.2 (by omega)
                  have e2' : (fn == fl) = false := beq_eq_false_iff_ne.2 q2
                  have HB2 := Lib.hid (hB1.out.stay (by rw [HZN.out, HZL.out, HFN.out, HFL.out]; exact fun h => h.elim q1 (fun h => q2 h.1)))
                  clear q1 q2
                  refine wp_region_segsE (Ext wr) (.quiet [19] .done) (by kernel_rfl) (by kernel_rfl) ((Ext.drew wr).trans (Ext.drew wr.drew)) ?_
                  apply segE_quiet
                  · intro W hW
                    have y1 := HC7.out _ (HE2.out.trans hW) n hnk
                    have y2 := HC7.out _ (HE2.out.trans hW) la hla
                    rw [Nat.zero_add, HZN.out] at y1
                    rw [Nat.zero_add, HZL.out] at y2
                    simp only [runsT, runsF, rep, pick]
                    go_wp2_with fail
                    exact ⟨rfl, rfl⟩
                  simp only [runsT, runsF, rep, left]
                  apply segE_done
                  go_wp2_with fail
                  go_roundg (ks.length - (n + 1))
                  case measure => omega
                  case rel => exact ⟨la, n + 1, rfl, by go_num, hla, by omega, HE2.out.trans (XE_13.out.trans (Ext.drew _)), HB2, Nat.le_refl _⟩
            · obtain rfl : n = ks.length := by omega
              have d4 : decide ((ks.length : Int) < (ks.length : Int)) = false := decide_eq_false (by omega)
              have HNX := Lib.hid (NextL.cut HP5.out hov hla (fun t ht => hB1.out t ht))
              have hlc := cut_len hla
              clear hnk
              by_cases hcv : c5 = la + 1
              · subst hcv
                go_wp2_with fail
                have HC7x := Lib.hid (fun W hW => HC7.out W (HE2.out.trans hW))
                refine wp_region_segsE (Ext wr) (.quiet [0, 1, 3, 1, 4, 2] (.alt 0 (.alt 0 (.alt 0 (.quiet [1] .done) .stop) .stop) .stop)) (by kernel_rfl) (by kernel_rfl) (Ext.drew _) ?_
                apply segE_quiet
                · intro W hW
                  simp only [runsT, runsF, rep, pick]
                  go_wp2_with fail
                  exact ⟨rfl, rfl⟩
                simp only [runsT, runsF, rep, left]
                refine segE_alt _ rfl ?_ ?_
                · skip
                  refine lit0I rfl rfl ?_
                  intro a_0 c_0 w_0 h_0 s_0
                  have H_0 := Lib.hid h_0
                  have XE_0 := Lib.hid ((Ext.drew wr).trans s_0)
                  clear h_0 s_0
                  go_wp2_with fail
                  refine ⟨XE_0.out, ?_⟩
                  try dsimp only [List.eraseIdx]
                  refine segE_alt _ rfl ?_ ?_
                  · skip
                    refine appI rfl (.tmp 88) (.tmp 91) rfl _ _ [] rfl H_0.out (some ⟨kb, 0, none⟩) la _ (ks.take la) rfl (by simp; omega) (fun h => by cases h) (cells_take (HC7x.out _ XE_0.out) (by omega)) (by simp; omega) XE_0.out.size ?_
                    intro a_4 c_4 w_4 h_4 g_4
                    simp only [List.nil_append, List.length_nil, Nat.zero_add] at h_4 ⊢
                    have H_4 := Lib.hid h_4
                    have XE_4 := Lib.hid (ext_grown XE_0.out H_0.out (Nat.le_refl _) g_4)
                    clear h_4 g_4
                    go_wp2_with fail
                    refine ⟨XE_4.out, ?_⟩
                    try dsimp only [List.eraseIdx]
                    refine segE_alt _ rfl ?_ ?_
                    · skip
                      refine appI rfl (.tmp 92) (.tmp 96) rfl _ _ (ks.take la) rfl H_4.out _ _ _ (ks.drop (la + 1)) rfl (by simp; omega) (fun h => by cases h) (fun ad had j hj => absurd hj (by omega)) (by simp; omega) XE_4.out.size ?_
                      intro a_9 c_9 w_9 h_9 g_9
                      have e9 : (ks.take la).length + 0 = (cut ks la).length := by unfold cut; simp; omega
                      rw [e9] at h_9 ⊢
                      change Ints w_9 _ _ (cut ks la) at h_9
                      have H_9 := Lib.hid h_9
                      have XE_9 := Lib.hid (ext_grown XE_4.out H_4.out (Nat.le_refl _) g_9)
                      clear h_9 g_9 e9
                      go_wp2_with fail
                      refine ⟨XE_9.out, ?_⟩
                      try dsimp only [List.eraseIdx]
                      apply segE_quiet
                      · intro W hW
                        simp only [runsT, runsF, rep, pick]
                        go_wp2_with fail
                        exact ⟨rfl, rfl⟩
                      simp only [runsT, runsF, rep, left]
                      apply segE_done
                      go_wp2_with fail
                      go_roundg (len - (k + 1))
                      case measure => omega
                      case rel => exact ⟨k + 1, cut ks la, o ++ [bb], _, _, _, _, rfl, rfl, by go_num, by omega, H_9.out.base (HE5.out.trans HE2.out).size, (HU5.out.ext HE2.out).ext XE_9.out, by rw [HO.out]; exact Pre.snoc k keys _ o HP.out HKL.out HNX.out, HE5.out.trans (HE2.out.trans XE_9.out), Nat.le_refl _⟩
                    exact segE_stop
                  exact segE_stop
                exact segE_stop
              · go_wp2_with fail
                have HC7x := Lib.hid (fun W hW => HC7.out W (HE2.out.trans hW))
                refine wp_region_segsE (Ext wr) (.quiet [0, 1, 3, 1, 4, 2] (.alt 0 (.alt 0 (.alt 0 (.quiet [1] .done) .stop) .stop) .stop)) (by kernel_rfl) (by kernel_rfl) (Ext.drew _) ?_
                apply segE_quiet
                · intro W hW
                  simp only [runsT, runsF, rep, pick]
                  go_wp2_with fail
                  exact ⟨rfl, rfl⟩
                simp only [runsT, runsF, rep, left]
                refine segE_alt _ rfl ?_ ?_
                · skip
                  refine lit0I rfl rfl ?_
                  intro a_0 c_0 w_0 h_0 s_0
                  have H_0 := Lib.hid h_0
                  have XE_0 := Lib.hid ((Ext.drew wr).trans s_0)
                  clear h_0 s_0
                  go_wp2_with fail
                  refine ⟨XE_0.out, ?_⟩
                  try dsimp only [List.eraseIdx]
                  refine segE_alt _ rfl ?_ ?_
                  · skip
                    refine appI rfl (.tmp 88) (.tmp 91) rfl _ _ [] rfl H_0.out (some ⟨kb, 0, none⟩) la _ (ks.take la) rfl (by simp; omega) (fun h => by cases h) (cells_take (HC7x.out _ XE_0.out) (by omega)) (by simp; omega) XE_0.out.size ?_
                    intro a_4 c_4 w_4 h_4 g_4
                    simp only [List.nil_append, List.length_nil, Nat.zero_add] at h_4 ⊢
                    have H_4 := Lib.hid h_4
                    have XE_4 := Lib.hid (ext_grown XE_0.out H_0.out (Nat.le_refl _) g_4)
                    clear h_4 g_4
                    go_wp2_with fail
                    refine ⟨XE_4.out, ?_⟩
                    try dsimp only [List.eraseIdx]
                    refine segE_alt _ rfl ?_ ?_
                    · skip
                      refine appI rfl (.tmp 92) (.tmp 96) rfl _ _ (ks.take la) rfl H_4.out _ _ _ (ks.drop (la + 1)) rfl (by simp) (fun h => by cases h) (cells_drop (keys := ks) (k := la + 1) (HC7x.out _ XE_4.out) (fun _ => rfl)) (by simp; omega) XE_4.out.size ?_
                      intro a_9 c_9 w_9 h_9 g_9
                      have e9 : (ks.take la).length + (ks.length - (la + 1)) = (cut ks la).length := by unfold cut; simp
                      rw [e9] at h_9 ⊢
                      change Ints w_9 _ _ (cut ks la) at h_9
                      have H_9 := Lib.hid h_9
                      have XE_9 := Lib.hid (ext_grown XE_4.out H_4.out (Nat.le_refl _) g_9)
                      clear h_9 g_9 e9
                      go_wp2_with fail
                      refine ⟨XE_9.out, ?_⟩
                      try dsimp only [List.eraseIdx]
                      apply segE_quiet
                      · intro W hW
                        simp only [runsT, runsF, rep, pick]
                        go_wp2_with fail
                        exact ⟨rfl, rfl⟩
                      simp only [runsT, runsF, rep, left]
                      apply segE_done
                      go_wp2_with fail
                      go_roundg (len - (k + 1))
                      case measure => omega
                      case rel => exact ⟨k + 1, cut ks la, o ++ [bb], _, _, _, _, rfl, rfl, by go_num, by omega, H_9.out.base (HE5.out.trans HE2.out).size, (HU5.out.ext HE2.out).ext XE_9.out, by rw [HO.out]; exact Pre.snoc k keys _ o HP.out HKL.out HNX.out, HE5.out.trans (HE2.out.trans XE_9.out), Nat.le_refl _⟩
                    exact segE_stop
                  exact segE_stop
                exact segE_stop
        · have d1 : decide (r < (ks.length : Int)) = false := decide_eq_false hov
          have HNX := Lib.hid (NextL.keep HP5.out (show (ks.length : Int) ≤ r by omega))
          go_wp2_with fail
          go_roundg (len - (k + 1))
          case measure => omega
          case rel => exact ⟨k + 1, ks, o ++ [bb], _, _, _, _, rfl, rfl, by go_num, by omega, HV5.out, HU5.out, by rw [HO.out]; exact Pre.snoc k keys _ o HP.out HKL.out HNX.out, HE5.out, Nat.le_refl _⟩
    · obtain rfl : k = len := by omega
      have hdk : decide ((k : Int) < (k : Int)) = false := decide_eq_false (by omega)
      clear hik
      go_wp2_with fail
      go_ret
      exact ⟨_, keys, o, rfl, HU.out, HP.out, HE.out⟩
end Go.Proofs.Ytnjohjicmhobdaa.Bl
