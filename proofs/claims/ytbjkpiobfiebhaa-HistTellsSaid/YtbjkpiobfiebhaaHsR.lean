/-
  Histories: the walk of HistTells.
  At most 60 calls (the law's own guard); no other condition.
-/
import Derived.Test.YtbjkpiobfiebhaaHsS
import Derived.Test.YtbjkpiobfiebhaaHsO
namespace Go.Proofs.Ytbjkpiobfiebhaa.Hs
open Go.RowKit Go.Seg Go.Open Go.Lib Go.Arr Go.Stab Go.Row

theorem done_uniq {key : C → Int} {M L L' : List (C × Nat)} (h : Done key M L) (h' : Done key M L') : L = L' := uniq (h.1.trans h'.1.symm) h.2 h'.2
theorem of_same {p : C → Bool} {T : List C} {L : List (C × Nat)} (h : Done (fun _ => (0 : Int)) (sel p T) L) : L.map Prod.fst = T.filter p := by
  have : L = sel p T := done_uniq h (Done.refl ((sel_tags p T).imp (fun h => .inr ⟨rfl, h⟩)))
  rw [this, sel_map]
set_option maxRecDepth 100000 in
set_option maxHeartbeats 4000000 in
theorem tells_walk (cl : Int) (T : List C) (a : Option Addr) (len cap b off : Nat) (w : World) (hV : VC w a len b off T) (hm : len ≤ maxLen) (hc : len ≤ cap) :
    Calls Try.prog 4 #[.slice a len cap, .int .i64 cl] w fun e w' => e = .returned (.bool true) ∧ Ext w w' := by
  have HV := Lib.hid hV
  clear hV
  unfold maxLen at hm
  by_cases h60 : (60 : Int) < (len : Int)
  · go_enter Try.func4, Try.ntmps4
    go_wp2_with fail
    refine (awake_any _).mono ?_
    rintro e w1 ⟨rfl, hE⟩
    go_wp2_with fail
    go_ret
    exact ⟨rfl, hE⟩
  · have hl : len ≤ 60 := by omega
    have d60 : decide ((60 : Int) < (len : Int)) = false := decide_eq_false h60
    clear h60
    go_enter Try.func4, Try.ntmps4
    go_upto_region 3 with fail
    clear d60
    go_cut [28] (fun s wx => s = .bool false ∧ Hid (Ext w wx))
    case first =>
      by_cases h1 : 1 < len
      · have d1 : decide (1 < len) = true := decide_eq_true h1
        have d1' : decide ((1 : Int) < (len : Int)) = true := decide_eq_true (by omega)
        obtain rfl := HV.out.ad (by omega)
        obtain ⟨S, x, R0, eT, hS, hx⟩ := HV.out.get (i := 0) (by omega)
        obtain rfl : S = [] := List.eq_nil_of_length_eq_zero hS
        obtain ⟨y, R, rfl⟩ : ∃ y R, R0 = y :: R := by
          cases R0 with
          | nil => have h2 := HV.out.len; rw [eT] at h2; simp at h2; omega
          | cons y R => exact ⟨y, R, rfl⟩
        have hy := HV.out.at1 [x] R y (by rw [eT]; rfl) 1 rfl
        have HXX := Lib.hid hx
        have HYY := Lib.hid hy
        have e1 : (0 : Int) < (len : Int) := by omega
        have e2 : (1 : Int) < (len : Int) := by omega
        clear hx hy eT hS h1
        refine wp_region_segsK [([6, 1, 2, 2, 2, 1, 2, 4], 0, 0), ([2, 1, 2, 3], 3, 17), ([1, 2], 1, 0), ([2], 0, 0)] (by kernel_rfl) (by kernel_rfl) ?_
        apply segsK_pure
        · intro W
          simp only [runsT, runsF, rep, pick]
          go_wp2_with (first | refine Arr.wpList_ldA rfl _ _ rfl _ ly ?_ | refine Arr.wpList_ldA rfl _ _ rfl _ lx ?_)
          exact ⟨rfl, rfl⟩
        simp only [runsT, runsF, rep, left]
        apply segsK_class
        · intro W hW
          have lx := HXX.out.ld W ((Ext.drew _).trans hW)
          have ly := HYY.out.ld W ((Ext.drew _).trans hW)
          simp only [Nat.zero_mul, Nat.one_mul, Nat.add_zero] at lx ly
          simp only [runsT, runsF, rep, pick]
          go_wp2_with (first | refine Arr.wpList_ldA rfl _ _ rfl _ ly ?_ | refine Arr.wpList_ldA rfl _ _ rfl _ lx ?_)
          exact ⟨rfl, rfl⟩
        simp only [runsT, runsF, rep, left]
        go_wp2_with fail
        refine (ahead_any x y _).mono ?_
        rintro e w5 ⟨rfl, hE5⟩
        have HEA := Lib.hid hE5
        clear hE5
        go_wp2_with fail
        refine ⟨fun _ => HEA.out, ?_⟩
        apply segsK_op
        go_wp2_with fail
        refine (rAhead_any x y _).mono ?_
        rintro e w6 ⟨rfl, hE6⟩
        have HEB : Hid (Ext _ _) := Lib.hid ((Ext.drew _).trans (HEA.out.trans hE6))
        clear hE6
        go_wp2_with fail
        refine ⟨fun h => (by cases h), ?_⟩
        apply segsK_pure
        · intro W
          simp only [runsT, runsF, rep, pick]
          go_wp2_with (first | refine Arr.wpList_ldA rfl _ _ rfl _ ly ?_ | refine Arr.wpList_ldA rfl _ _ rfl _ lx ?_)
          exact ⟨rfl, rfl⟩
        simp only [runsT, runsF, rep, left]
        apply segsK_nil
        go_wp2_with fail
        go_meet
        exact ⟨rfl, HEB⟩
      · have d1 : decide (1 < len) = false := decide_eq_false h1
        have d1' : decide ((1 : Int) < (len : Int)) = false := decide_eq_false (by omega)
        clear h1
        refine wp_region_segsK [([6, 1, 2, 2, 2, 1, 2, 4], 0, 0), ([2, 1, 2, 3], 3, 17), ([1, 2], 1, 0), ([2], 0, 0)] (by kernel_rfl) (by kernel_rfl) ?_
        apply segsK_pure
        · intro W
          simp only [runsT, runsF, rep, pick]
          repeat (first | go_values | go_skip | go_guarded | go_step)
          exact ⟨rfl, rfl⟩
        simp only [runsT, runsF, rep, left]
        apply segsK_class
        · intro W hW
          simp only [runsT, runsF, rep, pick]
          repeat (first | go_values | go_skip | go_guarded | go_step)
          exact ⟨rfl, rfl⟩
        simp only [runsT, runsF, rep, left]
        go_wp2_with fail
        refine ⟨fun _ => Ext.refl _, ?_⟩
        apply segsK_op
        go_wp2_with fail
        refine ⟨fun h => (by cases h), ?_⟩
        apply segsK_pure
        · intro W
          simp only [runsT, runsF, rep, pick]
          repeat (first | go_values | go_skip | go_guarded | go_step)
          exact ⟨rfl, rfl⟩
        simp only [runsT, runsF, rep, left]
        apply segsK_nil
        go_wp2_with fail
        go_meet
        exact ⟨rfl, Lib.hid (Ext.drew _)⟩
    case rest =>
    obtain ⟨rfl, HE0⟩ := hcut
    go_wp2_with fail
    refine (Right_any T a len cap b off _ (HV.out.ext HE0.out) hl hc).mono ?_
    rintro e w1 ⟨⟨r1, rfl, hr1⟩, hE1⟩
    have HE1 := Lib.hid (HE0.out.trans hE1)
    have HR1 := Lib.hid hr1
    clear hE1 hr1
    go_wp2_with fail
    refine (rRight_any T a len cap b off _ (HV.out.ext HE1.out) hl hc).mono ?_
    rintro e w2 ⟨⟨r2, rfl, hr2⟩, hE2⟩
    obtain rfl : r1 = r2 := by
      have h := HR1.out.trans hr2.symm
      cases r1 <;> cases r2 <;> simp_all
    have HE2 := Lib.hid (HE1.out.trans hE2)
    clear hE2 hr2
    go_wp2_with fail
    refine (Ended_any T a len cap b off _ (HV.out.ext HE2.out) hl).mono ?_
    rintro e w3 ⟨rfl, hE3⟩
    have HE3 := Lib.hid (HE2.out.trans hE3)
    clear hE3
    obtain ⟨q, hq⟩ : ∃ q, (!T.any fun d => decide (d.en < 0)) = q := ⟨_, rfl⟩
    have HQ := Lib.hid hq
    rw [hq]
    clear hq
    go_wp2_with fail
    refine (rEnded_any T a len cap b off _ (HV.out.ext HE3.out) hl).mono ?_
    rintro e w4 ⟨rfl, hE4⟩
    have HE4 := Lib.hid (HE3.out.trans hE4)
    rw [HQ.out]
    clear hE4
    go_wp2_with fail
    refine (counted_any T a len cap b off _ (HV.out.ext HE4.out) hl).mono ?_
    rintro e w5 ⟨⟨a5, n5, cap5, b5, L5, rfl, p5, q5, v5, k5⟩, hE5⟩
    have HE5 := Lib.hid (HE4.out.trans hE5)
    have H5 := Lib.hid (And.intro v5 k5)
    clear hE5 v5 k5 p5
    go_wp2_with fail
    refine (rCounted_any T a len cap b off _ (HV.out.ext HE5.out) hl).mono ?_
    rintro e w6 ⟨⟨a6, n6, cap6, b6, L6, rfl, q6, v6, k6⟩, hE6⟩
    obtain rfl := done_uniq k6 H5.out.2
    obtain rfl : n6 = n5 := v6.len.symm.trans H5.out.1.len
    have HE6 := Lib.hid (HE5.out.trans hE6)
    have HS6 := Lib.hid (same_any (L6.map Prod.fst) a5 a6 n6 cap5 b5 0 cap6 b6 0 w6 (H5.out.1.ext hE6) v6 q5)
    clear hE6 v6 k6
    go_wp2_with fail
    refine HS6.out.mono ?_
    rintro e w7 ⟨rfl, hE7⟩
    have HE7 := Lib.hid (HE6.out.trans hE7)
    clear hE7 HS6 H5 HE6 HE5
    go_wp2_with fail
    refine (order_any T a len cap b off _ (HV.out.ext HE7.out) hl).mono ?_
    rintro e w8 ⟨⟨a8, n8, cap8, b8, L8, rfl, p8, q8, v8, k8⟩, hE8⟩
    have HE8 := Lib.hid (HE7.out.trans hE8)
    have H8 := Lib.hid (And.intro v8 k8)
    clear hE8 v8 k8 p8
    go_wp2_with fail
    refine (rOrder_any T a len cap b off _ (HV.out.ext HE8.out) hl).mono ?_
    rintro e w9 ⟨⟨a9, n9, cap9, b9, L9, rfl, q9, v9, k9⟩, hE9⟩
    obtain rfl := done_uniq k9 H8.out.2
    obtain rfl : n9 = n8 := v9.len.symm.trans H8.out.1.len
    have HE9 := Lib.hid (HE8.out.trans hE9)
    have HS9 := Lib.hid (same_any (L9.map Prod.fst) a8 a9 n9 cap8 b8 0 cap9 b9 0 w9 (H8.out.1.ext hE9) v9 q8)
    clear hE9 v9 k9
    go_wp2_with fail
    refine HS9.out.mono ?_
    rintro e w10 ⟨rfl, hE10⟩
    have HE10 := Lib.hid (HE9.out.trans hE10)
    clear hE10 HS9 H8 HE9 HE8
    go_wp2_with fail
    refine (of_any cl T a len cap b off _ (HV.out.ext HE10.out) hl).mono ?_
    rintro e w11 ⟨⟨a11, n11, cap11, b11, L11, rfl, p11, q11, v11, k11⟩, hE11⟩
    have HE11 := Lib.hid (HE10.out.trans hE11)
    rw [of_same k11] at v11
    have H11 := Lib.hid v11
    clear hE11 v11 k11 p11
    go_wp2_with fail
    refine (rOf_any cl T a len cap b off _ (HV.out.ext HE11.out) hl).mono ?_
    rintro e w12 ⟨⟨a12, n12, cap12, b12, rfl, v12⟩, hE12⟩
    obtain rfl : n12 = n11 := v12.len.symm.trans H11.out.len
    have HE12 := Lib.hid (HE11.out.trans hE12)
    have HS12 := Lib.hid (same_any (T.filter fun x => x.cl == cl) a11 a12 n12 cap11 b11 0 cap12 b12 0 w12 (H11.out.ext hE12) v12 q11)
    clear hE12 v12
    go_wp2_with fail
    refine HS12.out.mono ?_
    rintro e w13 ⟨rfl, hE13⟩
    have HE13 := Lib.hid (HE12.out.trans hE13)
    clear hE13 HS12 H11 HE12 HE11
    go_wp2_with fail
    refine (Swaps_any T a len cap b off _ (HV.out.ext HE13.out) hl hc).mono ?_
    rintro e w14 ⟨rfl, hE14⟩
    have HE14 := Lib.hid (HE13.out.trans hE14)
    clear hE14
    go_wp2_with fail
    refine (rSwaps_any T a len cap b off _ (HV.out.ext HE14.out) hl).mono ?_
    rintro e w15 ⟨rfl, hE15⟩
    have HE15 := Lib.hid (HE14.out.trans hE15)
    clear hE15
    go_wp2_with fail
    refine (awake_any _).mono ?_
    rintro e w16 ⟨rfl, hE16⟩
    have HE16 := Lib.hid hE16
    clear hE16
    go_wp2_with fail
    go_ret
    exact ⟨rfl, HE15.out.trans HE16.out⟩
end Go.Proofs.Ytbjkpiobfiebhaa.Hs
