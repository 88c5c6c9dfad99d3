/-
  Package metric: the walk of MetricOrder.
  At most 60 steps (the law's own guard); no other condition.
-/
import Derived.Test.YtnpfikabcmngpaaDoorMetT
namespace Go.Proofs.YtnpfikabcmngpaaDoor.Met
open Go.RowKit Go.Seg Go.Open Go.Lib

theorem w64_in {n : Int} (h : -9223372036854775808 ≤ n ∧ n ≤ 9223372036854775807) : wrap64 n = n := by unfold wrap64; omega
theorem ext_chg {w w1 w2 : World} {b : Nat} (h : Ext w w1) (c : Chg (· = b) w1 w2) (hb : w.heap.size ≤ b) : Ext w w2 :=
  ⟨c.os.trans h.os, c.tape.trans h.tape, c.output.trans h.output, Nat.le_trans h.size c.size, fun k hk => (c.block k (Nat.lt_of_lt_of_le hk h.size) (fun e => by omega)).trans (h.block k hk)⟩
theorem awake_any (w : World) : Calls Tryd.prog 7 #[] w fun e w' => e = .returned (.bool true) ∧ Ext w w' := by
  go_enter Tryd.func7, Tryd.ntmps7
  go_wp2_with fail
  refine (New_any _).mono ?_
  rintro e w1 ⟨rfl, hB1, hE1⟩
  have H1 := Lib.hid (And.intro hB1 hE1)
  clear hB1 hE1
  go_wp2_with fail
  refine (Move_any _ _ _ _ _ H1.out.1).mono ?_
  rintro e w2 ⟨rfl, hB2, hC2⟩
  rw [show moveL (List.replicate 13 0) 3 10 = [0, 0, 0, 0, 0, 0, 0, 0, 7, 0, 0, 0, 0] from by decide] at hB2
  have H2 := Lib.hid (And.intro hB2 (ext_chg H1.out.2 hC2 (Nat.le_refl _)))
  clear hB2 hC2
  go_wp2_with fail
  refine (Move_any _ _ _ _ _ H2.out.1).mono ?_
  rintro e w3 ⟨rfl, hB3, hC3⟩
  rw [show moveL [0, 0, 0, 0, 0, 0, 0, 0, 7, 0, 0, 0, 0] 10 4 = [0, 0, 0, 0, 0, 0, 0, 0, 7, 6, 0, 0, 0] from by decide] at hB3
  have H3 := Lib.hid (And.intro hB3 (ext_chg H2.out.2 hC3 (Nat.le_refl _)))
  clear hB3 hC3
  go_wp2_with fail
  refine (Used_any _ _ _ H3.out.1).mono ?_
  rw [show usedL [0, 0, 0, 0, 0, 0, 0, 0, 7, 6, 0, 0, 0] = 1 from by decide]
  rintro e w' ⟨rfl, rfl⟩
  go_wp2_with fail
  refine (Get_any _ _ _ _ H3.out.1).mono ?_
  rw [show getL [0, 0, 0, 0, 0, 0, 0, 0, 7, 6, 0, 0, 0] 8 = 7 from by decide]
  rintro e w' ⟨rfl, rfl⟩
  go_wp2_with fail
  go_ret
  exact ⟨rfl, H3.out.2⟩
/-- What lies there between two steps. -/
structure OS (w wr : World) (A B : Nat) (la lb : List Int) : Prop where
  ext : Ext w wr
  ba : BoardAt wr A la
  bb : BoardAt wr B lb
  hA : w.heap.size ≤ A
  hB : w.heap.size ≤ B
  ne : A ≠ B
theorem OS.step {w wr W : World} {A B : Nat} {la lb : List Int} (h : OS w wr A B la lb) (e : Ext wr W) : OS w W A B la lb := ⟨h.ext.trans e, h.ba.ext e, h.bb.ext e, h.hA, h.hB, h.ne⟩
theorem OS.setA {w wr W : World} {A B : Nat} {la lb la' : List Int} (h : OS w wr A B la lb) (hb : BoardAt W A la') (c : Chg (· = A) wr W) : OS w W A B la' lb := ⟨ext_chg h.ext c h.hA, hb, h.bb.other c h.ne.symm, h.hA, h.hB, h.ne⟩
theorem OS.setB {w wr W : World} {A B : Nat} {la lb lb' : List Int} (h : OS w wr A B la lb) (hb : BoardAt W B lb') (c : Chg (· = B) wr W) : OS w W A B la lb' := ⟨ext_chg h.ext c h.hB, h.ba.other c h.ne, hb, h.hA, h.hB, h.ne⟩
set_option maxHeartbeats 40000000 in
set_option maxRecDepth 4000 in
theorem order_walk (a : Option Addr) (n cap : Nat) (b off : Nat) (F : Nat → Int × Int × Int) (turn : Nat) (w : World) (ha : 0 < n → a = some ⟨b, off, none⟩) (_hle : n ≤ maxLen) (_h1 : turn < 18446744073709551616)
    (hF : ∀ W, Below w.heap.size w W → ∀ i, i < n → W.cell? ⟨b, off + i * 3, none⟩ = some (.int .i64 (F i).1) ∧ W.cell? ⟨b, off + i * 3 + 1, none⟩ = some (.int .i64 (F i).2.1) ∧ W.cell? ⟨b, off + i * 3 + 2, none⟩ = some (.int .i64 (F i).2.2))
    (hN : NamesAt w) (hT : Tab w) :
    Calls Tryd.prog 4 #[.slice a n cap, .int .u64 turn] w fun e w' => e = .returned (.bool true) ∧ Ext w w' := by
  have HN := Lib.hid hN
  have HT := Lib.hid hT
  have HK := Lib.hid hF
  have HA := Lib.hid ha
  clear hN hT hF ha
  by_cases h60 : 60 < n
  · have d0 : decide ((60 : Int) < (n : Int)) = true := decide_eq_true (by omega)
    clear h60
    go_enter Tryd.func4, Tryd.ntmps4
    go_wp2_with fail
    refine (awake_any _).mono ?_
    rintro e w1 ⟨rfl, hE⟩
    have HE := Lib.hid hE
    clear hE
    go_wp2_with fail
    go_ret
    exact ⟨rfl, HE.out⟩
  have d0 : decide ((60 : Int) < (n : Int)) = false := decide_eq_false (by omega)
  have hn60 : n ≤ 60 := by omega
  clear h60
  go_enter Tryd.func4, Tryd.ntmps4
  go_wp2_with fail
  refine (New_any _).mono ?_
  rintro e w1 ⟨rfl, hB1, hE1⟩
  have H1 := Lib.hid (And.intro hB1 hE1)
  clear hB1 hE1
  go_wp2_with fail
  refine (New_any _).mono ?_
  rintro e w2 ⟨rfl, hB2, hE2⟩
  have hS0 : OS w w2 w.heap.size w1.heap.size (List.replicate 13 0) (List.replicate 13 0) := ⟨H1.out.2.trans hE2, H1.out.1.ext hE2, hB2, Nat.le_refl _, H1.out.2.size, Nat.ne_of_lt H1.out.1.lt⟩
  obtain ⟨A, hA⟩ : ∃ A, w.heap.size = A := ⟨_, rfl⟩
  obtain ⟨B, hB⟩ : ∃ B, w1.heap.size = B := ⟨_, rfl⟩
  rw [hA, hB] at hS0 ⊢
  have HS0 := Lib.hid hS0
  clear hS0 hA hB hB2 hE2 H1
  obtain ⟨t, ht⟩ : ∃ t : Nat, turn % 60 = t := ⟨_, rfl⟩
  have ht60 : t < 60 := by omega
  have r0 : Int.tmod (turn : Int) 60 = (t : Int) := by rw [← ht]; rfl
  have wt : wrap64 (t : Int) = (t : Int) := w64_in (by omega)
  have HT60 := Lib.hid (show t < 60 ∧ n ≤ 60 by omega)
  clear ht ht60 hn60
  go_wp2_with fail
  go_loopg [7, 8] n (fun m i _ wr => ∃ k : Nat, k ≤ n ∧ i = .int .i64 k ∧ OS w wr A B (runS stA F k) (runS stB (fun i => F ((i + t) % n)) k) ∧ n - k ≤ m)
  case atStart => exact ⟨0, by omega, rfl, HS0.out, by omega⟩
  case round =>
    obtain ⟨k, hk, rfl, hS, hm⟩ := hrel
    have HS := Lib.hid hS
    clear hS
    by_cases hlt : k < n
    · have HM := Lib.hid (show n - (k + 1) < gk by omega)
      have d1 : decide ((k : Int) < (n : Int)) = true := decide_eq_true (by omega)
      obtain rfl := HA.out (by omega)
      obtain ⟨j, hj⟩ : ∃ j : Nat, (k + t) % n = j := ⟨_, rfl⟩
      have hjn : j < n := by rw [← hj]; exact Nat.mod_lt _ (by omega)
      have p0 : (0 : Int) ≤ (k : Int) := by omega
      have p1 : (k : Int) < (n : Int) := by omega
      have q0 : (0 : Int) ≤ (j : Int) := by omega
      have q1 : (j : Int) < (n : Int) := by omega
      have rj : Int.tmod ((k : Int) + (t : Int)) (n : Int) = (j : Int) := by rw [← hj]; rfl
      have nz : (n = 0) = False := by simp; omega
      have nz' : ((n : Int) = 0) = False := by simp; omega
      have wk : wrap64 ((k : Int) + (t : Int)) = (k : Int) + (t : Int) := w64_in (by have := HT60.out; omega)
      have wk1 : wrap64 ((k : Int) + 1) = (k : Int) + 1 := w64_in (by have := HT60.out; omega)
      have HJ := Lib.hid hj
      clear hj hm
      go_wp2_with fail
      have HSd := Lib.hid (HS.out.step (Ext.drew _))
      obtain ⟨x0, x1, x2⟩ := HK.out _ HSd.out.ext k hlt
      refine wp_region_segsK [([5, 1, 4, 3], 0, 0), ([3, 1], 2, 12), ([1], 1, 0)] (by kernel_rfl) (by kernel_rfl) ?_
      apply segsK_pure
      · intro W
        simp only [runsT, runsF, rep, pick]
        repeat (first | go_values | go_skip | go_guarded | go_step)
        exact ⟨rfl, rfl⟩
      simp only [runsT, runsF, rep, left]
      apply segsK_look
      · simp only [runsT, runsF, rep, pick]
        repeat (first | go_values | go_skip | go_guarded | go_step)
        exact ⟨rfl, rfl⟩
      simp only [runsT, runsF, rep, left]
      apply segsK_op
      go_wp2_with fail
      refine (Add_any A _ _ _ _ HSd.out.ba).mono ?_
      rintro e wHS2 ⟨rfl, hB, hC⟩
      have HS2 := Lib.hid (HSd.out.setA hB hC)
      clear hB hC x0 x1 x2
      go_wp2_with fail
      refine ⟨fun h => (by cases h), ?_⟩
      apply segsK_nil
      go_wp2_with fail
      have HS2d := Lib.hid (HS2.out.step (Ext.drew _))
      obtain ⟨x0, x1, x2⟩ := HK.out _ HS2d.out.ext k hlt
      refine wp_region_segsK [([5, 1, 4, 2], 0, 0), ([2, 1], 2, 11), ([1], 1, 0)] (by kernel_rfl) (by kernel_rfl) ?_
      apply segsK_pure
      · intro W
        simp only [runsT, runsF, rep, pick]
        repeat (first | go_values | go_skip | go_guarded | go_step)
        exact ⟨rfl, rfl⟩
      simp only [runsT, runsF, rep, left]
      apply segsK_look
      · simp only [runsT, runsF, rep, pick]
        repeat (first | go_values | go_skip | go_guarded | go_step)
        exact ⟨rfl, rfl⟩
      simp only [runsT, runsF, rep, left]
      apply segsK_op
      go_wp2_with fail
      refine (Move_any A _ _ _ _ HS2d.out.ba).mono ?_
      rintro e wHS3 ⟨rfl, hB, hC⟩
      have HS3 := Lib.hid (HS2d.out.setA hB hC)
      clear hB hC x0 x1 x2
      go_wp2_with fail
      refine ⟨fun h => (by cases h), ?_⟩
      apply segsK_nil
      go_wp2_with fail
      have HS3d := Lib.hid (HS3.out.step (Ext.drew _))
      obtain ⟨x0, x1, x2⟩ := HK.out _ HS3d.out.ext j hjn
      refine wp_region_segsK [([5, 1, 4, 2], 0, 0), ([2, 1], 2, 11), ([1], 1, 0)] (by kernel_rfl) (by kernel_rfl) ?_
      apply segsK_pure
      · intro W
        simp only [runsT, runsF, rep, pick]
        repeat (first | go_values | go_skip | go_guarded | go_step)
        exact ⟨rfl, rfl⟩
      simp only [runsT, runsF, rep, left]
      apply segsK_look
      · simp only [runsT, runsF, rep, pick]
        repeat (first | go_values | go_skip | go_guarded | go_step)
        exact ⟨rfl, rfl⟩
      simp only [runsT, runsF, rep, left]
      apply segsK_op
      go_wp2_with fail
      refine (Move_any B _ _ _ _ HS3d.out.bb).mono ?_
      rintro e wHS4 ⟨rfl, hB, hC⟩
      have HS4 := Lib.hid (HS3d.out.setB hB hC)
      clear hB hC x0 x1 x2
      go_wp2_with fail
      refine ⟨fun h => (by cases h), ?_⟩
      apply segsK_nil
      go_wp2_with fail
      have HS4d := Lib.hid (HS4.out.step (Ext.drew _))
      obtain ⟨x0, x1, x2⟩ := HK.out _ HS4d.out.ext j hjn
      refine wp_region_segsK [([5, 1, 4, 3], 0, 0), ([3, 1], 2, 12), ([1], 1, 0)] (by kernel_rfl) (by kernel_rfl) ?_
      apply segsK_pure
      · intro W
        simp only [runsT, runsF, rep, pick]
        repeat (first | go_values | go_skip | go_guarded | go_step)
        exact ⟨rfl, rfl⟩
      simp only [runsT, runsF, rep, left]
      apply segsK_look
      · simp only [runsT, runsF, rep, pick]
        repeat (first | go_values | go_skip | go_guarded | go_step)
        exact ⟨rfl, rfl⟩
      simp only [runsT, runsF, rep, left]
      apply segsK_op
      go_wp2_with fail
      refine (Add_any B _ _ _ _ HS4d.out.bb).mono ?_
      rintro e wHS5 ⟨rfl, hB, hC⟩
      have HS5 := Lib.hid (HS4d.out.setB hB hC)
      clear hB hC x0 x1 x2
      go_wp2_with fail
      refine ⟨fun h => (by cases h), ?_⟩
      apply segsK_nil
      go_wp2_with fail
      go_roundg (n - (k + 1))
      case measure => first | exact HM.out | exact Nat.lt_of_lt_of_le (Nat.lt_succ_self _) HM.out
      case rel => exact ⟨k + 1, hlt, congrArg (Value.int .i64) wk1, by simp only [runS, HJ.out]; exact HS5.out, Nat.le_refl _⟩
    · obtain rfl : k = n := by omega
      have d1 : decide ((k : Int) < (k : Int)) = false := decide_eq_false (by omega)
      have HS2 := Lib.hid (show OS w wr A B (runS stA F k) (runS stA F k) from order_same F k t ▸ HS.out)
      have HR := Lib.hid (runS_inR stA_vec F k)
      revert HS2 HR
      generalize runS stA F k = l
      intro HS2 HR
      have hl : l.length = 13 := HS2.out.ba.1
      clear HS hlt
      go_wp2_with fail
      refine (Clone_any A l _ HS2.out.ba HR.out).mono ?_
      rintro e w3 ⟨rfl, hC, hE⟩
      have HS3 := Lib.hid (HS2.out.step hE)
      obtain ⟨C, hCe⟩ : ∃ C, wr.heap.size = C := ⟨_, rfl⟩
      have hAC : A ≠ C := by have := HS2.out.ba.lt; omega
      have hBC : B ≠ C := by have := HS2.out.bb.lt; omega
      have hwC : w.heap.size ≤ C := by have := HS2.out.ext.size; omega
      rw [hCe] at hC ⊢
      have HC := Lib.hid hC
      clear hC hE hCe
      go_wp2_with fail
      refine (Add_any C l 0 1 _ HC.out).mono ?_
      rintro e w4 ⟨rfl, hC, hG⟩
      have HS4 := Lib.hid (show OS w w4 A B l l from ⟨ext_chg HS3.out.ext hG hwC, HS3.out.ba.other hG hAC, HS3.out.bb.other hG hBC, HS3.out.hA, HS3.out.hB, HS3.out.ne⟩)
      have HC4 := Lib.hid hC
      clear hC hG
      go_wp2_with fail
      go_loopg [10] 13 (fun m i wr => ∃ k : Nat, k ≤ 13 ∧ i = .int .i64 k ∧ wr = w4 ∧ 13 - k ≤ m)
      case atStart => exact ⟨0, by omega, rfl, rfl, by omega⟩
      case round =>
        obtain ⟨k, hk, rfl, rfl, hm⟩ := hrel
        by_cases hlt : k < 13
        · have d2 : decide ((k : Int) < 13) = true := decide_eq_true (by omega)
          go_wp2_with fail
          refine (Get_any A l _ _ HS4.out.ba).mono ?_
          rintro e w' ⟨rfl, rfl⟩
          go_wp2_with fail
          refine (Get_any B l _ _ HS4.out.bb).mono ?_
          rintro e w' ⟨rfl, rfl⟩
          by_cases hk0 : 0 < k
          · have d3 : decide (0 < k) = true := decide_eq_true hk0
            have d3' : decide ((0 : Int) < (k : Int)) = true := decide_eq_true (by omega)
            go_wp2_with fail
            refine (Get_any C _ _ _ HC4.out).mono ?_
            rw [get_one l (show (0 : Int) < (k : Int) by omega)]
            rintro e w' ⟨rfl, rfl⟩
            go_wp2_with fail
            refine (Get_any A l _ _ HS4.out.ba).mono ?_
            rintro e w' ⟨rfl, rfl⟩
            go_wp2_with fail
            go_roundg (13 - (k + 1))
            case measure => omega
            case rel => exact ⟨k + 1, by omega, by go_num, rfl, by omega⟩
          · obtain rfl : k = 0 := by omega
            go_wp2_with fail
            go_roundg (13 - (0 + 1))
            case measure => omega
            case rel => exact ⟨0 + 1, by omega, by go_num, rfl, by omega⟩
        · obtain rfl : k = 13 := by omega
          have d2 : decide (((13 : Nat) : Int) < 13) = false := by decide
          go_wp2_with fail
          refine (Add_nil _ _ _).mono ?_
          rintro e w' ⟨rfl, rfl⟩
          go_wp2_with fail
          refine (Move_nil _ _ _).mono ?_
          rintro e w' ⟨rfl, rfl⟩
          go_wp2_with fail
          refine (Get_any C _ _ _ HC4.out).mono ?_
          rw [get_zero l hl]
          rintro e w' ⟨rfl, rfl⟩
          go_wp2_with fail
          refine (Get_any A l _ _ HS4.out.ba).mono ?_
          rintro e w' ⟨rfl, rfl⟩
          have hwr : IntKind.u64.wrap (getL l 0 + 1) = Met.wr (getL l 0 + 1) := rfl
          go_wp2_with fail
          refine (Text_any A l _ HS4.out.ba HR.out (HN.out.ext HS4.out.ext) (tab_ext HT.out HS4.out.ext)).mono ?_
          rintro e w5 ⟨rfl, hE⟩
          have HS5 := Lib.hid (HS4.out.step hE)
          clear hE
          go_wp2_with fail
          refine (Text_any B l _ HS5.out.bb HR.out (HN.out.ext HS5.out.ext) (tab_ext HT.out HS5.out.ext)).mono ?_
          rintro e w6 ⟨rfl, hE⟩
          have HE6 := Lib.hid (HS5.out.ext.trans hE)
          clear hE
          go_wp2_with fail
          refine (Get_nil _ _).mono ?_
          rintro e w' ⟨rfl, rfl⟩
          go_wp2_with fail
          refine (Used_nil _).mono ?_
          rintro e w' ⟨rfl, rfl⟩
          go_wp2_with fail
          refine (Even_nil _).mono ?_
          rintro e w' ⟨rfl, rfl⟩
          go_wp2_with fail
          refine (Since_none _ _).mono ?_
          rintro e w' ⟨rfl, rfl⟩
          go_wp2_with fail
          refine (Clone_nil _).mono ?_
          rintro e w' ⟨rfl, rfl⟩
          go_wp2_with fail
          refine (Text_nil _).mono ?_
          rintro e w7 ⟨rfl, hE⟩
          have HE7 := Lib.hid (HE6.out.trans hE)
          clear hE
          go_wp2_with fail
          refine (awake_any _).mono ?_
          rintro e w8 ⟨rfl, hE⟩
          have HE8 := Lib.hid (HE7.out.trans hE)
          clear hE
          go_wp2_with fail
          go_ret
          exact ⟨rfl, HE8.out⟩
end Go.Proofs.YtnpfikabcmngpaaDoor.Met
