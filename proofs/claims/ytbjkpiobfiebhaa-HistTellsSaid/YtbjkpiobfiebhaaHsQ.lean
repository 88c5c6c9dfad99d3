/-
  Histories: the document's Ended, Swaps, Of; two rows compared.
  At most 60 calls; no other condition.
-/
import Derived.Test.YtbjkpiobfiebhaaHsP
namespace Go.Proofs.Ytbjkpiobfiebhaa.Hs
open Go.RowKit Go.Seg Go.Open Go.Lib Go.Arr Go.Stab Go.Row

set_option maxRecDepth 100000 in
theorem rEnded_any (T : List C) (a : Option Addr) (len cap b off : Nat) (w : World) (hV : VC w a len b off T) (hl : len ≤ 60) :
    Calls Try.prog 14 #[.slice a len cap] w fun e w' => e = .returned (.bool (!T.any fun d => decide (d.en < 0))) ∧ Ext w w' := by
  have HV := Lib.hid hV
  clear hV
  go_enter Try.func14, Try.ntmps14
  go_wp2_with fail
  go_loopg [3] len (fun g s wr => ∃ i : Nat, s = .int .i64 i ∧ i ≤ len ∧ Hid (wr = w ∧ ∀ S x R, T = S ++ x :: R → S.length < i → ¬ x.en < 0) ∧ len - i ≤ g)
  case atStart => exact ⟨0, rfl, Nat.zero_le _, Lib.hid ⟨rfl, fun S x R _ h => by omega⟩, Nat.le_refl _⟩
  case round =>
    obtain ⟨i, rfl, hi, HR, hg⟩ := hrel
    obtain rfl := HR.out.1
    by_cases hil : i < len
    · have d0 : decide (i < len) = true := decide_eq_true hil
      obtain rfl := HV.out.ad (by omega)
      obtain ⟨S, x, R, eT, hS, hx⟩ := HV.out.get hil
      have HX := Lib.hid (And.intro eT hS)
      have x9 := hx.cl wr (Ext.refl _) 9 _ rfl
      clear hx eT hS
      by_cases hn : x.en < 0
      · have d1 : decide (x.en < 0) = true := decide_eq_true hn
        have HE : Hid ((T.any fun d => decide (d.en < 0)) = true) := Lib.hid (by rw [HX.out.1, List.any_append, List.any_cons, d1]; simp)
        clear hn
        go_wp2_with fail
        go_ret
        exact ⟨by rw [HE.out]; rfl, Ext.refl _⟩
      · have d1 : decide (x.en < 0) = false := decide_eq_false hn
        have HNN := Lib.hid (Int.not_lt.1 hn)
        clear hn
        go_wp2_with fail
        go_roundg (len - (i + 1))
        case measure => omega
        case rel =>
          refine ⟨i + 1, by go_num, by omega, Lib.hid ⟨rfl, fun S' x' R' e' hlt => ?_⟩, Nat.le_refl _⟩
          by_cases hlt2 : S'.length < i
          · exact HR.out.2 S' x' R' e' hlt2
          · have := uniq_at (HX.out.1.symm.trans e') (by have := HX.out.2; omega)
            rw [← this]
            have := HNN.out
            omega
    · obtain rfl : i = len := by omega
      have d0 : decide (i < i) = false := decide_eq_false (by omega)
      have HE : Hid ((T.any fun d => decide (d.en < 0)) = false) := Lib.hid (by
        rw [List.any_eq_false]
        intro x hx
        obtain ⟨S, R, e⟩ := List.append_of_mem hx
        have := HR.out.2 S x R e (by have := HV.out.len; rw [e] at this; simp at this; omega)
        simpa using this)
      go_wp2_with fail
      go_ret
      exact ⟨by rw [HE.out]; rfl, Ext.refl _⟩
theorem swaps_snoc (S : List C) (x : C) : swaps (S ++ [x]) = swaps S + S.countP (fun y => ahead x y) := by
  induction S with
  | nil => rfl
  | cons z S ih =>
    rw [List.cons_append, swaps, swaps, ih, List.countP_append, List.countP_cons (l := S), List.countP_singleton]
    omega
set_option maxRecDepth 100000 in
set_option maxHeartbeats 4000000 in
theorem rSwaps_any (T : List C) (a : Option Addr) (len cap b off : Nat) (w : World) (hV : VC w a len b off T) (hl : len ≤ 60) :
    Calls Try.prog 21 #[.slice a len cap] w fun e w' => e = .returned (.int .i64 (swaps T)) ∧ Ext w w' := by
  have HV := Lib.hid hV
  clear hV
  go_enter Try.func21, Try.ntmps21
  go_wp2_with fail
  go_loopg [3, 4] len (fun g u s wr => ∃ (i m : Nat) (S R : List C), u = .int .i64 m ∧ s = .int .i64 i ∧ i ≤ len ∧ m ≤ 60 * i ∧ Hid (T = S ++ R ∧ S.length = i ∧ m = swaps S ∧ Ext w wr) ∧ len - i ≤ g)
  case atStart => exact ⟨0, 0, [], T, rfl, rfl, Nat.zero_le _, Nat.zero_le _, Lib.hid ⟨rfl, rfl, rfl, Ext.refl _⟩, Nat.le_refl _⟩
  case round =>
    obtain ⟨i, m, S, R, rfl, rfl, hi, hm, HR, hg⟩ := hrel
    by_cases hil : i < len
    · have d0 : decide (i < len) = true := decide_eq_true hil
      obtain rfl := HV.out.ad (by omega)
      obtain ⟨x, R', rfl⟩ : ∃ x R', R = x :: R' := by
        cases R with
        | nil => have h1 := HR.out; have h2 := HV.out.len; rw [h1.1] at h2; simp at h2; omega
        | cons x R' => exact ⟨x, R', rfl⟩
      have HX := Lib.hid (HV.out.at1 S R' x HR.out.1 i HR.out.2.1.symm)
      have bm : m + i ≤ 60 * (i + 1) := by omega
      go_wp2_with fail
      go_loopg [3, 5] i (fun g u s wk => ∃ (k m2 : Nat) (S1 S2 : List C), u = .int .i64 m2 ∧ s = .int .i64 k ∧ k ≤ i ∧ m2 ≤ m + k ∧ Hid (S = S1 ++ S2 ∧ S1.length = k ∧ m2 = m + S1.countP (fun y => ahead x y) ∧ Ext w wk) ∧ i - k ≤ g)
      case atStart => exact ⟨0, m, [], S, rfl, rfl, Nat.zero_le _, by omega, Lib.hid ⟨rfl, rfl, rfl, HR.out.2.2.2⟩, Nat.le_refl _⟩
      case round =>
        obtain ⟨k, m2, S1, S2, rfl, rfl, hk, hm2, HJ, hg2⟩ := hrel
        by_cases hki : k < i
        · have d1 : decide (k < i) = true := decide_eq_true hki
          obtain ⟨y, S3, rfl⟩ : ∃ y S3, S2 = y :: S3 := by
            cases S2 with
            | nil => have h1 := HJ.out; have h2 := HR.out.2.1; rw [h1.1] at h2; simp at h2; omega
            | cons y S3 => exact ⟨y, S3, rfl⟩
          have hy := HV.out.at1 S1 (S3 ++ x :: R') y (by rw [HR.out.1, HJ.out.1]; simp) k HJ.out.2.1.symm
          have ly := hy.ld wr.drew (HJ.out.2.2.2.trans (Ext.drew _))
          have lx := HX.out.ld wr.drew (HJ.out.2.2.2.trans (Ext.drew _))
          have kc : k < len := by omega
          clear hy
          obtain ⟨q, hq⟩ : ∃ q, ahead x y = q := ⟨_, rfl⟩
          have HAH := Lib.hid hq
          clear hq
          cases q with
          | true =>
            go_wp2_with fail
            refine wp_region_segsK [([3, 1, 3, 2], 0, 0), ([2, 1], 2, 8), ([1], 1, 0)] (by kernel_rfl) (by kernel_rfl) ?_
            apply segsK_pure
            · intro W
              simp only [runsT, runsF, rep, pick]
              go_wp2_with (first | refine Arr.wpList_ldA rfl _ _ rfl _ ly ?_ | refine Arr.wpList_ldA rfl _ _ rfl _ lx ?_)
              exact ⟨rfl, rfl⟩
            simp only [runsT, runsF, rep, left]
            apply segsK_look
            · simp only [runsT, runsF, rep, pick]
              go_wp2_with (first | refine Arr.wpList_ldA rfl _ _ rfl _ ly ?_ | refine Arr.wpList_ldA rfl _ _ rfl _ lx ?_)
              exact ⟨rfl, rfl⟩
            simp only [runsT, runsF, rep, left]
            apply segsK_op
            go_wp2_with fail
            refine (rAhead_any x y _).mono ?_
            rintro e w5 ⟨rfl, hE5⟩
            rw [HAH.out]
            have HE5 := Lib.hid ((Ext.drew _).trans hE5)
            clear hE5
            go_wp2_with fail
            refine ⟨fun h => (by cases h), ?_⟩
            apply segsK_nil
            go_wp2_with fail
            go_roundg (i - (k + 1))
            case measure => omega
            case rel =>
              refine ⟨k + 1, m2 + 1, S1 ++ [y], S3, by go_num, by go_num, by omega, by omega, Lib.hid ⟨by rw [HJ.out.1]; simp, by rw [List.length_append, HJ.out.2.1]; rfl, ?_, HJ.out.2.2.2.trans HE5.out⟩, Nat.le_refl _⟩
              rw [List.countP_append, HJ.out.2.2.1, List.countP_singleton, if_pos HAH.out]
              omega
          | false =>
            go_wp2_with fail
            refine wp_region_segsK [([3, 1, 3, 2], 0, 0), ([2, 1], 2, 8), ([1], 1, 0)] (by kernel_rfl) (by kernel_rfl) ?_
            apply segsK_pure
            · intro W
              simp only [runsT, runsF, rep, pick]
              go_wp2_with (first | refine Arr.wpList_ldA rfl _ _ rfl _ ly ?_ | refine Arr.wpList_ldA rfl _ _ rfl _ lx ?_)
              exact ⟨rfl, rfl⟩
            simp only [runsT, runsF, rep, left]
            apply segsK_look
            · simp only [runsT, runsF, rep, pick]
              go_wp2_with (first | refine Arr.wpList_ldA rfl _ _ rfl _ ly ?_ | refine Arr.wpList_ldA rfl _ _ rfl _ lx ?_)
              exact ⟨rfl, rfl⟩
            simp only [runsT, runsF, rep, left]
            apply segsK_op
            go_wp2_with fail
            refine (rAhead_any x y _).mono ?_
            rintro e w5 ⟨rfl, hE5⟩
            rw [HAH.out]
            have HE5 := Lib.hid ((Ext.drew _).trans hE5)
            clear hE5
            go_wp2_with fail
            refine ⟨fun h => (by cases h), ?_⟩
            apply segsK_nil
            go_wp2_with fail
            go_roundg (i - (k + 1))
            case measure => omega
            case rel =>
              refine ⟨k + 1, m2, S1 ++ [y], S3, rfl, by go_num, by omega, by omega, Lib.hid ⟨by rw [HJ.out.1]; simp, by rw [List.length_append, HJ.out.2.1]; rfl, ?_, HJ.out.2.2.2.trans HE5.out⟩, Nat.le_refl _⟩
              rw [List.countP_append, HJ.out.2.2.1, List.countP_singleton, if_neg (by rw [HAH.out]; decide)]
              omega
        · obtain rfl : k = i := by omega
          have d1 : decide (k < k) = false := decide_eq_false (by omega)
          go_wp2_with fail
          go_roundg (len - (k + 1))
          case measure => omega
          case rel =>
            obtain ⟨q1, q2, q3, q4⟩ := HR.out
            obtain ⟨p1, p2, p3, p4⟩ := HJ.out
            have e2 : S2 = [] := by
              rw [p1, List.length_append] at q2
              exact List.eq_nil_of_length_eq_zero (by omega)
            rw [e2, List.append_nil] at p1
            refine ⟨k + 1, m2, S ++ [x], R', rfl, by go_num, by omega, by omega, Lib.hid ⟨by rw [q1]; simp, by rw [List.length_append, q2]; rfl, ?_, p4⟩, Nat.le_refl _⟩
            rw [swaps_snoc, p3, q3, ← p1]
    · obtain rfl : i = len := by omega
      have d0 : decide (i < i) = false := decide_eq_false (by omega)
      go_wp2_with fail
      go_ret
      have h := HR.out
      have e2 : R = [] := by
        have h2 := HV.out.len
        rw [h.1, List.length_append] at h2
        exact List.eq_nil_of_length_eq_zero (by omega)
      rw [e2, List.append_nil] at h
      refine ⟨?_, h.2.2.2⟩
      show Ending.returned (Value.int .i64 (m : Int)) = _
      rw [h.1, ← h.2.2.1]
theorem neq_same (x : C) (W : World) : (binOp .neq 29 (CV x) (CV x)).run Try.prog W = .ok (.bool false) W := by
  unfold CV enc
  go_simp
theorem eg_same (x : C) (W : World) : (eqGuard BinOp.neq 29 (Operand.tmp 20) (Operand.tmp 24) (CV x) (CV x)).run Try.prog W = .ok () W := by
  unfold CV enc
  go_simp
set_option maxRecDepth 100000 in
set_option maxHeartbeats 4000000 in
theorem same_any (T : List C) (a a' : Option Addr) (len cap b off cap' b' off' : Nat) (w : World) (hV : VC w a len b off T) (hV' : VC w a' len b' off' T) (hl : len ≤ 60) :
    Calls Try.prog 15 #[.slice a len cap, .slice a' len cap'] w fun e w' => e = .returned (.bool true) ∧ Ext w w' := by
  have HV := Lib.hid hV
  have HV' := Lib.hid hV'
  clear hV hV'
  go_enter Try.func15, Try.ntmps15
  go_wp2_with fail
  go_loopg [5] len (fun g s wr => ∃ i : Nat, s = .int .i64 i ∧ i ≤ len ∧ Hid (Ext w wr) ∧ len - i ≤ g)
  case atStart => exact ⟨0, rfl, Nat.zero_le _, Lib.hid (Ext.refl _), Nat.le_refl _⟩
  case round =>
    obtain ⟨i, rfl, hi, HR, hg⟩ := hrel
    by_cases hil : i < len
    · have d0 : decide (i < len) = true := decide_eq_true hil
      obtain rfl := HV.out.ad (by omega)
      obtain rfl := HV'.out.ad (by omega)
      obtain ⟨S, x, R, eT, hS, hx⟩ := HV.out.get hil
      have ly := hx.ld wr.drew (HR.out.trans (Ext.drew _))
      have lx := (HV'.out.at1 S R x eT i hS.symm).ld wr.drew (HR.out.trans (Ext.drew _))
      have nq := neq_same x
      have eg := eg_same x
      clear hx eT hS
      go_wp2_with fail
      refine wp_region_segsK [([3, 1, 3, 2], 0, 0), ([2, 1], 2, 8), ([1], 1, 0)] (by kernel_rfl) (by kernel_rfl) ?_
      apply segsK_pure
      · intro W
        simp only [runsT, runsF, rep, pick]
        go_wp2_with (first | refine Arr.wpList_ldA rfl _ _ rfl _ ly ?_ | refine Arr.wpList_ldA rfl _ _ rfl _ lx ?_)
        exact ⟨rfl, rfl⟩
      simp only [runsT, runsF, rep, left]
      apply segsK_look
      · simp only [runsT, runsF, rep, pick]
        go_wp2_with (first | refine Arr.wpList_ldA rfl _ _ rfl _ ly ?_ | refine Arr.wpList_ldA rfl _ _ rfl _ lx ?_)
        exact ⟨rfl, rfl⟩
      simp only [runsT, runsF, rep, left]
      apply segsK_op
      go_wp2_with fail
      refine ⟨fun h => (by cases h), ?_⟩
      apply segsK_nil
      go_wp2_with fail
      go_roundg (len - (i + 1))
      case measure => omega
      case rel => exact ⟨i + 1, by go_num, by omega, Lib.hid (HR.out.trans (Ext.drew _)), Nat.le_refl _⟩
    · obtain rfl : i = len := by omega
      have d0 : decide (i < i) = false := decide_eq_false (by omega)
      go_wp2_with fail
      go_ret
      exact ⟨rfl, HR.out⟩
set_option maxRecDepth 100000 in
set_option maxHeartbeats 4000000 in
theorem rOf_any (cl : Int) (T : List C) (a : Option Addr) (len cap b off : Nat) (w : World) (hV : VC w a len b off T) (hl : len ≤ 60) :
    Calls Try.prog 20 #[.slice a len cap, .int .i64 cl] w fun e w' => (∃ (a' : Option Addr) (n cap' b' : Nat), e = .returned (.slice a' n cap') ∧ VC w' a' n b' 0 (T.filter fun x => x.cl == cl)) ∧ Ext w w' := by
  have HV := Lib.hid hV
  clear hV
  go_enter Try.func20, Try.ntmps20
  go_wp2_with fail
  go_loopg [5, 6] len (fun g v s wr => ∃ (i : Nat) (S R : List C), s = .int .i64 i ∧ i ≤ len ∧ Hid (T = S ++ R ∧ S.length = i) ∧ Hid (RowG RC enc wr w.heap.size v (S.filter fun x => x.cl == cl) ∧ Ext w wr) ∧ len - i ≤ g)
  case atStart => exact ⟨0, [], T, rfl, Nat.zero_le _, Lib.hid ⟨rfl, rfl⟩, Lib.hid ⟨RowG.nil _ _, Ext.refl _⟩, Nat.le_refl _⟩
  case round =>
    obtain ⟨i, S, R, rfl, hi, HX, HR, hg⟩ := hrel
    obtain ⟨av, cv, rfl⟩ := HR.out.1.val
    obtain ⟨L, hL⟩ : ∃ L, (S.filter fun x => x.cl == cl) = L := ⟨_, rfl⟩
    rw [hL]
    have HN := Lib.hid (show L.length ≤ i by rw [← hL, ← HX.out.2]; exact List.length_filter_le _ _)
    have HRow := Lib.hid (show RowG RC enc wr w.heap.size (.slice av L.length cv) L by have := HR.out.1; rw [hL] at this; exact this)
    have HL := Lib.hid hL
    clear hL
    by_cases hil : i < len
    · have d0 : decide (i < len) = true := decide_eq_true hil
      obtain rfl := HV.out.ad (by omega)
      obtain ⟨x, R', rfl⟩ : ∃ x R', R = x :: R' := by
        cases R with
        | nil => have h1 := HX.out; have h2 := HV.out.len; rw [h1.1] at h2; simp at h2; omega
        | cons x R' => exact ⟨x, R', rfl⟩
      have hx := HV.out.at1 S R' x HX.out.1 i HX.out.2.symm
      have x0 := hx.cl wr HR.out.2 0 _ rfl
      have l3 := hx.ld wr HR.out.2
      simp only [Nat.add_zero] at x0
      clear hx
      by_cases hcl : x.cl = cl
      · have d1 : (x.cl == cl) = true := beq_iff_eq.2 hcl
        have HF : Hid (((S ++ [x]).filter fun x => x.cl == cl) = L ++ [x]) := Lib.hid (by rw [List.filter_append, HL.out]; simp [hcl])
        clear hcl
        unfold CV enc at l3
        go_wp2_with (first | refine Arr.wpList_ldA rfl _ _ rfl _ l3 ?_ | (at_builtin; refine appG (R := RC) (f := enc) (W := wr) rfl _ _ rfl _ L rfl HRow.out x _ rfl rfl (enc_one _) wr.heap.size rfl rfl (by have := HN.out; omega) HR.out.2 (Nat.le_refl _) HR.out.2.size ?_))
        intro a1 c1 w4 hO1 hE4 hz1 hb1
        have HG := Lib.hid (And.intro hO1 hE4)
        clear hO1 hE4 hz1 hb1
        go_wp2_with fail
        go_roundg (len - (i + 1))
        case measure => omega
        case rel =>
          refine ⟨i + 1, S ++ [x], R', by go_num, by omega, Lib.hid ⟨by rw [HX.out.1]; simp, by rw [List.length_append, HX.out.2]; rfl⟩, Lib.hid ⟨?_, HG.out.2⟩, Nat.le_refl _⟩
          rw [HF.out]
          exact HG.out.1
      · have d1 : (x.cl == cl) = false := beq_eq_false_iff_ne.2 hcl
        have HF : Hid (((S ++ [x]).filter fun x => x.cl == cl) = L) := Lib.hid (by rw [List.filter_append, HL.out]; simp [hcl])
        clear hcl
        go_wp2_with fail
        go_roundg (len - (i + 1))
        case measure => omega
        case rel =>
          refine ⟨i + 1, S ++ [x], R', by go_num, by omega, Lib.hid ⟨by rw [HX.out.1]; simp, by rw [List.length_append, HX.out.2]; rfl⟩, Lib.hid ⟨?_, HR.out.2⟩, Nat.le_refl _⟩
          rw [HF.out]
          exact HRow.out
    · obtain rfl : i = len := by omega
      have d0 : decide (i < i) = false := decide_eq_false (by omega)
      go_wp2_with fail
      go_ret
      have e : T = S := by
        have h1 := HX.out
        have h2 := HV.out.len
        rw [h1.1, List.length_append] at h2
        rw [h1.1, List.eq_nil_of_length_eq_zero (show R.length = 0 by omega), List.append_nil]
      obtain ⟨b', h1, _⟩ := row_vc HRow.out
      exact ⟨⟨av, L.length, cv, b', rfl, by rw [e, HL.out]; exact h1⟩, HR.out.2⟩
end Go.Proofs.Ytbjkpiobfiebhaa.Hs
