/-
  Histories: Counted, Order, Of, Swaps; the document's Right and Swaps.
  At most 60 calls; no other condition.
-/
import Derived.Test.YtbjkpiobfiebhaaHsK
namespace Go.Proofs.Ytbjkpiobfiebhaa.Hs
open Go.RowKit Go.Seg Go.Open Go.Lib Go.Arr Go.Stab Go.Row

/-- What a sorted choice of calls comes to. -/
def Told (T : List C) (p : C → Bool) (key : C → Int) (w : World) (e : Ending) (w' : World) : Prop := (∃ (a' : Option Addr) (n cap' b' : Nat) (L : List (C × Nat)), e = .returned (.slice a' n cap') ∧ n ≤ cap' ∧ n ≤ 60 ∧ VC w' a' n b' 0 (L.map Prod.fst) ∧ Done key (sel p T) L) ∧ Ext w w'
theorem counted_any (T : List C) (a : Option Addr) (len cap b off : Nat) (w : World) (hV : VC w a len b off T) (hl : len ≤ 60) :
    Calls Try.prog 8 #[.slice a len cap] w fun e w' => Told T (fun x => decide (0 ≤ x.at_)) (fun x => x.at_) w e w' := by
  have HV := Lib.hid hV
  clear hV
  go_enter Try.func8, Try.ntmps8
  go_wp2_with fail
  refine (those_cnt T a len cap b off _ HV.out hl).mono ?_
  rintro e w' ⟨⟨a', n, cap', b', L, rfl, h1, h2, h3, h4⟩, hE⟩
  have HH := Lib.hid (And.intro h1 (And.intro h2 (And.intro h3 (And.intro h4 hE))))
  clear h1 h2 h3 h4 hE
  go_wp2_with fail
  go_ret
  exact ⟨⟨a', n, cap', b', L, rfl, HH.out.1, HH.out.2.1, HH.out.2.2.1, HH.out.2.2.2.1⟩, HH.out.2.2.2.2⟩
theorem order_any (T : List C) (a : Option Addr) (len cap b off : Nat) (w : World) (hV : VC w a len b off T) (hl : len ≤ 60) :
    Calls Try.prog 17 #[.slice a len cap] w fun e w' => Told T (fun _ => true) (fun x => x.bgn) w e w' := by
  have HV := Lib.hid hV
  clear hV
  go_enter Try.func17, Try.ntmps17
  go_wp2_with fail
  refine (those_ord T a len cap b off _ HV.out hl).mono ?_
  rintro e w' ⟨⟨a', n, cap', b', L, rfl, h1, h2, h3, h4⟩, hE⟩
  have HH := Lib.hid (And.intro h1 (And.intro h2 (And.intro h3 (And.intro h4 hE))))
  clear h1 h2 h3 h4 hE
  go_wp2_with fail
  go_ret
  exact ⟨⟨a', n, cap', b', L, rfl, HH.out.1, HH.out.2.1, HH.out.2.2.1, HH.out.2.2.2.1⟩, HH.out.2.2.2.2⟩
theorem of_any (cl : Int) (T : List C) (a : Option Addr) (len cap b off : Nat) (w : World) (hV : VC w a len b off T) (hl : len ≤ 60) :
    Calls Try.prog 19 #[.slice a len cap, .int .i64 cl] w fun e w' => Told T (fun x => x.cl == cl) (fun _ => (0 : Int)) w e w' := by
  have hE1 : Ext w (w.alloc (.cells #[.int .i64 cl] 3)) := ext_alloc _ _
  have HE1 := Lib.hid hE1
  have HBX := Lib.hid (show Blk (w.alloc (.cells #[.int .i64 cl] 3)) w.heap.size #[.int .i64 cl] 3 from Blk.new _ _ _)
  have HV := Lib.hid (hV.ext hE1)
  clear hV hE1
  go_enter Try.func19, Try.ntmps19
  go_wp2_with fail
  refine (those_of cl w.heap.size T a len cap b off _ HV.out hl HBX.out).mono ?_
  rintro e w' ⟨⟨a', n, cap', b', L, rfl, h1, h2, h3, h4⟩, hE⟩
  have HH := Lib.hid (And.intro h1 (And.intro h2 (And.intro h3 (And.intro h4 hE))))
  clear h1 h2 h3 h4 hE
  go_wp2_with fail
  go_ret
  exact ⟨⟨a', n, cap', b', L, rfl, HH.out.1, HH.out.2.1, HH.out.2.2.1, HH.out.2.2.2.1⟩, HE1.out.trans HH.out.2.2.2.2⟩
/-- How many pairs are swapped. -/
def swaps : List C → Nat
  | [] => 0
  | x :: R => R.countP (fun y => ahead y x) + swaps R
set_option maxRecDepth 100000 in
set_option maxHeartbeats 4000000 in
theorem Swaps_any (T : List C) (a : Option Addr) (len cap b off : Nat) (w : World) (hV : VC w a len b off T) (hl : len ≤ 60) (hc : len ≤ cap) :
    Calls Try.prog 10 #[.slice a len cap] w fun e w' => e = .returned (.int .i64 (swaps T)) ∧ Ext w w' := by
  have HV := Lib.hid hV
  clear hV
  go_enter Try.func10, Try.ntmps10
  go_wp2_with fail
  go_loopg [2, 9] len (fun g u s wr => ∃ (i m : Nat) (S R : List C), u = .int .i64 m ∧ s = .int .i64 i ∧ i ≤ len ∧ m ≤ 60 * i ∧ Hid (T = S ++ R ∧ S.length = i ∧ m + swaps R = swaps T ∧ Ext w wr) ∧ len - i ≤ g)
  case atStart => exact ⟨0, 0, [], T, rfl, rfl, Nat.zero_le _, Nat.zero_le _, Lib.hid ⟨rfl, rfl, by simp, Ext.refl _⟩, Nat.le_refl _⟩
  case round =>
    obtain ⟨i, m, S, R, rfl, rfl, hi, hm, HR, hg⟩ := hrel
    by_cases hil : i < len
    · have d0 : decide (i < len) = true := decide_eq_true hil
      obtain rfl := HV.out.ad (by omega)
      obtain ⟨x, R', rfl⟩ : ∃ x R', R = x :: R' := by
        cases R with
        | nil => have h1 := HR.out; have h2 := HV.out.len; rw [h1.1] at h2; simp at h2; omega
        | cons x R' => exact ⟨x, R', rfl⟩
      have hx := HV.out.at1 S R' x HR.out.1 i HR.out.2.1.symm
      have l1 := hx.ld wr HR.out.2.2.2
      have s1 := st_new wr x
      have HB := Lib.hid (one_box wr x)
      obtain ⟨w2, hw2⟩ : ∃ w2, w2 = wr.alloc (.cells (enc x).toArray 29) := ⟨_, rfl⟩
      rw [← hw2] at s1
      have HA := Lib.hid (show At1 w2 wr.heap.size 0 x by rw [hw2]; exact at1_blk HB.out.1)
      have HE2 := Lib.hid (show Ext wr w2 by rw [hw2]; exact HB.out.2)
      unfold ZC at s1
      have HD := Lib.hid (show VC w2 (some ⟨b, off + (i + 1) * 13, none⟩) (len - (i + 1)) b (off + (i + 1) * 13) R' by
        have h := (HV.out.ext (HR.out.2.2.2.trans HE2.out)).drop (i := i + 1)
        rw [HR.out.1, show i + 1 = (S ++ [x]).length by rw [List.length_append, HR.out.2.1]; rfl, show S ++ x :: R' = (S ++ [x]) ++ R' by simp, List.drop_left] at h
        rw [show (S ++ [x]).length = i + 1 by rw [List.length_append, HR.out.2.1]; rfl] at h
        exact h)
      have HLR := Lib.hid (show R'.length = len - (i + 1) from HD.out.len)
      have bi : i + 1 ≤ cap := by omega
      have bi0 : (0 : Int) ≤ (i : Int) + 1 := by omega
      have ei : ((i : Int) + 1).toNat = i + 1 := by omega
      clear hx HB hw2
      by_cases hcap : cap = i + 1
      · have hz : len - (i + 1) = 0 := by omega
        subst hcap
        have HRN := Lib.hid (show R' = [] from List.eq_nil_of_length_eq_zero (by rw [HLR.out]; exact hz))
        go_wp2_with (first | refine Arr.wpList_ldA rfl _ _ rfl _ l1 ?_ | refine Arr.wpList_stA rfl _ _ _ rfl rfl s1 ?_)
        go_loopg [2, 19] 0 (fun g u s wr2 => u = .int .i64 m ∧ s = .int .i64 0 ∧ wr2 = w2)
        case atStart => exact ⟨rfl, rfl, rfl⟩
        case round =>
          obtain ⟨rfl, rfl, rfl⟩ := hrel
          go_wp2_with fail
          go_roundg (len - (i + 1))
          case measure => omega
          case rel =>
            obtain ⟨q1, q2, q3, q4⟩ := HR.out
            refine ⟨i + 1, m, S ++ [x], R', rfl, by go_num, by omega, by omega, Lib.hid ⟨by rw [q1]; simp, by rw [List.length_append, q2]; rfl, ?_, q4.trans HE2.out⟩, Nat.le_refl _⟩
            rw [← q3, HRN.out]
            simp [swaps]
      · have hcl : i + 1 < cap := by omega
        obtain ⟨r, hr⟩ : ∃ r, len - (i + 1) = r := ⟨_, rfl⟩
        rw [hr] at HD HLR
        have br : r ≤ 60 := by omega
        have bm : m + r ≤ 60 * (i + 1) := by omega
        have HRr := Lib.hid hr
        go_wp2_with (first | refine Arr.wpList_ldA rfl _ _ rfl _ l1 ?_ | refine Arr.wpList_stA rfl _ _ _ rfl rfl s1 ?_)
        clear hr l1 s1
        go_loopg [2, 19] r (fun g u s wr2 => ∃ (j m2 : Nat) (S2 R2 : List C), u = .int .i64 m2 ∧ s = .int .i64 j ∧ j ≤ r ∧ m2 ≤ m + j ∧ Hid (R' = S2 ++ R2 ∧ S2.length = j ∧ m2 = m + S2.countP (fun y => ahead y x) ∧ Ext w2 wr2) ∧ r - j ≤ g)
        case atStart => exact ⟨0, m, [], R', rfl, rfl, Nat.zero_le _, by omega, Lib.hid ⟨rfl, rfl, rfl, Ext.refl _⟩, Nat.le_refl _⟩
        case round =>
          obtain ⟨j, m2, S2, R2, rfl, rfl, hj, hm2, HJ, hg2⟩ := hrel
          by_cases hjr : j < r
          · have d1 : decide (j < r) = true := decide_eq_true hjr
            obtain ⟨y, R3, rfl⟩ : ∃ y R3, R2 = y :: R3 := by
              cases R2 with
              | nil => have h1 := HJ.out; have h2 := HLR.out; rw [h1.1] at h2; simp at h2; omega
              | cons y R3 => exact ⟨y, R3, rfl⟩
            have hy := HD.out.at1 S2 R3 y HJ.out.1 j HJ.out.2.1.symm
            have l1 := hy.ld wr HJ.out.2.2.2
            have s1 := st_new wr y
            have HB := Lib.hid (one_box wr y)
            obtain ⟨w3, hw3⟩ : ∃ w3, w3 = wr.alloc (.cells (enc y).toArray 29) := ⟨_, rfl⟩
            rw [← hw3] at s1
            have HE3 := Lib.hid (show Ext wr w3 by rw [hw3]; exact HB.out.2)
            have l2 := (show At1 w3 wr.heap.size 0 y by rw [hw3]; exact at1_blk HB.out.1).ld w3 (Ext.refl _)
            have l3 := HA.out.ld w3 (HJ.out.2.2.2.trans HE3.out)
            unfold ZC at s1
            clear hy HB hw3
            go_wp2_with (first | refine Arr.wpList_ldA rfl _ _ rfl _ l1 ?_ | refine Arr.wpList_stA rfl _ _ _ rfl rfl s1 ?_ | refine Arr.wpList_ldA rfl _ _ rfl _ l2 ?_ | refine Arr.wpList_ldA rfl _ _ rfl _ l3 ?_)
            refine (ahead_any y x _).mono ?_
            rintro e w4 ⟨rfl, hE4⟩
            have HE4 := Lib.hid (HJ.out.2.2.2.trans (HE3.out.trans hE4))
            clear hE4
            cases ha : ahead y x with
            | true =>
              have HAH := Lib.hid ha
              clear ha
              go_wp2_with fail
              go_roundg (r - (j + 1))
              case measure => omega
              case rel =>
                refine ⟨j + 1, m2 + 1, S2 ++ [y], R3, by go_num, by go_num, by omega, by omega, Lib.hid ⟨by rw [HJ.out.1]; simp, by rw [List.length_append, HJ.out.2.1]; rfl, ?_, HE4.out⟩, Nat.le_refl _⟩
                rw [List.countP_append, HJ.out.2.2.1, List.countP_cons, List.countP_nil]
                have := HAH.out
                rw [if_pos this]
                omega
            | false =>
              have HAH := Lib.hid ha
              clear ha
              go_wp2_with fail
              go_roundg (r - (j + 1))
              case measure => omega
              case rel =>
                refine ⟨j + 1, m2, S2 ++ [y], R3, rfl, by go_num, by omega, by omega, Lib.hid ⟨by rw [HJ.out.1]; simp, by rw [List.length_append, HJ.out.2.1]; rfl, ?_, HE4.out⟩, Nat.le_refl _⟩
                rw [List.countP_append, HJ.out.2.2.1, List.countP_cons, List.countP_nil]
                have := HAH.out
                rw [if_neg (by rw [this]; decide)]
                omega
          · obtain rfl : j = r := by omega
            have d1 : decide (j < j) = false := decide_eq_false (by omega)
            go_wp2_with fail
            go_roundg (len - (i + 1))
            case measure => omega
            case rel =>
              obtain ⟨q1, q2, q3, q4⟩ := HR.out
              obtain ⟨p1, p2, p3, p4⟩ := HJ.out
              refine ⟨i + 1, m2, S ++ [x], R', rfl, by go_num, by omega, by omega, Lib.hid ⟨by rw [q1]; simp, by rw [List.length_append, q2]; rfl, ?_, q4.trans (HE2.out.trans p4)⟩, Nat.le_refl _⟩
              have e2 : R2 = [] := by
                have h2 := HLR.out
                rw [p1, List.length_append] at h2
                exact List.eq_nil_of_length_eq_zero (by omega)
              rw [e2, List.append_nil] at p1
              rw [← q3, p3, ← p1]
              simp only [swaps]
              omega
    · obtain rfl : i = len := by omega
      have d0 : decide (i < i) = false := decide_eq_false (by omega)
      go_wp2_with fail
      go_ret
      have h := HR.out
      have e2 : R = [] := by
        have h2 := HV.out.len
        rw [h.1, List.length_append] at h2
        exact List.eq_nil_of_length_eq_zero (by omega)
      rw [e2] at h
      exact ⟨by rw [← h.2.2.1]; simp [swaps], h.2.2.2⟩
end Go.Proofs.Ytbjkpiobfiebhaa.Hs
