/-
  Search: what a call may answer behind others, by the document. At most 60 calls; no other condition.
  Histories: the document's Counted and Order: each put where it belongs. At most 60 calls; no other condition.
  Search: calls done one behind the other, by the document: Replay, Holds. At most 60 calls; no other condition.
  Search: the document's May behind calls is what a lossy map that did them may. PLAIN LAW: no walk; no condition.
-/
import Derived.Test.YtdfbfcglacalmaaM6
import Derived.Test.YtdfbfcglacalmaaM4
section
namespace Go.Proofs.Ytdfbfcglacalmaa.Hs
open Go.RowKit Go.Seg Go.Open Go.Lib Go.Arr Go.Stab Go.Row

/-- May a call answer so behind others? -/
def mayR (l : List C) (c : C) : Bool :=
  if (!(c.k == 1 && c.ok) && c.val != 0) = true then false
  else if closedR l = true then c.ok == (c.k == 6)
  else if c.k = 1 then !c.ok || (match getR l c.a c.tick with | some v => v == c.val | none => false)
  else if c.k = 2 then !c.ok || (Lossy.right c.c && decide (0 ≤ c.d))
  else if c.k = 7 then c.ok == Lossy.right c.c
  else c.ok == (decide (3 ≤ c.k) && decide (c.k ≤ 6))
set_option maxRecDepth 100000 in
set_option maxHeartbeats 8000000 in
theorem rMay_any (T : List C) (a : Option Addr) (len cap b off : Nat) (c : C) (w : World) (hV : VC w a len b off T) (hl : len ≤ 60) :
    Calls Try.prog 26 #[.slice a len cap, CV c] w fun e w' => e = .returned (.bool (mayR T c)) ∧ Ext w w' := by
  have HV := Lib.hid hV
  have HB := Lib.hid (one_box w c)
  obtain ⟨w1, hw1⟩ : ∃ w1, w1 = w.alloc (.cells (enc c).toArray 41) := ⟨_, rfl⟩
  have HA := Lib.hid (show At1 w1 w.heap.size 0 c by rw [hw1]; exact at1_blk HB.out.1)
  have HE1 := Lib.hid (show Ext w w1 by rw [hw1]; exact HB.out.2)
  have HW := Lib.hid hw1
  obtain ⟨ok, hok⟩ : ∃ ok, c.ok = ok := ⟨_, rfl⟩
  obtain ⟨cl, hcl⟩ : ∃ cl, closedR T = cl := ⟨_, rfl⟩
  clear hV HB hw1
  unfold CV
  by_cases h1 : c.k = 1
  · have d1 : (c.k == 1) = true := by simp [h1]
    have d6 : (c.k == 6) = false := by simp [h1]
    cases ok with
    | true =>
      cases cl with
      | true =>
        have HM : Hid (mayR T c = false) := Lib.hid (by unfold mayR; simp [hok, hcl, h1])
        have HCL := Lib.hid hcl
        have HOK := Lib.hid hok
        clear hok hcl h1
        have p2 := HA.out.cl w1 (Ext.refl _) 2 _ rfl
        have p3 := HA.out.cl w1 (Ext.refl _) 3 _ rfl
        have p5 := HA.out.cl w1 (Ext.refl _) 5 _ rfl
        have p6 := HA.out.cl w1 (Ext.refl _) 6 _ rfl
        have p10 := HA.out.cl w1 (Ext.refl _) 10 _ rfl
        have p11 := HA.out.cl w1 (Ext.refl _) 11 _ rfl
        have p12 := HA.out.cl w1 (Ext.refl _) 12 _ rfl
        simp only [Nat.zero_add] at p2 p3 p5 p6 p10 p11 p12
        rw [HOK.out] at p11
        go_enter Try.func26, Try.ntmps26
        go_upto_region 1 with fail
        rw [← HW.out]
        go_wp2_with (first | go_guarded)
        refine (rClosed_any T a len cap b off _ (HV.out.ext HE1.out) hl).mono ?_
        rintro e w2 ⟨rfl, hE2⟩
        rw [HCL.out]
        have HE2 := Lib.hid hE2
        clear hE2
        have q2 := HA.out.cl w2 HE2.out 2 _ rfl
        have q3 := HA.out.cl w2 HE2.out 3 _ rfl
        have q5 := HA.out.cl w2 HE2.out 5 _ rfl
        have q6 := HA.out.cl w2 HE2.out 6 _ rfl
        have q10 := HA.out.cl w2 HE2.out 10 _ rfl
        have q11 := HA.out.cl w2 HE2.out 11 _ rfl
        have q12 := HA.out.cl w2 HE2.out 12 _ rfl
        simp only [Nat.zero_add] at q2 q3 q5 q6 q10 q11 q12
        rw [HOK.out] at q11
        clear p2 p3 p5 p6 p10 p11 p12
        go_wp2_with (first | go_guarded)
        go_ret
        refine ⟨?_, HE1.out.trans HE2.out⟩
        rw [HM.out]
        first | rfl | simp
      | false =>
        obtain ⟨r, hg⟩ : ∃ r, getR T c.a c.tick = r := ⟨_, rfl⟩
        have HGG := Lib.hid hg
        cases r with
        | none =>
          have HM : Hid (mayR T c = false) := Lib.hid (by unfold mayR; simp [hok, hcl, h1, hg])
          have HCL := Lib.hid hcl
          have HOK := Lib.hid hok
          clear hok hcl h1 hg
          have p2 := HA.out.cl w1 (Ext.refl _) 2 _ rfl
          have p3 := HA.out.cl w1 (Ext.refl _) 3 _ rfl
          have p5 := HA.out.cl w1 (Ext.refl _) 5 _ rfl
          have p6 := HA.out.cl w1 (Ext.refl _) 6 _ rfl
          have p10 := HA.out.cl w1 (Ext.refl _) 10 _ rfl
          have p11 := HA.out.cl w1 (Ext.refl _) 11 _ rfl
          have p12 := HA.out.cl w1 (Ext.refl _) 12 _ rfl
          simp only [Nat.zero_add] at p2 p3 p5 p6 p10 p11 p12
          rw [HOK.out] at p11
          go_enter Try.func26, Try.ntmps26
          go_upto_region 1 with fail
          rw [← HW.out]
          go_wp2_with (first | go_guarded)
          refine (rClosed_any T a len cap b off _ (HV.out.ext HE1.out) hl).mono ?_
          rintro e w2 ⟨rfl, hE2⟩
          rw [HCL.out]
          have HE2 := Lib.hid hE2
          clear hE2
          have q2 := HA.out.cl w2 HE2.out 2 _ rfl
          have q3 := HA.out.cl w2 HE2.out 3 _ rfl
          have q5 := HA.out.cl w2 HE2.out 5 _ rfl
          have q6 := HA.out.cl w2 HE2.out 6 _ rfl
          have q10 := HA.out.cl w2 HE2.out 10 _ rfl
          have q11 := HA.out.cl w2 HE2.out 11 _ rfl
          have q12 := HA.out.cl w2 HE2.out 12 _ rfl
          simp only [Nat.zero_add] at q2 q3 q5 q6 q10 q11 q12
          rw [HOK.out] at q11
          clear p2 p3 p5 p6 p10 p11 p12
          go_wp2_with (first | go_guarded)
          refine (rGet_any T a len cap b off _ _ _ (HV.out.ext (HE1.out.trans HE2.out)) hl).mono ?_
          rw [HGG.out]
          rintro e w3 ⟨rfl, hE3⟩
          have HE3 := Lib.hid hE3
          clear hE3
          unfold getV
          have r2 := HA.out.cl w3 (HE2.out.trans HE3.out) 2 _ rfl
          have r3 := HA.out.cl w3 (HE2.out.trans HE3.out) 3 _ rfl
          have r5 := HA.out.cl w3 (HE2.out.trans HE3.out) 5 _ rfl
          have r6 := HA.out.cl w3 (HE2.out.trans HE3.out) 6 _ rfl
          have r10 := HA.out.cl w3 (HE2.out.trans HE3.out) 10 _ rfl
          have r11 := HA.out.cl w3 (HE2.out.trans HE3.out) 11 _ rfl
          have r12 := HA.out.cl w3 (HE2.out.trans HE3.out) 12 _ rfl
          simp only [Nat.zero_add] at r2 r3 r5 r6 r10 r11 r12
          rw [HOK.out] at r11
          clear q2 q3 q5 q6 q10 q11 q12
          go_wp2_with (first | go_guarded)
          go_ret
          refine ⟨?_, HE1.out.trans (HE2.out.trans HE3.out)⟩
          rw [HM.out]
          first | rfl | simp
        | some v =>
          have HM : Hid (mayR T c = (v == c.val)) := Lib.hid (by unfold mayR; simp [hok, hcl, h1, hg])
          have HCL := Lib.hid hcl
          have HOK := Lib.hid hok
          clear hok hcl h1 hg
          have p2 := HA.out.cl w1 (Ext.refl _) 2 _ rfl
          have p3 := HA.out.cl w1 (Ext.refl _) 3 _ rfl
          have p5 := HA.out.cl w1 (Ext.refl _) 5 _ rfl
          have p6 := HA.out.cl w1 (Ext.refl _) 6 _ rfl
          have p10 := HA.out.cl w1 (Ext.refl _) 10 _ rfl
          have p11 := HA.out.cl w1 (Ext.refl _) 11 _ rfl
          have p12 := HA.out.cl w1 (Ext.refl _) 12 _ rfl
          simp only [Nat.zero_add] at p2 p3 p5 p6 p10 p11 p12
          rw [HOK.out] at p11
          go_enter Try.func26, Try.ntmps26
          go_upto_region 1 with fail
          rw [← HW.out]
          go_wp2_with (first | go_guarded)
          refine (rClosed_any T a len cap b off _ (HV.out.ext HE1.out) hl).mono ?_
          rintro e w2 ⟨rfl, hE2⟩
          rw [HCL.out]
          have HE2 := Lib.hid hE2
          clear hE2
          have q2 := HA.out.cl w2 HE2.out 2 _ rfl
          have q3 := HA.out.cl w2 HE2.out 3 _ rfl
          have q5 := HA.out.cl w2 HE2.out 5 _ rfl
          have q6 := HA.out.cl w2 HE2.out 6 _ rfl
          have q10 := HA.out.cl w2 HE2.out 10 _ rfl
          have q11 := HA.out.cl w2 HE2.out 11 _ rfl
          have q12 := HA.out.cl w2 HE2.out 12 _ rfl
          simp only [Nat.zero_add] at q2 q3 q5 q6 q10 q11 q12
          rw [HOK.out] at q11
          clear p2 p3 p5 p6 p10 p11 p12
          go_wp2_with (first | go_guarded)
          refine (rGet_any T a len cap b off _ _ _ (HV.out.ext (HE1.out.trans HE2.out)) hl).mono ?_
          rw [HGG.out]
          rintro e w3 ⟨rfl, hE3⟩
          have HE3 := Lib.hid hE3
          clear hE3
          unfold getV
          have r2 := HA.out.cl w3 (HE2.out.trans HE3.out) 2 _ rfl
          have r3 := HA.out.cl w3 (HE2.out.trans HE3.out) 3 _ rfl
          have r5 := HA.out.cl w3 (HE2.out.trans HE3.out) 5 _ rfl
          have r6 := HA.out.cl w3 (HE2.out.trans HE3.out) 6 _ rfl
          have r10 := HA.out.cl w3 (HE2.out.trans HE3.out) 10 _ rfl
          have r11 := HA.out.cl w3 (HE2.out.trans HE3.out) 11 _ rfl
          have r12 := HA.out.cl w3 (HE2.out.trans HE3.out) 12 _ rfl
          simp only [Nat.zero_add] at r2 r3 r5 r6 r10 r11 r12
          rw [HOK.out] at r11
          clear q2 q3 q5 q6 q10 q11 q12
          go_wp2_with (first | go_guarded)
          go_ret
          refine ⟨?_, HE1.out.trans (HE2.out.trans HE3.out)⟩
          rw [HM.out]
          first | rfl | simp
    | false =>
      by_cases hz : c.val = 0
      · have dz : (c.val != 0) = false := by simp [hz]
        cases cl with
        | true =>
          have HM : Hid (mayR T c = true) := Lib.hid (by unfold mayR; simp [hok, hcl, h1, hz])
          have HCL := Lib.hid hcl
          have HOK := Lib.hid hok
          clear hok hcl h1 hz
          have p2 := HA.out.cl w1 (Ext.refl _) 2 _ rfl
          have p3 := HA.out.cl w1 (Ext.refl _) 3 _ rfl
          have p5 := HA.out.cl w1 (Ext.refl _) 5 _ rfl
          have p6 := HA.out.cl w1 (Ext.refl _) 6 _ rfl
          have p10 := HA.out.cl w1 (Ext.refl _) 10 _ rfl
          have p11 := HA.out.cl w1 (Ext.refl _) 11 _ rfl
          have p12 := HA.out.cl w1 (Ext.refl _) 12 _ rfl
          simp only [Nat.zero_add] at p2 p3 p5 p6 p10 p11 p12
          rw [HOK.out] at p11
          go_enter Try.func26, Try.ntmps26
          go_upto_region 1 with fail
          rw [← HW.out]
          go_wp2_with (first | go_guarded)
          refine (rClosed_any T a len cap b off _ (HV.out.ext HE1.out) hl).mono ?_
          rintro e w2 ⟨rfl, hE2⟩
          rw [HCL.out]
          have HE2 := Lib.hid hE2
          clear hE2
          have q2 := HA.out.cl w2 HE2.out 2 _ rfl
          have q3 := HA.out.cl w2 HE2.out 3 _ rfl
          have q5 := HA.out.cl w2 HE2.out 5 _ rfl
          have q6 := HA.out.cl w2 HE2.out 6 _ rfl
          have q10 := HA.out.cl w2 HE2.out 10 _ rfl
          have q11 := HA.out.cl w2 HE2.out 11 _ rfl
          have q12 := HA.out.cl w2 HE2.out 12 _ rfl
          simp only [Nat.zero_add] at q2 q3 q5 q6 q10 q11 q12
          rw [HOK.out] at q11
          clear p2 p3 p5 p6 p10 p11 p12
          go_wp2_with (first | go_guarded)
          go_ret
          refine ⟨?_, HE1.out.trans HE2.out⟩
          rw [HM.out]
          first | rfl | simp
        | false =>
          obtain ⟨r, hg⟩ : ∃ r, getR T c.a c.tick = r := ⟨_, rfl⟩
          have HGG := Lib.hid hg
          cases r with
          | none =>
            have HM : Hid (mayR T c = true) := Lib.hid (by unfold mayR; simp [hok, hcl, h1, hz, hg])
            have HCL := Lib.hid hcl
            have HOK := Lib.hid hok
            clear hok hcl h1 hz hg
            have p2 := HA.out.cl w1 (Ext.refl _) 2 _ rfl
            have p3 := HA.out.cl w1 (Ext.refl _) 3 _ rfl
            have p5 := HA.out.cl w1 (Ext.refl _) 5 _ rfl
            have p6 := HA.out.cl w1 (Ext.refl _) 6 _ rfl
            have p10 := HA.out.cl w1 (Ext.refl _) 10 _ rfl
            have p11 := HA.out.cl w1 (Ext.refl _) 11 _ rfl
            have p12 := HA.out.cl w1 (Ext.refl _) 12 _ rfl
            simp only [Nat.zero_add] at p2 p3 p5 p6 p10 p11 p12
            rw [HOK.out] at p11
            go_enter Try.func26, Try.ntmps26
            go_upto_region 1 with fail
            rw [← HW.out]
            go_wp2_with (first | go_guarded)
            refine (rClosed_any T a len cap b off _ (HV.out.ext HE1.out) hl).mono ?_
            rintro e w2 ⟨rfl, hE2⟩
            rw [HCL.out]
            have HE2 := Lib.hid hE2
            clear hE2
            have q2 := HA.out.cl w2 HE2.out 2 _ rfl
            have q3 := HA.out.cl w2 HE2.out 3 _ rfl
            have q5 := HA.out.cl w2 HE2.out 5 _ rfl
            have q6 := HA.out.cl w2 HE2.out 6 _ rfl
            have q10 := HA.out.cl w2 HE2.out 10 _ rfl
            have q11 := HA.out.cl w2 HE2.out 11 _ rfl
            have q12 := HA.out.cl w2 HE2.out 12 _ rfl
            simp only [Nat.zero_add] at q2 q3 q5 q6 q10 q11 q12
            rw [HOK.out] at q11
            clear p2 p3 p5 p6 p10 p11 p12
            go_wp2_with (first | go_guarded)
            refine (rGet_any T a len cap b off _ _ _ (HV.out.ext (HE1.out.trans HE2.out)) hl).mono ?_
            rw [HGG.out]
            rintro e w3 ⟨rfl, hE3⟩
            have HE3 := Lib.hid hE3
            clear hE3
            unfold getV
            have r2 := HA.out.cl w3 (HE2.out.trans HE3.out) 2 _ rfl
            have r3 := HA.out.cl w3 (HE2.out.trans HE3.out) 3 _ rfl
            have r5 := HA.out.cl w3 (HE2.out.trans HE3.out) 5 _ rfl
            have r6 := HA.out.cl w3 (HE2.out.trans HE3.out) 6 _ rfl
            have r10 := HA.out.cl w3 (HE2.out.trans HE3.out) 10 _ rfl
            have r11 := HA.out.cl w3 (HE2.out.trans HE3.out) 11 _ rfl
            have r12 := HA.out.cl w3 (HE2.out.trans HE3.out) 12 _ rfl
            simp only [Nat.zero_add] at r2 r3 r5 r6 r10 r11 r12
            rw [HOK.out] at r11
            clear q2 q3 q5 q6 q10 q11 q12
            go_wp2_with (first | go_guarded)
            go_ret
            refine ⟨?_, HE1.out.trans (HE2.out.trans HE3.out)⟩
            rw [HM.out]
            first | rfl | simp
          | some v =>
            have HM : Hid (mayR T c = true) := Lib.hid (by unfold mayR; simp [hok, hcl, h1, hz, hg])
            have HCL := Lib.hid hcl
            have HOK := Lib.hid hok
            clear hok hcl h1 hz hg
            have p2 := HA.out.cl w1 (Ext.refl _) 2 _ rfl
            have p3 := HA.out.cl w1 (Ext.refl _) 3 _ rfl
            have p5 := HA.out.cl w1 (Ext.refl _) 5 _ rfl
            have p6 := HA.out.cl w1 (Ext.refl _) 6 _ rfl
            have p10 := HA.out.cl w1 (Ext.refl _) 10 _ rfl
            have p11 := HA.out.cl w1 (Ext.refl _) 11 _ rfl
            have p12 := HA.out.cl w1 (Ext.refl _) 12 _ rfl
            simp only [Nat.zero_add] at p2 p3 p5 p6 p10 p11 p12
            rw [HOK.out] at p11
            go_enter Try.func26, Try.ntmps26
            go_upto_region 1 with fail
            rw [← HW.out]
            go_wp2_with (first | go_guarded)
            refine (rClosed_any T a len cap b off _ (HV.out.ext HE1.out) hl).mono ?_
            rintro e w2 ⟨rfl, hE2⟩
            rw [HCL.out]
            have HE2 := Lib.hid hE2
            clear hE2
            have q2 := HA.out.cl w2 HE2.out 2 _ rfl
            have q3 := HA.out.cl w2 HE2.out 3 _ rfl
            have q5 := HA.out.cl w2 HE2.out 5 _ rfl
            have q6 := HA.out.cl w2 HE2.out 6 _ rfl
            have q10 := HA.out.cl w2 HE2.out 10 _ rfl
            have q11 := HA.out.cl w2 HE2.out 11 _ rfl
            have q12 := HA.out.cl w2 HE2.out 12 _ rfl
            simp only [Nat.zero_add] at q2 q3 q5 q6 q10 q11 q12
            rw [HOK.out] at q11
            clear p2 p3 p5 p6 p10 p11 p12
            go_wp2_with (first | go_guarded)
            refine (rGet_any T a len cap b off _ _ _ (HV.out.ext (HE1.out.trans HE2.out)) hl).mono ?_
            rw [HGG.out]
            rintro e w3 ⟨rfl, hE3⟩
            have HE3 := Lib.hid hE3
            clear hE3
            unfold getV
            have r2 := HA.out.cl w3 (HE2.out.trans HE3.out) 2 _ rfl
            have r3 := HA.out.cl w3 (HE2.out.trans HE3.out) 3 _ rfl
            have r5 := HA.out.cl w3 (HE2.out.trans HE3.out) 5 _ rfl
            have r6 := HA.out.cl w3 (HE2.out.trans HE3.out) 6 _ rfl
            have r10 := HA.out.cl w3 (HE2.out.trans HE3.out) 10 _ rfl
            have r11 := HA.out.cl w3 (HE2.out.trans HE3.out) 11 _ rfl
            have r12 := HA.out.cl w3 (HE2.out.trans HE3.out) 12 _ rfl
            simp only [Nat.zero_add] at r2 r3 r5 r6 r10 r11 r12
            rw [HOK.out] at r11
            clear q2 q3 q5 q6 q10 q11 q12
            go_wp2_with (first | go_guarded)
            go_ret
            refine ⟨?_, HE1.out.trans (HE2.out.trans HE3.out)⟩
            rw [HM.out]
            first | rfl | simp
      · have dz : (c.val != 0) = true := by simp [hz]
        have HM : Hid (mayR T c = false) := Lib.hid (by unfold mayR; simp [hok, hcl, h1, hz])
        have HCL := Lib.hid hcl
        have HOK := Lib.hid hok
        clear hok hcl h1 hz
        have p2 := HA.out.cl w1 (Ext.refl _) 2 _ rfl
        have p3 := HA.out.cl w1 (Ext.refl _) 3 _ rfl
        have p5 := HA.out.cl w1 (Ext.refl _) 5 _ rfl
        have p6 := HA.out.cl w1 (Ext.refl _) 6 _ rfl
        have p10 := HA.out.cl w1 (Ext.refl _) 10 _ rfl
        have p11 := HA.out.cl w1 (Ext.refl _) 11 _ rfl
        have p12 := HA.out.cl w1 (Ext.refl _) 12 _ rfl
        simp only [Nat.zero_add] at p2 p3 p5 p6 p10 p11 p12
        rw [HOK.out] at p11
        go_enter Try.func26, Try.ntmps26
        go_upto_region 1 with fail
        rw [← HW.out]
        go_wp2_with (first | go_guarded)
        go_ret
        refine ⟨?_, HE1.out⟩
        rw [HM.out]
        first | rfl | simp
  · have d1 : (c.k == 1) = false := by simp [h1]
    by_cases hz : c.val = 0
    · have dz : (c.val != 0) = false := by simp [hz]
      cases cl with
      | true =>
        by_cases h6 : c.k = 6
        · have d6 : (c.k == 6) = true := by simp [h6]
          have HM : Hid (mayR T c = (ok == true)) := Lib.hid (by unfold mayR; simp [hok, hcl, h1, hz, h6])
          have HCL := Lib.hid hcl
          have HOK := Lib.hid hok
          clear hok hcl h1 hz h6
          have p2 := HA.out.cl w1 (Ext.refl _) 2 _ rfl
          have p3 := HA.out.cl w1 (Ext.refl _) 3 _ rfl
          have p5 := HA.out.cl w1 (Ext.refl _) 5 _ rfl
          have p6 := HA.out.cl w1 (Ext.refl _) 6 _ rfl
          have p10 := HA.out.cl w1 (Ext.refl _) 10 _ rfl
          have p11 := HA.out.cl w1 (Ext.refl _) 11 _ rfl
          have p12 := HA.out.cl w1 (Ext.refl _) 12 _ rfl
          simp only [Nat.zero_add] at p2 p3 p5 p6 p10 p11 p12
          rw [HOK.out] at p11
          go_enter Try.func26, Try.ntmps26
          go_upto_region 1 with fail
          rw [← HW.out]
          go_wp2_with (first | go_guarded)
          refine (rClosed_any T a len cap b off _ (HV.out.ext HE1.out) hl).mono ?_
          rintro e w2 ⟨rfl, hE2⟩
          rw [HCL.out]
          have HE2 := Lib.hid hE2
          clear hE2
          have q2 := HA.out.cl w2 HE2.out 2 _ rfl
          have q3 := HA.out.cl w2 HE2.out 3 _ rfl
          have q5 := HA.out.cl w2 HE2.out 5 _ rfl
          have q6 := HA.out.cl w2 HE2.out 6 _ rfl
          have q10 := HA.out.cl w2 HE2.out 10 _ rfl
          have q11 := HA.out.cl w2 HE2.out 11 _ rfl
          have q12 := HA.out.cl w2 HE2.out 12 _ rfl
          simp only [Nat.zero_add] at q2 q3 q5 q6 q10 q11 q12
          rw [HOK.out] at q11
          clear p2 p3 p5 p6 p10 p11 p12
          go_wp2_with (first | go_guarded)
          go_ret
          refine ⟨?_, HE1.out.trans HE2.out⟩
          rw [HM.out]
          first | rfl | simp
        · have d6 : (c.k == 6) = false := by simp [h6]
          have HM : Hid (mayR T c = (ok == false)) := Lib.hid (by unfold mayR; simp [hok, hcl, h1, hz, h6, d6])
          have HCL := Lib.hid hcl
          have HOK := Lib.hid hok
          clear hok hcl h1 hz h6
          have p2 := HA.out.cl w1 (Ext.refl _) 2 _ rfl
          have p3 := HA.out.cl w1 (Ext.refl _) 3 _ rfl
          have p5 := HA.out.cl w1 (Ext.refl _) 5 _ rfl
          have p6 := HA.out.cl w1 (Ext.refl _) 6 _ rfl
          have p10 := HA.out.cl w1 (Ext.refl _) 10 _ rfl
          have p11 := HA.out.cl w1 (Ext.refl _) 11 _ rfl
          have p12 := HA.out.cl w1 (Ext.refl _) 12 _ rfl
          simp only [Nat.zero_add] at p2 p3 p5 p6 p10 p11 p12
          rw [HOK.out] at p11
          go_enter Try.func26, Try.ntmps26
          go_upto_region 1 with fail
          rw [← HW.out]
          go_wp2_with (first | go_guarded)
          refine (rClosed_any T a len cap b off _ (HV.out.ext HE1.out) hl).mono ?_
          rintro e w2 ⟨rfl, hE2⟩
          rw [HCL.out]
          have HE2 := Lib.hid hE2
          clear hE2
          have q2 := HA.out.cl w2 HE2.out 2 _ rfl
          have q3 := HA.out.cl w2 HE2.out 3 _ rfl
          have q5 := HA.out.cl w2 HE2.out 5 _ rfl
          have q6 := HA.out.cl w2 HE2.out 6 _ rfl
          have q10 := HA.out.cl w2 HE2.out 10 _ rfl
          have q11 := HA.out.cl w2 HE2.out 11 _ rfl
          have q12 := HA.out.cl w2 HE2.out 12 _ rfl
          simp only [Nat.zero_add] at q2 q3 q5 q6 q10 q11 q12
          rw [HOK.out] at q11
          clear p2 p3 p5 p6 p10 p11 p12
          go_wp2_with (first | go_guarded)
          go_ret
          refine ⟨?_, HE1.out.trans HE2.out⟩
          rw [HM.out]
          first | rfl | simp
      | false =>
        by_cases h2 : c.k = 2
        · have d2 : (c.k == 2) = true := by simp [h2]
          cases ok with
          | true =>
            obtain ⟨rc, hrc⟩ : ∃ rc, Lossy.right c.c = rc := ⟨_, rfl⟩
            have HRC := Lib.hid hrc
            cases rc with
            | true =>
              by_cases ht : 0 ≤ c.d
              · have dt : decide (0 ≤ c.d) = true := by simp [ht]
                have HM : Hid (mayR T c = true) := Lib.hid (by unfold mayR; simp [hok, hcl, h1, hz, h2, hrc, ht])
                have HCL := Lib.hid hcl
                have HOK := Lib.hid hok
                clear hok hcl h1 hz h2 hrc ht
                have p2 := HA.out.cl w1 (Ext.refl _) 2 _ rfl
                have p3 := HA.out.cl w1 (Ext.refl _) 3 _ rfl
                have p5 := HA.out.cl w1 (Ext.refl _) 5 _ rfl
                have p6 := HA.out.cl w1 (Ext.refl _) 6 _ rfl
                have p10 := HA.out.cl w1 (Ext.refl _) 10 _ rfl
                have p11 := HA.out.cl w1 (Ext.refl _) 11 _ rfl
                have p12 := HA.out.cl w1 (Ext.refl _) 12 _ rfl
                simp only [Nat.zero_add] at p2 p3 p5 p6 p10 p11 p12
                rw [HOK.out] at p11
                go_enter Try.func26, Try.ntmps26
                go_upto_region 1 with fail
                rw [← HW.out]
                go_wp2_with (first | go_guarded)
                refine (rClosed_any T a len cap b off _ (HV.out.ext HE1.out) hl).mono ?_
                rintro e w2 ⟨rfl, hE2⟩
                rw [HCL.out]
                have HE2 := Lib.hid hE2
                clear hE2
                have q2 := HA.out.cl w2 HE2.out 2 _ rfl
                have q3 := HA.out.cl w2 HE2.out 3 _ rfl
                have q5 := HA.out.cl w2 HE2.out 5 _ rfl
                have q6 := HA.out.cl w2 HE2.out 6 _ rfl
                have q10 := HA.out.cl w2 HE2.out 10 _ rfl
                have q11 := HA.out.cl w2 HE2.out 11 _ rfl
                have q12 := HA.out.cl w2 HE2.out 12 _ rfl
                simp only [Nat.zero_add] at q2 q3 q5 q6 q10 q11 q12
                rw [HOK.out] at q11
                clear p2 p3 p5 p6 p10 p11 p12
                go_wp2_with (first | go_guarded)
                refine (rCost_any _ _).mono ?_
                rw [HRC.out]
                rintro e w3 ⟨rfl, rfl⟩
                go_wp2_with (first | go_guarded)
                go_ret
                refine ⟨?_, HE1.out.trans HE2.out⟩
                rw [HM.out]
                first | rfl | simp
              · have dt : decide (0 ≤ c.d) = false := by simp [ht]
                have HM : Hid (mayR T c = false) := Lib.hid (by unfold mayR; simp [hok, hcl, h1, hz, h2, hrc, ht])
                have HCL := Lib.hid hcl
                have HOK := Lib.hid hok
                clear hok hcl h1 hz h2 hrc ht
                have p2 := HA.out.cl w1 (Ext.refl _) 2 _ rfl
                have p3 := HA.out.cl w1 (Ext.refl _) 3 _ rfl
                have p5 := HA.out.cl w1 (Ext.refl _) 5 _ rfl
                have p6 := HA.out.cl w1 (Ext.refl _) 6 _ rfl
                have p10 := HA.out.cl w1 (Ext.refl _) 10 _ rfl
                have p11 := HA.out.cl w1 (Ext.refl _) 11 _ rfl
                have p12 := HA.out.cl w1 (Ext.refl _) 12 _ rfl
                simp only [Nat.zero_add] at p2 p3 p5 p6 p10 p11 p12
                rw [HOK.out] at p11
                go_enter Try.func26, Try.ntmps26
                go_upto_region 1 with fail
                rw [← HW.out]
                go_wp2_with (first | go_guarded)
                refine (rClosed_any T a len cap b off _ (HV.out.ext HE1.out) hl).mono ?_
                rintro e w2 ⟨rfl, hE2⟩
                rw [HCL.out]
                have HE2 := Lib.hid hE2
                clear hE2
                have q2 := HA.out.cl w2 HE2.out 2 _ rfl
                have q3 := HA.out.cl w2 HE2.out 3 _ rfl
                have q5 := HA.out.cl w2 HE2.out 5 _ rfl
                have q6 := HA.out.cl w2 HE2.out 6 _ rfl
                have q10 := HA.out.cl w2 HE2.out 10 _ rfl
                have q11 := HA.out.cl w2 HE2.out 11 _ rfl
                have q12 := HA.out.cl w2 HE2.out 12 _ rfl
                simp only [Nat.zero_add] at q2 q3 q5 q6 q10 q11 q12
                rw [HOK.out] at q11
                clear p2 p3 p5 p6 p10 p11 p12
                go_wp2_with (first | go_guarded)
                refine (rCost_any _ _).mono ?_
                rw [HRC.out]
                rintro e w3 ⟨rfl, rfl⟩
                go_wp2_with (first | go_guarded)
                go_ret
                refine ⟨?_, HE1.out.trans HE2.out⟩
                rw [HM.out]
                first | rfl | simp
            | false =>
              have HM : Hid (mayR T c = false) := Lib.hid (by unfold mayR; simp [hok, hcl, h1, hz, h2, hrc])
              have HCL := Lib.hid hcl
              have HOK := Lib.hid hok
              clear hok hcl h1 hz h2 hrc
              have p2 := HA.out.cl w1 (Ext.refl _) 2 _ rfl
              have p3 := HA.out.cl w1 (Ext.refl _) 3 _ rfl
              have p5 := HA.out.cl w1 (Ext.refl _) 5 _ rfl
              have p6 := HA.out.cl w1 (Ext.refl _) 6 _ rfl
              have p10 := HA.out.cl w1 (Ext.refl _) 10 _ rfl
              have p11 := HA.out.cl w1 (Ext.refl _) 11 _ rfl
              have p12 := HA.out.cl w1 (Ext.refl _) 12 _ rfl
              simp only [Nat.zero_add] at p2 p3 p5 p6 p10 p11 p12
              rw [HOK.out] at p11
              go_enter Try.func26, Try.ntmps26
              go_upto_region 1 with fail
              rw [← HW.out]
              go_wp2_with (first | go_guarded)
              refine (rClosed_any T a len cap b off _ (HV.out.ext HE1.out) hl).mono ?_
              rintro e w2 ⟨rfl, hE2⟩
              rw [HCL.out]
              have HE2 := Lib.hid hE2
              clear hE2
              have q2 := HA.out.cl w2 HE2.out 2 _ rfl
              have q3 := HA.out.cl w2 HE2.out 3 _ rfl
              have q5 := HA.out.cl w2 HE2.out 5 _ rfl
              have q6 := HA.out.cl w2 HE2.out 6 _ rfl
              have q10 := HA.out.cl w2 HE2.out 10 _ rfl
              have q11 := HA.out.cl w2 HE2.out 11 _ rfl
              have q12 := HA.out.cl w2 HE2.out 12 _ rfl
              simp only [Nat.zero_add] at q2 q3 q5 q6 q10 q11 q12
              rw [HOK.out] at q11
              clear p2 p3 p5 p6 p10 p11 p12
              go_wp2_with (first | go_guarded)
              refine (rCost_any _ _).mono ?_
              rw [HRC.out]
              rintro e w3 ⟨rfl, rfl⟩
              go_wp2_with (first | go_guarded)
              go_ret
              refine ⟨?_, HE1.out.trans HE2.out⟩
              rw [HM.out]
              first | rfl | simp
          | false =>
            have HM : Hid (mayR T c = true) := Lib.hid (by unfold mayR; simp [hok, hcl, h1, hz, h2])
            have HCL := Lib.hid hcl
            have HOK := Lib.hid hok
            clear hok hcl h1 hz h2
            have p2 := HA.out.cl w1 (Ext.refl _) 2 _ rfl
            have p3 := HA.out.cl w1 (Ext.refl _) 3 _ rfl
            have p5 := HA.out.cl w1 (Ext.refl _) 5 _ rfl
            have p6 := HA.out.cl w1 (Ext.refl _) 6 _ rfl
            have p10 := HA.out.cl w1 (Ext.refl _) 10 _ rfl
            have p11 := HA.out.cl w1 (Ext.refl _) 11 _ rfl
            have p12 := HA.out.cl w1 (Ext.refl _) 12 _ rfl
            simp only [Nat.zero_add] at p2 p3 p5 p6 p10 p11 p12
            rw [HOK.out] at p11
            go_enter Try.func26, Try.ntmps26
            go_upto_region 1 with fail
            rw [← HW.out]
            go_wp2_with (first | go_guarded)
            refine (rClosed_any T a len cap b off _ (HV.out.ext HE1.out) hl).mono ?_
            rintro e w2 ⟨rfl, hE2⟩
            rw [HCL.out]
            have HE2 := Lib.hid hE2
            clear hE2
            have q2 := HA.out.cl w2 HE2.out 2 _ rfl
            have q3 := HA.out.cl w2 HE2.out 3 _ rfl
            have q5 := HA.out.cl w2 HE2.out 5 _ rfl
            have q6 := HA.out.cl w2 HE2.out 6 _ rfl
            have q10 := HA.out.cl w2 HE2.out 10 _ rfl
            have q11 := HA.out.cl w2 HE2.out 11 _ rfl
            have q12 := HA.out.cl w2 HE2.out 12 _ rfl
            simp only [Nat.zero_add] at q2 q3 q5 q6 q10 q11 q12
            rw [HOK.out] at q11
            clear p2 p3 p5 p6 p10 p11 p12
            go_wp2_with (first | go_guarded)
            go_ret
            refine ⟨?_, HE1.out.trans HE2.out⟩
            rw [HM.out]
            first | rfl | simp
        · have d2 : (c.k == 2) = false := by simp [h2]
          by_cases h7 : c.k = 7
          · have d7 : (c.k == 7) = true := by simp [h7]
            obtain ⟨rc, hrc⟩ : ∃ rc, Lossy.right c.c = rc := ⟨_, rfl⟩
            have HRC := Lib.hid hrc
            have HM : Hid (mayR T c = (ok == rc)) := Lib.hid (by unfold mayR; simp [hok, hcl, h1, hz, h2, h7, hrc])
            have HCL := Lib.hid hcl
            have HOK := Lib.hid hok
            clear hok hcl h1 hz h2 h7 hrc
            have p2 := HA.out.cl w1 (Ext.refl _) 2 _ rfl
            have p3 := HA.out.cl w1 (Ext.refl _) 3 _ rfl
            have p5 := HA.out.cl w1 (Ext.refl _) 5 _ rfl
            have p6 := HA.out.cl w1 (Ext.refl _) 6 _ rfl
            have p10 := HA.out.cl w1 (Ext.refl _) 10 _ rfl
            have p11 := HA.out.cl w1 (Ext.refl _) 11 _ rfl
            have p12 := HA.out.cl w1 (Ext.refl _) 12 _ rfl
            simp only [Nat.zero_add] at p2 p3 p5 p6 p10 p11 p12
            rw [HOK.out] at p11
            go_enter Try.func26, Try.ntmps26
            go_upto_region 1 with fail
            rw [← HW.out]
            go_wp2_with (first | go_guarded)
            refine (rClosed_any T a len cap b off _ (HV.out.ext HE1.out) hl).mono ?_
            rintro e w2 ⟨rfl, hE2⟩
            rw [HCL.out]
            have HE2 := Lib.hid hE2
            clear hE2
            have q2 := HA.out.cl w2 HE2.out 2 _ rfl
            have q3 := HA.out.cl w2 HE2.out 3 _ rfl
            have q5 := HA.out.cl w2 HE2.out 5 _ rfl
            have q6 := HA.out.cl w2 HE2.out 6 _ rfl
            have q10 := HA.out.cl w2 HE2.out 10 _ rfl
            have q11 := HA.out.cl w2 HE2.out 11 _ rfl
            have q12 := HA.out.cl w2 HE2.out 12 _ rfl
            simp only [Nat.zero_add] at q2 q3 q5 q6 q10 q11 q12
            rw [HOK.out] at q11
            clear p2 p3 p5 p6 p10 p11 p12
            go_wp2_with (first | go_guarded)
            refine wp_region_segsK [([1, 1, 2, 4], 0, 0), ([2, 3], 3, 6), ([2], 0, 0)] (by kernel_rfl) (by kernel_rfl) ?_
            apply segsK_pure
            · intro W
              simp only [runsT, runsF, rep, pick]
              go_wp2_with (first | go_guarded)
              exact ⟨rfl, rfl⟩
            simp only [runsT, runsF, rep, left]
            apply segsK_class
            · intro W hW
              have s5 := HA.out.cl W (HE2.out.trans ((Ext.drew _).trans hW)) 5 _ rfl
              have s11 := HA.out.cl W (HE2.out.trans ((Ext.drew _).trans hW)) 11 _ rfl
              simp only [Nat.zero_add] at s5 s11
              rw [HOK.out] at s11
              simp only [runsT, runsF, rep, pick]
              go_wp2_with (first | go_guarded)
              exact ⟨rfl, rfl⟩
            simp only [runsT, runsF, rep, left]
            go_wp2_with fail
            refine (rCost_any _ _).mono ?_
            rw [HRC.out]
            rintro e w3 ⟨rfl, rfl⟩
            go_wp2_with fail
            refine ⟨fun _ => Ext.refl _, ?_⟩
            apply segsK_pure
            · intro W
              simp only [runsT, runsF, rep, pick]
              go_wp2_with (first | go_guarded)
              exact ⟨rfl, rfl⟩
            simp only [runsT, runsF, rep, left]
            apply segsK_nil
            go_wp2_with fail
            go_ret
            refine ⟨?_, HE1.out.trans (HE2.out.trans (Ext.drew _))⟩
            rw [HM.out]
            first | rfl | simp
          · have d7 : (c.k == 7) = false := by simp [h7]
            by_cases h3 : 3 ≤ c.k
            · have d3 : decide (3 ≤ c.k) = true := by simp [h3]
              by_cases h6 : c.k ≤ 6
              · have d6 : decide (c.k ≤ 6) = true := by simp [h6]
                have HM : Hid (mayR T c = (ok == true)) := Lib.hid (by unfold mayR; simp [hok, hcl, h1, hz, h2, h7, h3, h6])
                have HCL := Lib.hid hcl
                have HOK := Lib.hid hok
                clear hok hcl h1 hz h2 h7 h3 h6
                have p2 := HA.out.cl w1 (Ext.refl _) 2 _ rfl
                have p3 := HA.out.cl w1 (Ext.refl _) 3 _ rfl
                have p5 := HA.out.cl w1 (Ext.refl _) 5 _ rfl
                have p6 := HA.out.cl w1 (Ext.refl _) 6 _ rfl
                have p10 := HA.out.cl w1 (Ext.refl _) 10 _ rfl
                have p11 := HA.out.cl w1 (Ext.refl _) 11 _ rfl
                have p12 := HA.out.cl w1 (Ext.refl _) 12 _ rfl
                simp only [Nat.zero_add] at p2 p3 p5 p6 p10 p11 p12
                rw [HOK.out] at p11
                go_enter Try.func26, Try.ntmps26
                go_upto_region 1 with fail
                rw [← HW.out]
                go_wp2_with (first | go_guarded)
                refine (rClosed_any T a len cap b off _ (HV.out.ext HE1.out) hl).mono ?_
                rintro e w2 ⟨rfl, hE2⟩
                rw [HCL.out]
                have HE2 := Lib.hid hE2
                clear hE2
                have q2 := HA.out.cl w2 HE2.out 2 _ rfl
                have q3 := HA.out.cl w2 HE2.out 3 _ rfl
                have q5 := HA.out.cl w2 HE2.out 5 _ rfl
                have q6 := HA.out.cl w2 HE2.out 6 _ rfl
                have q10 := HA.out.cl w2 HE2.out 10 _ rfl
                have q11 := HA.out.cl w2 HE2.out 11 _ rfl
                have q12 := HA.out.cl w2 HE2.out 12 _ rfl
                simp only [Nat.zero_add] at q2 q3 q5 q6 q10 q11 q12
                rw [HOK.out] at q11
                clear p2 p3 p5 p6 p10 p11 p12
                go_wp2_with (first | go_guarded)
                go_ret
                refine ⟨?_, HE1.out.trans HE2.out⟩
                rw [HM.out]
                first | rfl | simp
              · have d6 : decide (c.k ≤ 6) = false := by simp [h6]
                have HM : Hid (mayR T c = (ok == false)) := Lib.hid (by unfold mayR; simp [hok, hcl, h1, hz, h2, h7, h3, h6])
                have HCL := Lib.hid hcl
                have HOK := Lib.hid hok
                clear hok hcl h1 hz h2 h7 h3 h6
                have p2 := HA.out.cl w1 (Ext.refl _) 2 _ rfl
                have p3 := HA.out.cl w1 (Ext.refl _) 3 _ rfl
                have p5 := HA.out.cl w1 (Ext.refl _) 5 _ rfl
                have p6 := HA.out.cl w1 (Ext.refl _) 6 _ rfl
                have p10 := HA.out.cl w1 (Ext.refl _) 10 _ rfl
                have p11 := HA.out.cl w1 (Ext.refl _) 11 _ rfl
                have p12 := HA.out.cl w1 (Ext.refl _) 12 _ rfl
                simp only [Nat.zero_add] at p2 p3 p5 p6 p10 p11 p12
                rw [HOK.out] at p11
                go_enter Try.func26, Try.ntmps26
                go_upto_region 1 with fail
                rw [← HW.out]
                go_wp2_with (first | go_guarded)
                refine (rClosed_any T a len cap b off _ (HV.out.ext HE1.out) hl).mono ?_
                rintro e w2 ⟨rfl, hE2⟩
                rw [HCL.out]
                have HE2 := Lib.hid hE2
                clear hE2
                have q2 := HA.out.cl w2 HE2.out 2 _ rfl
                have q3 := HA.out.cl w2 HE2.out 3 _ rfl
                have q5 := HA.out.cl w2 HE2.out 5 _ rfl
                have q6 := HA.out.cl w2 HE2.out 6 _ rfl
                have q10 := HA.out.cl w2 HE2.out 10 _ rfl
                have q11 := HA.out.cl w2 HE2.out 11 _ rfl
                have q12 := HA.out.cl w2 HE2.out 12 _ rfl
                simp only [Nat.zero_add] at q2 q3 q5 q6 q10 q11 q12
                rw [HOK.out] at q11
                clear p2 p3 p5 p6 p10 p11 p12
                go_wp2_with (first | go_guarded)
                go_ret
                refine ⟨?_, HE1.out.trans HE2.out⟩
                rw [HM.out]
                first | rfl | simp
            · have d3 : decide (3 ≤ c.k) = false := by simp [h3]
              have HM : Hid (mayR T c = (ok == false)) := Lib.hid (by unfold mayR; simp [hok, hcl, h1, hz, h2, h7, h3])
              have HCL := Lib.hid hcl
              have HOK := Lib.hid hok
              clear hok hcl h1 hz h2 h7 h3
              have p2 := HA.out.cl w1 (Ext.refl _) 2 _ rfl
              have p3 := HA.out.cl w1 (Ext.refl _) 3 _ rfl
              have p5 := HA.out.cl w1 (Ext.refl _) 5 _ rfl
              have p6 := HA.out.cl w1 (Ext.refl _) 6 _ rfl
              have p10 := HA.out.cl w1 (Ext.refl _) 10 _ rfl
              have p11 := HA.out.cl w1 (Ext.refl _) 11 _ rfl
              have p12 := HA.out.cl w1 (Ext.refl _) 12 _ rfl
              simp only [Nat.zero_add] at p2 p3 p5 p6 p10 p11 p12
              rw [HOK.out] at p11
              go_enter Try.func26, Try.ntmps26
              go_upto_region 1 with fail
              rw [← HW.out]
              go_wp2_with (first | go_guarded)
              refine (rClosed_any T a len cap b off _ (HV.out.ext HE1.out) hl).mono ?_
              rintro e w2 ⟨rfl, hE2⟩
              rw [HCL.out]
              have HE2 := Lib.hid hE2
              clear hE2
              have q2 := HA.out.cl w2 HE2.out 2 _ rfl
              have q3 := HA.out.cl w2 HE2.out 3 _ rfl
              have q5 := HA.out.cl w2 HE2.out 5 _ rfl
              have q6 := HA.out.cl w2 HE2.out 6 _ rfl
              have q10 := HA.out.cl w2 HE2.out 10 _ rfl
              have q11 := HA.out.cl w2 HE2.out 11 _ rfl
              have q12 := HA.out.cl w2 HE2.out 12 _ rfl
              simp only [Nat.zero_add] at q2 q3 q5 q6 q10 q11 q12
              rw [HOK.out] at q11
              clear p2 p3 p5 p6 p10 p11 p12
              go_wp2_with (first | go_guarded)
              go_ret
              refine ⟨?_, HE1.out.trans HE2.out⟩
              rw [HM.out]
              first | rfl | simp
    · have dz : (c.val != 0) = true := by simp [hz]
      have HM : Hid (mayR T c = false) := Lib.hid (by unfold mayR; simp [hok, hcl, h1, hz])
      have HCL := Lib.hid hcl
      have HOK := Lib.hid hok
      clear hok hcl h1 hz
      have p2 := HA.out.cl w1 (Ext.refl _) 2 _ rfl
      have p3 := HA.out.cl w1 (Ext.refl _) 3 _ rfl
      have p5 := HA.out.cl w1 (Ext.refl _) 5 _ rfl
      have p6 := HA.out.cl w1 (Ext.refl _) 6 _ rfl
      have p10 := HA.out.cl w1 (Ext.refl _) 10 _ rfl
      have p11 := HA.out.cl w1 (Ext.refl _) 11 _ rfl
      have p12 := HA.out.cl w1 (Ext.refl _) 12 _ rfl
      simp only [Nat.zero_add] at p2 p3 p5 p6 p10 p11 p12
      rw [HOK.out] at p11
      go_enter Try.func26, Try.ntmps26
      go_upto_region 1 with fail
      rw [← HW.out]
      go_wp2_with (first | go_guarded)
      go_ret
      refine ⟨?_, HE1.out⟩
      rw [HM.out]
      first | rfl | simp
end Go.Proofs.Ytdfbfcglacalmaa.Hs
end

section
namespace Go.Proofs.Ytdfbfcglacalmaa.Hs
open Go.RowKit Go.Seg Go.Open Go.Lib Go.Arr Go.Stab Go.Row

theorem sel_lt (p : C → Bool) (S : List C) : ∀ y ∈ sel p S, y.2 < S.length := by
  intro y hy
  have h := (List.mem_filter.1 hy).1
  obtain ⟨i, hi, e⟩ := List.mem_iff_getElem.1 h
  rw [List.getElem_zipIdx] at e
  rw [List.length_zipIdx] at hi
  rw [← e]
  simpa using hi
/-- One more, put behind all that are not greater. -/
theorem put_done {key : C → Int} {p : C → Bool} {S : List C} {L A B : List (C × Nat)} {x : C} (h : Done key (sel p S) L) (e : L = A ++ B) (hx : p x = true) (hA : ∀ R z, A = R ++ [z] → key z.1 ≤ key x) (hB : ∀ z ∈ B, key x < key z.1) :
    Done key (sel p (S ++ [x])) (A ++ (x, S.length) :: B) := by
  rw [sel_yes S x hx]
  have hm := merge_right (x := (x, S.length)) (A := A) (B := B) (key := key) (by rw [← e]; exact h.2) hA (fun z R e' => hB z (by rw [e']; simp)) (fun y hy => by
    have : y ∈ L := by rw [e]; exact List.mem_append_left _ hy
    exact sel_lt p S y (h.1.mem_iff.1 this))
  refine ⟨hm.1.trans ?_, hm.2⟩
  rw [← e]
  exact h.1.append_right _

set_option maxRecDepth 100000 in
set_option maxHeartbeats 8000000 in
theorem rCounted_any (T : List C) (a : Option Addr) (len cap b off : Nat) (w : World) (hV : VC w a len b off T) (hl : len ≤ 60) :
    Calls Try.prog 8 #[.slice a len cap] w fun e w' => (∃ (a' : Option Addr) (n cap' b' : Nat) (L : List (C × Nat)), e = .returned (.slice a' n cap') ∧ n ≤ 60 ∧ n ≤ cap' ∧ VC w' a' n b' 0 (L.map Prod.fst) ∧ Done (fun x => x.at_) (sel (fun x => decide (0 ≤ x.at_)) T) L) ∧ Ext w w' := by
  have HV := Lib.hid hV
  clear hV
  go_enter Try.func8, Try.ntmps8
  go_wp2_with fail
  go_loopg [3, 4] len (fun g v s wr => ∃ (i : Nat) (S R : List C) (L : List (C × Nat)), s = .int .i64 i ∧ i ≤ len ∧ Hid (T = S ++ R ∧ S.length = i) ∧ Hid (RowG RC enc wr w.heap.size v (L.map Prod.fst) ∧ Done (fun x => x.at_) (sel (fun x => decide (0 ≤ x.at_)) S) L ∧ Ext w wr) ∧ len - i ≤ g)
  case atStart => exact ⟨0, [], T, [], rfl, Nat.zero_le _, Lib.hid ⟨rfl, rfl⟩, Lib.hid ⟨RowG.nil _ _, Done.refl List.Pairwise.nil, Ext.refl _⟩, Nat.le_refl _⟩
  case round =>
    obtain ⟨i, S, R, L, rfl, hi, HX, HR, hg⟩ := hrel
    obtain ⟨av, cv, rfl⟩ := HR.out.1.val
    obtain ⟨b', hvc, hnc, had, hno, hln⟩ := row_vc HR.out.1
    obtain ⟨n, hn⟩ : ∃ n, (L.map Prod.fst).length = n := ⟨_, rfl⟩
    rw [hn] at hvc hnc hno ⊢
    have HLn := Lib.hid (show L.length = n by rwa [List.length_map] at hn)
    have hni : n ≤ i := by
      have h1 := HR.out.2.1.1.length_eq
      have h2 := sel_len (fun x => decide (0 ≤ x.at_)) S
      have := HX.out.2
      have := HLn.out
      omega
    have HVL := Lib.hid hvc
    have HAD := Lib.hid had
    have HNO := Lib.hid hno
    have HRow := Lib.hid (show RowG RC enc wr w.heap.size (.slice av n cv) (L.map Prod.fst) by have := HR.out.1; rw [hn] at this; exact this)
    clear hn hvc had hno hln
    by_cases hil : i < len
    · have d0 : decide (i < len) = true := decide_eq_true hil
      obtain rfl := HV.out.ad (by omega)
      obtain ⟨x, R', rfl⟩ : ∃ x R', R = x :: R' := by
        cases R with
        | nil => have h1 := HX.out; have h2 := HV.out.len; rw [h1.1] at h2; simp at h2; omega
        | cons x R' => exact ⟨x, R', rfl⟩
      have HXA := Lib.hid (HV.out.at1 S R' x HX.out.1 i HX.out.2.symm)
      have xs := HXA.out.cl wr HR.out.2.2 8 _ rfl
      by_cases hneg : x.at_ < 0
      · have d1 : decide (x.at_ < 0) = true := decide_eq_true hneg
        have HS := Lib.hid (show sel (fun x => decide (0 ≤ x.at_)) (S ++ [x]) = sel (fun x => decide (0 ≤ x.at_)) S from sel_no S x (decide_eq_false (by omega)))
        clear hneg
        go_wp2_with fail
        go_roundg (len - (i + 1))
        case measure => omega
        case rel => exact ⟨i + 1, S ++ [x], R', L, by go_num, by omega, Lib.hid ⟨by rw [HX.out.1]; simp, by rw [List.length_append, HX.out.2]; rfl⟩, Lib.hid ⟨HRow.out, by rw [HS.out]; exact HR.out.2.1, HR.out.2.2⟩, Nat.le_refl _⟩
      have d1 : decide (x.at_ < 0) = false := decide_eq_false hneg
      have HPX := Lib.hid (show decide (0 ≤ x.at_) = true from decide_eq_true (by omega))
      clear hneg
      go_wp2_with fail
      clear xs d1
      go_loopg [5] n (fun g s wk => ∃ t : Nat, s = .int .i64 t ∧ t ≤ n ∧ Hid (Ext wr wk ∧ ∀ A B, L = A ++ B → A.length = t → ∀ z ∈ B, x.at_ < z.1.at_) ∧ t ≤ g)
      case atStart => exact ⟨n, rfl, Nat.le_refl _, Lib.hid ⟨Ext.refl _, fun A B e hA z hz => by
        have h1 := congrArg List.length e
        have h2 := HLn.out
        rw [List.length_append] at h1
        rw [List.eq_nil_of_length_eq_zero (show B.length = 0 by omega)] at hz
        cases hz⟩, Nat.le_refl _⟩
      case round =>
        obtain ⟨t, rfl, ht, HJ, hg2⟩ := hrel
        have HRowK := Lib.hid (HRow.out.ext HJ.out.1)
        have HVK := Lib.hid (HVL.out.ext HJ.out.1)
        have HEK := Lib.hid (HR.out.2.2.trans HJ.out.1)
        obtain ⟨bb, hbb⟩ : ∃ bb : Bool, (∃ A z B, L = A ++ z :: B ∧ A.length + 1 = t ∧ decide (x.at_ < z.1.at_) = bb) ∨ (t = 0 ∧ bb = false) := by
          by_cases h0 : t = 0
          · exact ⟨false, .inr ⟨h0, rfl⟩⟩
          · obtain ⟨A, z, B, e, hA⟩ := split_at L (t - 1) (by have := HLn.out; omega)
            exact ⟨_, .inl ⟨A, z, B, e, by omega, rfl⟩⟩
        have HBB := Lib.hid hbb
        clear hbb
        go_upto_region 7 with fail
        go_cut [35] (fun s wx => s = .bool bb ∧ wx = wr.drew)
        case first =>
          rcases HBB.out with ⟨A, z, B, e, hA, hd⟩ | ⟨h0, hd⟩
          · obtain ⟨tp, rfl⟩ : ∃ tp, t = tp + 1 := ⟨t - 1, by omega⟩
            have hz := HVK.out.at1 (A.map Prod.fst) (B.map Prod.fst) z.1 (by rw [e]; simp) tp (by rw [List.length_map]; omega)
            have zk := hz.cl wr.drew (Ext.drew _) 8 _ rfl
            have xk := HXA.out.cl wr.drew (HEK.out.trans (Ext.drew _)) 8 _ rfl
            obtain rfl := HVK.out.ad (by omega)
            simp only [Nat.zero_add] at zk
            have HDD := Lib.hid hd
            have e1 : (0 : Int) ≤ (tp : Int) := by omega
            have e2 : (tp : Int) < (n : Int) := by omega
            have dt' : decide ((0 : Int) < (tp : Int) + 1) = true := decide_eq_true (by omega)
            clear e hA hz hd
            refine wp_region_segsK [([8, 1, 4, 3], 0, 0), ([4], 2, 16)] (by kernel_rfl) (by kernel_rfl) ?_
            apply segsK_pure
            · intro W
              simp only [runsT, runsF, rep, pick]
              go_wp2_with fail
              exact ⟨rfl, rfl⟩
            simp only [runsT, runsF, rep, left]
            apply segsK_look
            · simp only [runsT, runsF, rep, pick]
              go_wp2_with fail
              exact ⟨rfl, rfl⟩
            simp only [runsT, runsF, rep, left]
            apply segsK_nil
            go_wp2_with fail
            go_meet
            exact ⟨by rw [HDD.out], rfl⟩
          · have HDD := Lib.hid hd
            subst h0
            clear hd
            refine wp_region_segsK [([8, 1, 4, 3], 0, 0), ([4], 2, 16)] (by kernel_rfl) (by kernel_rfl) ?_
            apply segsK_pure
            · intro W
              simp only [runsT, runsF, rep, pick]
              repeat (first | go_values | go_skip | go_guarded | go_step)
              exact ⟨rfl, rfl⟩
            simp only [runsT, runsF, rep, left]
            apply segsK_look
            · simp only [runsT, runsF, rep, pick]
              repeat (first | go_values | go_skip | go_guarded | go_step)
              exact ⟨rfl, rfl⟩
            simp only [runsT, runsF, rep, left]
            apply segsK_nil
            go_wp2_with fail
            go_meet
            exact ⟨by rw [HDD.out], rfl⟩
        case rest =>
        obtain ⟨rfl, rfl⟩ := hcut
        cases bb with
        | true =>
          have HT := Lib.hid (show 1 ≤ t by rcases HBB.out with ⟨A, z, B, e, hA, hd⟩ | ⟨h0, hd⟩; omega; cases hd)
          obtain ⟨tp, rfl⟩ : ∃ tp, t = tp + 1 := ⟨t - 1, by have := HT.out; omega⟩
          go_wp2_with fail
          go_roundg tp
          case measure => omega
          case rel =>
            refine ⟨tp, by congr 1, by omega, Lib.hid ⟨HJ.out.1.trans (Ext.drew _), fun A' B' e' hA' z' hz' => ?_⟩, Nat.le_refl _⟩
            rcases HBB.out with ⟨A, z, B, e, hA, hd⟩ | ⟨h0, hd⟩
            · obtain ⟨rfl, rfl⟩ := List.append_inj (e'.symm.trans e) (by omega)
              rcases List.mem_cons.1 hz' with rfl | hz'
              · exact of_decide_eq_true hd
              · exact HJ.out.2 (A' ++ [z]) B (by rw [e]; simp) (by simp; omega) z' hz'
            · cases hd
        | false =>
          obtain ⟨A, B, eAB, hA⟩ : ∃ A B, L = A ++ B ∧ A.length = t := ⟨L.take t, L.drop t, (List.take_append_drop _ _).symm, by have := HLn.out; rw [List.length_take]; omega⟩
          have HP := Lib.hid (show Done (fun x => x.at_) (sel (fun x => decide (0 ≤ x.at_)) (S ++ [x])) (A ++ (x, S.length) :: B) from put_done HR.out.2.1 eAB HPX.out (fun R z e => by
            rcases HBB.out with ⟨A', z', B', e', hA', hd⟩ | ⟨h0, hd⟩
            · rw [eAB, e, List.append_assoc] at e'
              have := uniq_at e' (by rw [e] at hA; simp at hA; omega)
              rw [this]
              have := of_decide_eq_false hd
              show z'.1.at_ ≤ x.at_
              omega
            · rw [e] at hA; simp at hA; omega) (HJ.out.2 A B eAB hA))
          have HAB := Lib.hid (And.intro eAB hA)
          have HMA := Lib.hid (show (A.map Prod.fst).length = t ∧ (B.map Prod.fst).length = n - t ∧ L.map Prod.fst = A.map Prod.fst ++ B.map Prod.fst by
            have h1 := HLn.out
            rw [eAB, List.length_append] at h1
            refine ⟨by rw [List.length_map, hA], by rw [List.length_map]; omega, by rw [eAB, List.map_append]⟩)
          have lx := HXA.out
          have n60 : n ≤ 60 := by omega
          clear eAB hA lx
          cases av with
          | none =>
            obtain ⟨rfl, rfl⟩ := HNO.out rfl
            obtain rfl : t = 0 := by omega
            go_wp2_with fail
            refine wp_region_segsE (Ext wr) (.quiet [0, 1, 3, 1, 4, 2, 3, 2] (.alt 0 (.alt 0 (.alt 0 (.alt 0 (.alt 0 (.quiet [1] .done) .stop) .stop) .stop) (.alt 1 (.alt 0 (.alt 0 (.alt 0 (.quiet [1] .done) .stop) .stop) .stop) .stop)) (.alt 2 (.alt 0 (.alt 0 (.alt 0 (.alt 0 (.quiet [1] .done) .stop) .stop) .stop) .stop) .stop))) (by kernel_rfl) (by kernel_rfl) ((Ext.drew wr).trans (Ext.drew wr.drew)) ?_
            apply segE_quiet
            · intro W hW
              have lx := HXA.out.ld W (HEK.out.trans hW)
              simp only [runsT, runsF, rep, pick]
              go_wp2_with (first | refine Arr.wpList_ldA rfl _ _ rfl _ lx ?_)
              exact ⟨rfl, rfl⟩
            simp only [runsT, runsF, rep, left]
            refine segE_alt _ rfl ?_ ?_
            · skip
              refine lit0C rfl rfl ?_
              intro a_0 c_0 w_0 h_0 s_0
              have H_0 := Lib.hid h_0
              have S_0 := Lib.hid s_0
              have XE_0 := Lib.hid (((Ext.drew wr).trans (Ext.drew wr.drew)).trans s_0)
              clear h_0 s_0
              go_wp2_with fail
              refine ⟨XE_0.out, ?_⟩
              try dsimp only [List.eraseIdx]
              refine segE_alt _ rfl ?_ ?_
              · skip
                refine appC rfl (.tmp 38) (.tmp 41) rfl _ _ [] rfl H_0.out _ _ _ (A.map Prod.fst) rfl HMA.out.1 (fun _ => ⟨rfl, rfl⟩) (fun ad had => by cases had) (by first | (simp; done) | (simp; omega)) XE_0.out.size ?_
                intro a_4 c_4 w_4 h_4 g_4
                obtain ⟨L4, hL4⟩ : ∃ L, [] ++ A.map Prod.fst = L := ⟨_, rfl⟩
                rw [hL4] at h_4 ⊢
                have l4 : L4.length ≤ 60 := by rw [← hL4, List.nil_append, HMA.out.1]; omega
                have HL4 := Lib.hid hL4
                have G_4 := Lib.hid g_4
                have H_4 := Lib.hid h_4
                have XE_4 := Lib.hid (ext_grown XE_0.out H_0.out (Nat.le_refl _) g_4)
                clear h_4 g_4 hL4
                go_wp2_with fail
                refine ⟨XE_4.out, ?_⟩
                try dsimp only [List.eraseIdx]
                refine segE_alt _ rfl ?_ ?_
                · skip
                  refine lit1C rfl (.tmp 46) rfl x rfl ?_
                  intro a_9 c_9 w_9 h_9 s_9
                  have H_9 := Lib.hid h_9
                  have S_9 := Lib.hid s_9
                  have XE_9 := Lib.hid (XE_4.out.trans s_9)
                  clear h_9 s_9
                  go_wp2_with fail
                  refine ⟨XE_9.out, ?_⟩
                  try dsimp only [List.eraseIdx]
                  refine segE_alt _ rfl ?_ ?_
                  · skip
                    refine appC2 rfl (.tmp 42) (.tmp 47) rfl _ _ L4 rfl (H_4.out.ext S_9.out) _ _ [x] rfl H_9.out (by first | omega | (simp; done) | (simp; omega)) XE_9.out.size ?_
                    intro a_10 c_10 w_10 h_10 g_10
                    obtain ⟨L10, hL10⟩ : ∃ L, L4 ++ [x] = L := ⟨_, rfl⟩
                    rw [hL10] at h_10 ⊢
                    have l10 : L10.length ≤ 61 := by rw [← hL10]; simp; omega
                    have HL10 := Lib.hid hL10
                    have G_10 := Lib.hid g_10
                    have H_10 := Lib.hid h_10
                    have XE_10 := Lib.hid (ext_grown XE_9.out (H_4.out.ext S_9.out) (Nat.le_refl _) g_10)
                    clear h_10 g_10 hL10
                    go_wp2_with fail
                    refine ⟨XE_10.out, ?_⟩
                    try dsimp only [List.eraseIdx]
                    refine segE_alt _ rfl ?_ ?_
                    · skip
                      refine appC rfl (.tmp 48) (.tmp 51) rfl _ _ L10 rfl H_10.out _ _ _ (B.map Prod.fst) rfl (by rw [HMA.out.2.1]; try omega) (fun _ => ⟨rfl, rfl⟩) (fun ad had => by cases had) (by first | omega | (simp; done) | (simp; omega)) XE_10.out.size ?_
                      intro a_14 c_14 w_14 h_14 g_14
                      obtain ⟨L14, hL14⟩ : ∃ L, L10 ++ B.map Prod.fst = L := ⟨_, rfl⟩
                      rw [hL14] at h_14 ⊢
                      have HL14 := Lib.hid (show (A ++ (x, S.length) :: B).map Prod.fst = L14 by rw [← hL14, ← HL10.out, ← HL4.out]; simp)
                      have H_14 := Lib.hid h_14
                      have XE_14 := Lib.hid (ext_grown XE_10.out H_10.out (Nat.le_refl _) g_14)
                      clear h_14 g_14 hL14
                      go_wp2_with fail
                      refine ⟨XE_14.out, ?_⟩
                      try dsimp only [List.eraseIdx]
                      apply segE_quiet
                      · intro W hW
                        simp only [runsT, runsF, rep, pick]
                        go_wp2_with (first | refine Arr.wpList_ldA rfl _ _ rfl _ lx ?_)
                        exact ⟨rfl, rfl⟩
                      simp only [runsT, runsF, rep, left]
                      apply segE_done
                      go_wp2_with fail
                      go_roundg (len - (i + 1))
                      case measure => omega
                      case rel => exact ⟨i + 1, S ++ [x], R', A ++ (x, S.length) :: B, by go_num, by omega, Lib.hid ⟨by rw [HX.out.1]; simp, by rw [List.length_append, HX.out.2]; rfl⟩, Lib.hid ⟨by rw [HL14.out]; exact Row.RowG.base H_14.out HEK.out.size, HP.out, HEK.out.trans XE_14.out⟩, Nat.le_refl _⟩
                    exact segE_stop
                  exact segE_stop
                exact segE_stop
              refine segE_alt _ rfl ?_ ?_
              · skip
                refine lit1C rfl (.tmp 46) rfl x rfl ?_
                intro a_9 c_9 w_9 h_9 s_9
                have H_9 := Lib.hid h_9
                have S_9 := Lib.hid s_9
                have XE_9 := Lib.hid (XE_0.out.trans s_9)
                clear h_9 s_9
                go_wp2_with fail
                refine ⟨XE_9.out, ?_⟩
                try dsimp only [List.eraseIdx]
                refine segE_alt _ rfl ?_ ?_
                · skip
                  refine appC rfl (.tmp 38) (.tmp 41) rfl _ _ [] rfl (H_0.out.ext S_9.out) _ _ _ (A.map Prod.fst) rfl HMA.out.1 (fun _ => ⟨rfl, rfl⟩) (fun ad had => by cases had) (by first | (simp; done) | (simp; omega)) XE_9.out.size ?_
                  intro a_4 c_4 w_4 h_4 g_4
                  obtain ⟨L4, hL4⟩ : ∃ L, [] ++ A.map Prod.fst = L := ⟨_, rfl⟩
                  rw [hL4] at h_4 ⊢
                  have l4 : L4.length ≤ 60 := by rw [← hL4, List.nil_append, HMA.out.1]; omega
                  have HL4 := Lib.hid hL4
                  have G_4 := Lib.hid g_4
                  have H_4 := Lib.hid h_4
                  have XE_4 := Lib.hid (ext_grown XE_9.out (H_0.out.ext S_9.out) (Nat.le_refl _) g_4)
                  clear h_4 g_4 hL4
                  go_wp2_with fail
                  refine ⟨XE_4.out, ?_⟩
                  try dsimp only [List.eraseIdx]
                  refine segE_alt _ rfl ?_ ?_
                  · skip
                    refine appC2 rfl (.tmp 42) (.tmp 47) rfl _ _ L4 rfl H_4.out _ _ [x] rfl (Row.Own.kept (R := RC) H_9.out G_4.out (fun k hk hk5 => by have h1 := Row.Own.lt (R := RC) H_9.out k hk; have h2 := Row.Own.lt (R := RC) H_0.out k hk5; omega)) (by first | omega | (simp; done) | (simp; omega)) XE_4.out.size ?_
                    intro a_10 c_10 w_10 h_10 g_10
                    obtain ⟨L10, hL10⟩ : ∃ L, L4 ++ [x] = L := ⟨_, rfl⟩
                    rw [hL10] at h_10 ⊢
                    have l10 : L10.length ≤ 61 := by rw [← hL10]; simp; omega
                    have HL10 := Lib.hid hL10
                    have G_10 := Lib.hid g_10
                    have H_10 := Lib.hid h_10
                    have XE_10 := Lib.hid (ext_grown XE_4.out H_4.out (Nat.le_refl _) g_10)
                    clear h_10 g_10 hL10
                    go_wp2_with fail
                    refine ⟨XE_10.out, ?_⟩
                    try dsimp only [List.eraseIdx]
                    refine segE_alt _ rfl ?_ ?_
                    · skip
                      refine appC rfl (.tmp 48) (.tmp 51) rfl _ _ L10 rfl H_10.out _ _ _ (B.map Prod.fst) rfl (by rw [HMA.out.2.1]; try omega) (fun _ => ⟨rfl, rfl⟩) (fun ad had => by cases had) (by first | omega | (simp; done) | (simp; omega)) XE_10.out.size ?_
                      intro a_14 c_14 w_14 h_14 g_14
                      obtain ⟨L14, hL14⟩ : ∃ L, L10 ++ B.map Prod.fst = L := ⟨_, rfl⟩
                      rw [hL14] at h_14 ⊢
                      have HL14 := Lib.hid (show (A ++ (x, S.length) :: B).map Prod.fst = L14 by rw [← hL14, ← HL10.out, ← HL4.out]; simp)
                      have H_14 := Lib.hid h_14
                      have XE_14 := Lib.hid (ext_grown XE_10.out H_10.out (Nat.le_refl _) g_14)
                      clear h_14 g_14 hL14
                      go_wp2_with fail
                      refine ⟨XE_14.out, ?_⟩
                      try dsimp only [List.eraseIdx]
                      apply segE_quiet
                      · intro W hW
                        simp only [runsT, runsF, rep, pick]
                        go_wp2_with (first | refine Arr.wpList_ldA rfl _ _ rfl _ lx ?_)
                        exact ⟨rfl, rfl⟩
                      simp only [runsT, runsF, rep, left]
                      apply segE_done
                      go_wp2_with fail
                      go_roundg (len - (i + 1))
                      case measure => omega
                      case rel => exact ⟨i + 1, S ++ [x], R', A ++ (x, S.length) :: B, by go_num, by omega, Lib.hid ⟨by rw [HX.out.1]; simp, by rw [List.length_append, HX.out.2]; rfl⟩, Lib.hid ⟨by rw [HL14.out]; exact Row.RowG.base H_14.out HEK.out.size, HP.out, HEK.out.trans XE_14.out⟩, Nat.le_refl _⟩
                    exact segE_stop
                  exact segE_stop
                exact segE_stop
              exact segE_stop
            refine segE_alt _ rfl ?_ ?_
            · skip
              refine lit1C rfl (.tmp 46) rfl x rfl ?_
              intro a_9 c_9 w_9 h_9 s_9
              have H_9 := Lib.hid h_9
              have S_9 := Lib.hid s_9
              have XE_9 := Lib.hid (((Ext.drew wr).trans (Ext.drew wr.drew)).trans s_9)
              clear h_9 s_9
              go_wp2_with fail
              refine ⟨XE_9.out, ?_⟩
              try dsimp only [List.eraseIdx]
              refine segE_alt _ rfl ?_ ?_
              · skip
                refine lit0C rfl rfl ?_
                intro a_0 c_0 w_0 h_0 s_0
                have H_0 := Lib.hid h_0
                have S_0 := Lib.hid s_0
                have XE_0 := Lib.hid (XE_9.out.trans s_0)
                clear h_0 s_0
                go_wp2_with fail
                refine ⟨XE_0.out, ?_⟩
                try dsimp only [List.eraseIdx]
                refine segE_alt _ rfl ?_ ?_
                · skip
                  refine appC rfl (.tmp 38) (.tmp 41) rfl _ _ [] rfl H_0.out _ _ _ (A.map Prod.fst) rfl HMA.out.1 (fun _ => ⟨rfl, rfl⟩) (fun ad had => by cases had) (by first | (simp; done) | (simp; omega)) S_0.out.size ?_
                  intro a_4 c_4 w_4 h_4 g_4
                  obtain ⟨L4, hL4⟩ : ∃ L, [] ++ A.map Prod.fst = L := ⟨_, rfl⟩
                  rw [hL4] at h_4 ⊢
                  have l4 : L4.length ≤ 60 := by rw [← hL4, List.nil_append, HMA.out.1]; omega
                  have HL4 := Lib.hid hL4
                  have G_4 := Lib.hid g_4
                  have H_4 := Lib.hid h_4
                  have XE_4 := Lib.hid (ext_grown XE_0.out H_0.out XE_9.out.size g_4)
                  clear h_4 g_4 hL4
                  go_wp2_with fail
                  refine ⟨XE_4.out, ?_⟩
                  try dsimp only [List.eraseIdx]
                  refine segE_alt _ rfl ?_ ?_
                  · skip
                    refine appC2 rfl (.tmp 42) (.tmp 47) rfl _ _ L4 rfl H_4.out _ _ [x] rfl (Row.Own.kept (R := RC) (H_9.out.ext S_0.out) G_4.out (fun k hk hk5 => by have h1 := Row.Own.lt (R := RC) H_9.out k hk; have h2 := Row.Own.lt (R := RC) H_0.out k hk5; omega)) (by first | omega | (simp; done) | (simp; omega)) (Nat.le_trans S_0.out.size G_4.out.size) ?_
                    intro a_10 c_10 w_10 h_10 g_10
                    obtain ⟨L10, hL10⟩ : ∃ L, L4 ++ [x] = L := ⟨_, rfl⟩
                    rw [hL10] at h_10 ⊢
                    have l10 : L10.length ≤ 61 := by rw [← hL10]; simp; omega
                    have HL10 := Lib.hid hL10
                    have G_10 := Lib.hid g_10
                    have H_10 := Lib.hid h_10
                    have XE_10 := Lib.hid (ext_grown XE_4.out H_4.out XE_9.out.size g_10)
                    clear h_10 g_10 hL10
                    go_wp2_with fail
                    refine ⟨XE_10.out, ?_⟩
                    try dsimp only [List.eraseIdx]
                    refine segE_alt _ rfl ?_ ?_
                    · skip
                      refine appC rfl (.tmp 48) (.tmp 51) rfl _ _ L10 rfl H_10.out _ _ _ (B.map Prod.fst) rfl (by rw [HMA.out.2.1]; try omega) (fun _ => ⟨rfl, rfl⟩) (fun ad had => by cases had) (by first | omega | (simp; done) | (simp; omega)) (Nat.le_trans S_0.out.size (Nat.le_trans G_4.out.size G_10.out.size)) ?_
                      intro a_14 c_14 w_14 h_14 g_14
                      obtain ⟨L14, hL14⟩ : ∃ L, L10 ++ B.map Prod.fst = L := ⟨_, rfl⟩
                      rw [hL14] at h_14 ⊢
                      have HL14 := Lib.hid (show (A ++ (x, S.length) :: B).map Prod.fst = L14 by rw [← hL14, ← HL10.out, ← HL4.out]; simp)
                      have H_14 := Lib.hid h_14
                      have XE_14 := Lib.hid (ext_grown XE_10.out H_10.out XE_9.out.size g_14)
                      clear h_14 g_14 hL14
                      go_wp2_with fail
                      refine ⟨XE_14.out, ?_⟩
                      try dsimp only [List.eraseIdx]
                      apply segE_quiet
                      · intro W hW
                        simp only [runsT, runsF, rep, pick]
                        go_wp2_with (first | refine Arr.wpList_ldA rfl _ _ rfl _ lx ?_)
                        exact ⟨rfl, rfl⟩
                      simp only [runsT, runsF, rep, left]
                      apply segE_done
                      go_wp2_with fail
                      go_roundg (len - (i + 1))
                      case measure => omega
                      case rel => exact ⟨i + 1, S ++ [x], R', A ++ (x, S.length) :: B, by go_num, by omega, Lib.hid ⟨by rw [HX.out.1]; simp, by rw [List.length_append, HX.out.2]; rfl⟩, Lib.hid ⟨by rw [HL14.out]; exact Row.RowG.base H_14.out (HEK.out.trans XE_9.out).size, HP.out, HEK.out.trans XE_14.out⟩, Nat.le_refl _⟩
                    exact segE_stop
                  exact segE_stop
                exact segE_stop
              exact segE_stop
            exact segE_stop
          | some ad =>
            obtain rfl := HAD.out ad rfl
            by_cases hct : cv = t
            · subst hct
              obtain rfl : n = cv := by omega
              go_wp2_with fail
              refine wp_region_segsE (Ext wr) (.quiet [0, 1, 3, 1, 4, 2, 3, 2] (.alt 0 (.alt 0 (.alt 0 (.alt 0 (.alt 0 (.quiet [1] .done) .stop) .stop) .stop) (.alt 1 (.alt 0 (.alt 0 (.alt 0 (.quiet [1] .done) .stop) .stop) .stop) .stop)) (.alt 2 (.alt 0 (.alt 0 (.alt 0 (.alt 0 (.quiet [1] .done) .stop) .stop) .stop) .stop) .stop))) (by kernel_rfl) (by kernel_rfl) ((Ext.drew wr).trans (Ext.drew wr.drew)) ?_
              apply segE_quiet
              · intro W hW
                have lx := HXA.out.ld W (HEK.out.trans hW)
                simp only [runsT, runsF, rep, pick]
                go_wp2_with (first | refine Arr.wpList_ldA rfl _ _ rfl _ lx ?_)
                exact ⟨rfl, rfl⟩
              simp only [runsT, runsF, rep, left]
              refine segE_alt _ rfl ?_ ?_
              · skip
                refine lit0C rfl rfl ?_
                intro a_0 c_0 w_0 h_0 s_0
                have H_0 := Lib.hid h_0
                have S_0 := Lib.hid s_0
                have XE_0 := Lib.hid (((Ext.drew wr).trans (Ext.drew wr.drew)).trans s_0)
                clear h_0 s_0
                go_wp2_with fail
                refine ⟨XE_0.out, ?_⟩
                try dsimp only [List.eraseIdx]
                refine segE_alt _ rfl ?_ ?_
                · skip
                  refine appC rfl (.tmp 38) (.tmp 41) rfl _ _ [] rfl H_0.out _ _ _ (A.map Prod.fst) rfl HMA.out.1 (fun h => by cases h) (fun ad had j hj => by cases had; exact (by have h := HVK.out.take (i := n) (by omega); rw [HMA.out.2.2, List.take_left' HMA.out.1] at h; exact h.flat XE_0.out hj)) (by first | (simp; done) | (simp; omega)) XE_0.out.size ?_
                  intro a_4 c_4 w_4 h_4 g_4
                  obtain ⟨L4, hL4⟩ : ∃ L, [] ++ A.map Prod.fst = L := ⟨_, rfl⟩
                  rw [hL4] at h_4 ⊢
                  have l4 : L4.length ≤ 60 := by rw [← hL4, List.nil_append, HMA.out.1]; omega
                  have HL4 := Lib.hid hL4
                  have G_4 := Lib.hid g_4
                  have H_4 := Lib.hid h_4
                  have XE_4 := Lib.hid (ext_grown XE_0.out H_0.out (Nat.le_refl _) g_4)
                  clear h_4 g_4 hL4
                  go_wp2_with fail
                  refine ⟨XE_4.out, ?_⟩
                  try dsimp only [List.eraseIdx]
                  refine segE_alt _ rfl ?_ ?_
                  · skip
                    refine lit1C rfl (.tmp 46) rfl x rfl ?_
                    intro a_9 c_9 w_9 h_9 s_9
                    have H_9 := Lib.hid h_9
                    have S_9 := Lib.hid s_9
                    have XE_9 := Lib.hid (XE_4.out.trans s_9)
                    clear h_9 s_9
                    go_wp2_with fail
                    refine ⟨XE_9.out, ?_⟩
                    try dsimp only [List.eraseIdx]
                    refine segE_alt _ rfl ?_ ?_
                    · skip
                      refine appC2 rfl (.tmp 42) (.tmp 47) rfl _ _ L4 rfl (H_4.out.ext S_9.out) _ _ [x] rfl H_9.out (by first | omega | (simp; done) | (simp; omega)) XE_9.out.size ?_
                      intro a_10 c_10 w_10 h_10 g_10
                      obtain ⟨L10, hL10⟩ : ∃ L, L4 ++ [x] = L := ⟨_, rfl⟩
                      rw [hL10] at h_10 ⊢
                      have l10 : L10.length ≤ 61 := by rw [← hL10]; simp; omega
                      have HL10 := Lib.hid hL10
                      have G_10 := Lib.hid g_10
                      have H_10 := Lib.hid h_10
                      have XE_10 := Lib.hid (ext_grown XE_9.out (H_4.out.ext S_9.out) (Nat.le_refl _) g_10)
                      clear h_10 g_10 hL10
                      go_wp2_with fail
                      refine ⟨XE_10.out, ?_⟩
                      try dsimp only [List.eraseIdx]
                      refine segE_alt _ rfl ?_ ?_
                      · skip
                        refine appC rfl (.tmp 48) (.tmp 51) rfl _ _ L10 rfl H_10.out _ _ _ (B.map Prod.fst) rfl (by rw [HMA.out.2.1]; try omega) (fun h => by cases h) (fun ad had j hj => absurd hj (by omega)) (by first | omega | (simp; done) | (simp; omega)) XE_10.out.size ?_
                        intro a_14 c_14 w_14 h_14 g_14
                        obtain ⟨L14, hL14⟩ : ∃ L, L10 ++ B.map Prod.fst = L := ⟨_, rfl⟩
                        rw [hL14] at h_14 ⊢
                        have HL14 := Lib.hid (show (A ++ (x, S.length) :: B).map Prod.fst = L14 by rw [← hL14, ← HL10.out, ← HL4.out]; simp)
                        have H_14 := Lib.hid h_14
                        have XE_14 := Lib.hid (ext_grown XE_10.out H_10.out (Nat.le_refl _) g_14)
                        clear h_14 g_14 hL14
                        go_wp2_with fail
                        refine ⟨XE_14.out, ?_⟩
                        try dsimp only [List.eraseIdx]
                        apply segE_quiet
                        · intro W hW
                          simp only [runsT, runsF, rep, pick]
                          go_wp2_with (first | refine Arr.wpList_ldA rfl _ _ rfl _ lx ?_)
                          exact ⟨rfl, rfl⟩
                        simp only [runsT, runsF, rep, left]
                        apply segE_done
                        go_wp2_with fail
                        go_roundg (len - (i + 1))
                        case measure => omega
                        case rel => exact ⟨i + 1, S ++ [x], R', A ++ (x, S.length) :: B, by go_num, by omega, Lib.hid ⟨by rw [HX.out.1]; simp, by rw [List.length_append, HX.out.2]; rfl⟩, Lib.hid ⟨by rw [HL14.out]; exact Row.RowG.base H_14.out HEK.out.size, HP.out, HEK.out.trans XE_14.out⟩, Nat.le_refl _⟩
                      exact segE_stop
                    exact segE_stop
                  exact segE_stop
                refine segE_alt _ rfl ?_ ?_
                · skip
                  refine lit1C rfl (.tmp 46) rfl x rfl ?_
                  intro a_9 c_9 w_9 h_9 s_9
                  have H_9 := Lib.hid h_9
                  have S_9 := Lib.hid s_9
                  have XE_9 := Lib.hid (XE_0.out.trans s_9)
                  clear h_9 s_9
                  go_wp2_with fail
                  refine ⟨XE_9.out, ?_⟩
                  try dsimp only [List.eraseIdx]
                  refine segE_alt _ rfl ?_ ?_
                  · skip
                    refine appC rfl (.tmp 38) (.tmp 41) rfl _ _ [] rfl (H_0.out.ext S_9.out) _ _ _ (A.map Prod.fst) rfl HMA.out.1 (fun h => by cases h) (fun ad had j hj => by cases had; exact (by have h := HVK.out.take (i := n) (by omega); rw [HMA.out.2.2, List.take_left' HMA.out.1] at h; exact h.flat XE_9.out hj)) (by first | (simp; done) | (simp; omega)) XE_9.out.size ?_
                    intro a_4 c_4 w_4 h_4 g_4
                    obtain ⟨L4, hL4⟩ : ∃ L, [] ++ A.map Prod.fst = L := ⟨_, rfl⟩
                    rw [hL4] at h_4 ⊢
                    have l4 : L4.length ≤ 60 := by rw [← hL4, List.nil_append, HMA.out.1]; omega
                    have HL4 := Lib.hid hL4
                    have G_4 := Lib.hid g_4
                    have H_4 := Lib.hid h_4
                    have XE_4 := Lib.hid (ext_grown XE_9.out (H_0.out.ext S_9.out) (Nat.le_refl _) g_4)
                    clear h_4 g_4 hL4
                    go_wp2_with fail
                    refine ⟨XE_4.out, ?_⟩
                    try dsimp only [List.eraseIdx]
                    refine segE_alt _ rfl ?_ ?_
                    · skip
                      refine appC2 rfl (.tmp 42) (.tmp 47) rfl _ _ L4 rfl H_4.out _ _ [x] rfl (Row.Own.kept (R := RC) H_9.out G_4.out (fun k hk hk5 => by have h1 := Row.Own.lt (R := RC) H_9.out k hk; have h2 := Row.Own.lt (R := RC) H_0.out k hk5; omega)) (by first | omega | (simp; done) | (simp; omega)) XE_4.out.size ?_
                      intro a_10 c_10 w_10 h_10 g_10
                      obtain ⟨L10, hL10⟩ : ∃ L, L4 ++ [x] = L := ⟨_, rfl⟩
                      rw [hL10] at h_10 ⊢
                      have l10 : L10.length ≤ 61 := by rw [← hL10]; simp; omega
                      have HL10 := Lib.hid hL10
                      have G_10 := Lib.hid g_10
                      have H_10 := Lib.hid h_10
                      have XE_10 := Lib.hid (ext_grown XE_4.out H_4.out (Nat.le_refl _) g_10)
                      clear h_10 g_10 hL10
                      go_wp2_with fail
                      refine ⟨XE_10.out, ?_⟩
                      try dsimp only [List.eraseIdx]
                      refine segE_alt _ rfl ?_ ?_
                      · skip
                        refine appC rfl (.tmp 48) (.tmp 51) rfl _ _ L10 rfl H_10.out _ _ _ (B.map Prod.fst) rfl (by rw [HMA.out.2.1]; try omega) (fun h => by cases h) (fun ad had j hj => absurd hj (by omega)) (by first | omega | (simp; done) | (simp; omega)) XE_10.out.size ?_
                        intro a_14 c_14 w_14 h_14 g_14
                        obtain ⟨L14, hL14⟩ : ∃ L, L10 ++ B.map Prod.fst = L := ⟨_, rfl⟩
                        rw [hL14] at h_14 ⊢
                        have HL14 := Lib.hid (show (A ++ (x, S.length) :: B).map Prod.fst = L14 by rw [← hL14, ← HL10.out, ← HL4.out]; simp)
                        have H_14 := Lib.hid h_14
                        have XE_14 := Lib.hid (ext_grown XE_10.out H_10.out (Nat.le_refl _) g_14)
                        clear h_14 g_14 hL14
                        go_wp2_with fail
                        refine ⟨XE_14.out, ?_⟩
                        try dsimp only [List.eraseIdx]
                        apply segE_quiet
                        · intro W hW
                          simp only [runsT, runsF, rep, pick]
                          go_wp2_with (first | refine Arr.wpList_ldA rfl _ _ rfl _ lx ?_)
                          exact ⟨rfl, rfl⟩
                        simp only [runsT, runsF, rep, left]
                        apply segE_done
                        go_wp2_with fail
                        go_roundg (len - (i + 1))
                        case measure => omega
                        case rel => exact ⟨i + 1, S ++ [x], R', A ++ (x, S.length) :: B, by go_num, by omega, Lib.hid ⟨by rw [HX.out.1]; simp, by rw [List.length_append, HX.out.2]; rfl⟩, Lib.hid ⟨by rw [HL14.out]; exact Row.RowG.base H_14.out HEK.out.size, HP.out, HEK.out.trans XE_14.out⟩, Nat.le_refl _⟩
                      exact segE_stop
                    exact segE_stop
                  exact segE_stop
                exact segE_stop
              refine segE_alt _ rfl ?_ ?_
              · skip
                refine lit1C rfl (.tmp 46) rfl x rfl ?_
                intro a_9 c_9 w_9 h_9 s_9
                have H_9 := Lib.hid h_9
                have S_9 := Lib.hid s_9
                have XE_9 := Lib.hid (((Ext.drew wr).trans (Ext.drew wr.drew)).trans s_9)
                clear h_9 s_9
                go_wp2_with fail
                refine ⟨XE_9.out, ?_⟩
                try dsimp only [List.eraseIdx]
                refine segE_alt _ rfl ?_ ?_
                · skip
                  refine lit0C rfl rfl ?_
                  intro a_0 c_0 w_0 h_0 s_0
                  have H_0 := Lib.hid h_0
                  have S_0 := Lib.hid s_0
                  have XE_0 := Lib.hid (XE_9.out.trans s_0)
                  clear h_0 s_0
                  go_wp2_with fail
                  refine ⟨XE_0.out, ?_⟩
                  try dsimp only [List.eraseIdx]
                  refine segE_alt _ rfl ?_ ?_
                  · skip
                    refine appC rfl (.tmp 38) (.tmp 41) rfl _ _ [] rfl H_0.out _ _ _ (A.map Prod.fst) rfl HMA.out.1 (fun h => by cases h) (fun ad had j hj => by cases had; exact (by have h := HVK.out.take (i := n) (by omega); rw [HMA.out.2.2, List.take_left' HMA.out.1] at h; exact h.flat XE_0.out hj)) (by first | (simp; done) | (simp; omega)) S_0.out.size ?_
                    intro a_4 c_4 w_4 h_4 g_4
                    obtain ⟨L4, hL4⟩ : ∃ L, [] ++ A.map Prod.fst = L := ⟨_, rfl⟩
                    rw [hL4] at h_4 ⊢
                    have l4 : L4.length ≤ 60 := by rw [← hL4, List.nil_append, HMA.out.1]; omega
                    have HL4 := Lib.hid hL4
                    have G_4 := Lib.hid g_4
                    have H_4 := Lib.hid h_4
                    have XE_4 := Lib.hid (ext_grown XE_0.out H_0.out XE_9.out.size g_4)
                    clear h_4 g_4 hL4
                    go_wp2_with fail
                    refine ⟨XE_4.out, ?_⟩
                    try dsimp only [List.eraseIdx]
                    refine segE_alt _ rfl ?_ ?_
                    · skip
                      refine appC2 rfl (.tmp 42) (.tmp 47) rfl _ _ L4 rfl H_4.out _ _ [x] rfl (Row.Own.kept (R := RC) (H_9.out.ext S_0.out) G_4.out (fun k hk hk5 => by have h1 := Row.Own.lt (R := RC) H_9.out k hk; have h2 := Row.Own.lt (R := RC) H_0.out k hk5; omega)) (by first | omega | (simp; done) | (simp; omega)) (Nat.le_trans S_0.out.size G_4.out.size) ?_
                      intro a_10 c_10 w_10 h_10 g_10
                      obtain ⟨L10, hL10⟩ : ∃ L, L4 ++ [x] = L := ⟨_, rfl⟩
                      rw [hL10] at h_10 ⊢
                      have l10 : L10.length ≤ 61 := by rw [← hL10]; simp; omega
                      have HL10 := Lib.hid hL10
                      have G_10 := Lib.hid g_10
                      have H_10 := Lib.hid h_10
                      have XE_10 := Lib.hid (ext_grown XE_4.out H_4.out XE_9.out.size g_10)
                      clear h_10 g_10 hL10
                      go_wp2_with fail
                      refine ⟨XE_10.out, ?_⟩
                      try dsimp only [List.eraseIdx]
                      refine segE_alt _ rfl ?_ ?_
                      · skip
                        refine appC rfl (.tmp 48) (.tmp 51) rfl _ _ L10 rfl H_10.out _ _ _ (B.map Prod.fst) rfl (by rw [HMA.out.2.1]; try omega) (fun h => by cases h) (fun ad had j hj => absurd hj (by omega)) (by first | omega | (simp; done) | (simp; omega)) (Nat.le_trans S_0.out.size (Nat.le_trans G_4.out.size G_10.out.size)) ?_
                        intro a_14 c_14 w_14 h_14 g_14
                        obtain ⟨L14, hL14⟩ : ∃ L, L10 ++ B.map Prod.fst = L := ⟨_, rfl⟩
                        rw [hL14] at h_14 ⊢
                        have HL14 := Lib.hid (show (A ++ (x, S.length) :: B).map Prod.fst = L14 by rw [← hL14, ← HL10.out, ← HL4.out]; simp)
                        have H_14 := Lib.hid h_14
                        have XE_14 := Lib.hid (ext_grown XE_10.out H_10.out XE_9.out.size g_14)
                        clear h_14 g_14 hL14
                        go_wp2_with fail
                        refine ⟨XE_14.out, ?_⟩
                        try dsimp only [List.eraseIdx]
                        apply segE_quiet
                        · intro W hW
                          simp only [runsT, runsF, rep, pick]
                          go_wp2_with (first | refine Arr.wpList_ldA rfl _ _ rfl _ lx ?_)
                          exact ⟨rfl, rfl⟩
                        simp only [runsT, runsF, rep, left]
                        apply segE_done
                        go_wp2_with fail
                        go_roundg (len - (i + 1))
                        case measure => omega
                        case rel => exact ⟨i + 1, S ++ [x], R', A ++ (x, S.length) :: B, by go_num, by omega, Lib.hid ⟨by rw [HX.out.1]; simp, by rw [List.length_append, HX.out.2]; rfl⟩, Lib.hid ⟨by rw [HL14.out]; exact Row.RowG.base H_14.out (HEK.out.trans XE_9.out).size, HP.out, HEK.out.trans XE_14.out⟩, Nat.le_refl _⟩
                      exact segE_stop
                    exact segE_stop
                  exact segE_stop
                exact segE_stop
              exact segE_stop
            · have htc : t < cv := by omega
              go_wp2_with fail
              refine wp_region_segsE (Ext wr) (.quiet [0, 1, 3, 1, 4, 2, 3, 2] (.alt 0 (.alt 0 (.alt 0 (.alt 0 (.alt 0 (.quiet [1] .done) .stop) .stop) .stop) (.alt 1 (.alt 0 (.alt 0 (.alt 0 (.quiet [1] .done) .stop) .stop) .stop) .stop)) (.alt 2 (.alt 0 (.alt 0 (.alt 0 (.alt 0 (.quiet [1] .done) .stop) .stop) .stop) .stop) .stop))) (by kernel_rfl) (by kernel_rfl) ((Ext.drew wr).trans (Ext.drew wr.drew)) ?_
              apply segE_quiet
              · intro W hW
                have lx := HXA.out.ld W (HEK.out.trans hW)
                simp only [runsT, runsF, rep, pick]
                go_wp2_with (first | refine Arr.wpList_ldA rfl _ _ rfl _ lx ?_)
                exact ⟨rfl, rfl⟩
              simp only [runsT, runsF, rep, left]
              refine segE_alt _ rfl ?_ ?_
              · skip
                refine lit0C rfl rfl ?_
                intro a_0 c_0 w_0 h_0 s_0
                have H_0 := Lib.hid h_0
                have S_0 := Lib.hid s_0
                have XE_0 := Lib.hid (((Ext.drew wr).trans (Ext.drew wr.drew)).trans s_0)
                clear h_0 s_0
                go_wp2_with fail
                refine ⟨XE_0.out, ?_⟩
                try dsimp only [List.eraseIdx]
                refine segE_alt _ rfl ?_ ?_
                · skip
                  refine appC rfl (.tmp 38) (.tmp 41) rfl _ _ [] rfl H_0.out _ _ _ (A.map Prod.fst) rfl HMA.out.1 (fun h => by cases h) (fun ad had j hj => by cases had; exact (by have h := HVK.out.take (i := t) (by omega); rw [HMA.out.2.2, List.take_left' HMA.out.1] at h; exact h.flat XE_0.out hj)) (by first | (simp; done) | (simp; omega)) XE_0.out.size ?_
                  intro a_4 c_4 w_4 h_4 g_4
                  obtain ⟨L4, hL4⟩ : ∃ L, [] ++ A.map Prod.fst = L := ⟨_, rfl⟩
                  rw [hL4] at h_4 ⊢
                  have l4 : L4.length ≤ 60 := by rw [← hL4, List.nil_append, HMA.out.1]; omega
                  have HL4 := Lib.hid hL4
                  have G_4 := Lib.hid g_4
                  have H_4 := Lib.hid h_4
                  have XE_4 := Lib.hid (ext_grown XE_0.out H_0.out (Nat.le_refl _) g_4)
                  clear h_4 g_4 hL4
                  go_wp2_with fail
                  refine ⟨XE_4.out, ?_⟩
                  try dsimp only [List.eraseIdx]
                  refine segE_alt _ rfl ?_ ?_
                  · skip
                    refine lit1C rfl (.tmp 46) rfl x rfl ?_
                    intro a_9 c_9 w_9 h_9 s_9
                    have H_9 := Lib.hid h_9
                    have S_9 := Lib.hid s_9
                    have XE_9 := Lib.hid (XE_4.out.trans s_9)
                    clear h_9 s_9
                    go_wp2_with fail
                    refine ⟨XE_9.out, ?_⟩
                    try dsimp only [List.eraseIdx]
                    refine segE_alt _ rfl ?_ ?_
                    · skip
                      refine appC2 rfl (.tmp 42) (.tmp 47) rfl _ _ L4 rfl (H_4.out.ext S_9.out) _ _ [x] rfl H_9.out (by first | omega | (simp; done) | (simp; omega)) XE_9.out.size ?_
                      intro a_10 c_10 w_10 h_10 g_10
                      obtain ⟨L10, hL10⟩ : ∃ L, L4 ++ [x] = L := ⟨_, rfl⟩
                      rw [hL10] at h_10 ⊢
                      have l10 : L10.length ≤ 61 := by rw [← hL10]; simp; omega
                      have HL10 := Lib.hid hL10
                      have G_10 := Lib.hid g_10
                      have H_10 := Lib.hid h_10
                      have XE_10 := Lib.hid (ext_grown XE_9.out (H_4.out.ext S_9.out) (Nat.le_refl _) g_10)
                      clear h_10 g_10 hL10
                      go_wp2_with fail
                      refine ⟨XE_10.out, ?_⟩
                      try dsimp only [List.eraseIdx]
                      refine segE_alt _ rfl ?_ ?_
                      · skip
                        refine appC rfl (.tmp 48) (.tmp 51) rfl _ _ L10 rfl H_10.out _ _ _ (B.map Prod.fst) rfl (by rw [HMA.out.2.1]; try omega) (fun h => by cases h) (fun ad had j hj => by cases had; exact (by have h := HVK.out.drop (i := t); rw [HMA.out.2.2, List.drop_left' HMA.out.1] at h; simp only [Nat.zero_add] at h; exact h.flat XE_10.out hj)) (by first | omega | (simp; done) | (simp; omega)) XE_10.out.size ?_
                        intro a_14 c_14 w_14 h_14 g_14
                        obtain ⟨L14, hL14⟩ : ∃ L, L10 ++ B.map Prod.fst = L := ⟨_, rfl⟩
                        rw [hL14] at h_14 ⊢
                        have HL14 := Lib.hid (show (A ++ (x, S.length) :: B).map Prod.fst = L14 by rw [← hL14, ← HL10.out, ← HL4.out]; simp)
                        have H_14 := Lib.hid h_14
                        have XE_14 := Lib.hid (ext_grown XE_10.out H_10.out (Nat.le_refl _) g_14)
                        clear h_14 g_14 hL14
                        go_wp2_with fail
                        refine ⟨XE_14.out, ?_⟩
                        try dsimp only [List.eraseIdx]
                        apply segE_quiet
                        · intro W hW
                          simp only [runsT, runsF, rep, pick]
                          go_wp2_with (first | refine Arr.wpList_ldA rfl _ _ rfl _ lx ?_)
                          exact ⟨rfl, rfl⟩
                        simp only [runsT, runsF, rep, left]
                        apply segE_done
                        go_wp2_with fail
                        go_roundg (len - (i + 1))
                        case measure => omega
                        case rel => exact ⟨i + 1, S ++ [x], R', A ++ (x, S.length) :: B, by go_num, by omega, Lib.hid ⟨by rw [HX.out.1]; simp, by rw [List.length_append, HX.out.2]; rfl⟩, Lib.hid ⟨by rw [HL14.out]; exact Row.RowG.base H_14.out HEK.out.size, HP.out, HEK.out.trans XE_14.out⟩, Nat.le_refl _⟩
                      exact segE_stop
                    exact segE_stop
                  exact segE_stop
                refine segE_alt _ rfl ?_ ?_
                · skip
                  refine lit1C rfl (.tmp 46) rfl x rfl ?_
                  intro a_9 c_9 w_9 h_9 s_9
                  have H_9 := Lib.hid h_9
                  have S_9 := Lib.hid s_9
                  have XE_9 := Lib.hid (XE_0.out.trans s_9)
                  clear h_9 s_9
                  go_wp2_with fail
                  refine ⟨XE_9.out, ?_⟩
                  try dsimp only [List.eraseIdx]
                  refine segE_alt _ rfl ?_ ?_
                  · skip
                    refine appC rfl (.tmp 38) (.tmp 41) rfl _ _ [] rfl (H_0.out.ext S_9.out) _ _ _ (A.map Prod.fst) rfl HMA.out.1 (fun h => by cases h) (fun ad had j hj => by cases had; exact (by have h := HVK.out.take (i := t) (by omega); rw [HMA.out.2.2, List.take_left' HMA.out.1] at h; exact h.flat XE_9.out hj)) (by first | (simp; done) | (simp; omega)) XE_9.out.size ?_
                    intro a_4 c_4 w_4 h_4 g_4
                    obtain ⟨L4, hL4⟩ : ∃ L, [] ++ A.map Prod.fst = L := ⟨_, rfl⟩
                    rw [hL4] at h_4 ⊢
                    have l4 : L4.length ≤ 60 := by rw [← hL4, List.nil_append, HMA.out.1]; omega
                    have HL4 := Lib.hid hL4
                    have G_4 := Lib.hid g_4
                    have H_4 := Lib.hid h_4
                    have XE_4 := Lib.hid (ext_grown XE_9.out (H_0.out.ext S_9.out) (Nat.le_refl _) g_4)
                    clear h_4 g_4 hL4
                    go_wp2_with fail
                    refine ⟨XE_4.out, ?_⟩
                    try dsimp only [List.eraseIdx]
                    refine segE_alt _ rfl ?_ ?_
                    · skip
                      refine appC2 rfl (.tmp 42) (.tmp 47) rfl _ _ L4 rfl H_4.out _ _ [x] rfl (Row.Own.kept (R := RC) H_9.out G_4.out (fun k hk hk5 => by have h1 := Row.Own.lt (R := RC) H_9.out k hk; have h2 := Row.Own.lt (R := RC) H_0.out k hk5; omega)) (by first | omega | (simp; done) | (simp; omega)) XE_4.out.size ?_
                      intro a_10 c_10 w_10 h_10 g_10
                      obtain ⟨L10, hL10⟩ : ∃ L, L4 ++ [x] = L := ⟨_, rfl⟩
                      rw [hL10] at h_10 ⊢
                      have l10 : L10.length ≤ 61 := by rw [← hL10]; simp; omega
                      have HL10 := Lib.hid hL10
                      have G_10 := Lib.hid g_10
                      have H_10 := Lib.hid h_10
                      have XE_10 := Lib.hid (ext_grown XE_4.out H_4.out (Nat.le_refl _) g_10)
                      clear h_10 g_10 hL10
                      go_wp2_with fail
                      refine ⟨XE_10.out, ?_⟩
                      try dsimp only [List.eraseIdx]
                      refine segE_alt _ rfl ?_ ?_
                      · skip
                        refine appC rfl (.tmp 48) (.tmp 51) rfl _ _ L10 rfl H_10.out _ _ _ (B.map Prod.fst) rfl (by rw [HMA.out.2.1]; try omega) (fun h => by cases h) (fun ad had j hj => by cases had; exact (by have h := HVK.out.drop (i := t); rw [HMA.out.2.2, List.drop_left' HMA.out.1] at h; simp only [Nat.zero_add] at h; exact h.flat XE_10.out hj)) (by first | omega | (simp; done) | (simp; omega)) XE_10.out.size ?_
                        intro a_14 c_14 w_14 h_14 g_14
                        obtain ⟨L14, hL14⟩ : ∃ L, L10 ++ B.map Prod.fst = L := ⟨_, rfl⟩
                        rw [hL14] at h_14 ⊢
                        have HL14 := Lib.hid (show (A ++ (x, S.length) :: B).map Prod.fst = L14 by rw [← hL14, ← HL10.out, ← HL4.out]; simp)
                        have H_14 := Lib.hid h_14
                        have XE_14 := Lib.hid (ext_grown XE_10.out H_10.out (Nat.le_refl _) g_14)
                        clear h_14 g_14 hL14
                        go_wp2_with fail
                        refine ⟨XE_14.out, ?_⟩
                        try dsimp only [List.eraseIdx]
                        apply segE_quiet
                        · intro W hW
                          simp only [runsT, runsF, rep, pick]
                          go_wp2_with (first | refine Arr.wpList_ldA rfl _ _ rfl _ lx ?_)
                          exact ⟨rfl, rfl⟩
                        simp only [runsT, runsF, rep, left]
                        apply segE_done
                        go_wp2_with fail
                        go_roundg (len - (i + 1))
                        case measure => omega
                        case rel => exact ⟨i + 1, S ++ [x], R', A ++ (x, S.length) :: B, by go_num, by omega, Lib.hid ⟨by rw [HX.out.1]; simp, by rw [List.length_append, HX.out.2]; rfl⟩, Lib.hid ⟨by rw [HL14.out]; exact Row.RowG.base H_14.out HEK.out.size, HP.out, HEK.out.trans XE_14.out⟩, Nat.le_refl _⟩
                      exact segE_stop
                    exact segE_stop
                  exact segE_stop
                exact segE_stop
              refine segE_alt _ rfl ?_ ?_
              · skip
                refine lit1C rfl (.tmp 46) rfl x rfl ?_
                intro a_9 c_9 w_9 h_9 s_9
                have H_9 := Lib.hid h_9
                have S_9 := Lib.hid s_9
                have XE_9 := Lib.hid (((Ext.drew wr).trans (Ext.drew wr.drew)).trans s_9)
                clear h_9 s_9
                go_wp2_with fail
                refine ⟨XE_9.out, ?_⟩
                try dsimp only [List.eraseIdx]
                refine segE_alt _ rfl ?_ ?_
                · skip
                  refine lit0C rfl rfl ?_
                  intro a_0 c_0 w_0 h_0 s_0
                  have H_0 := Lib.hid h_0
                  have S_0 := Lib.hid s_0
                  have XE_0 := Lib.hid (XE_9.out.trans s_0)
                  clear h_0 s_0
                  go_wp2_with fail
                  refine ⟨XE_0.out, ?_⟩
                  try dsimp only [List.eraseIdx]
                  refine segE_alt _ rfl ?_ ?_
                  · skip
                    refine appC rfl (.tmp 38) (.tmp 41) rfl _ _ [] rfl H_0.out _ _ _ (A.map Prod.fst) rfl HMA.out.1 (fun h => by cases h) (fun ad had j hj => by cases had; exact (by have h := HVK.out.take (i := t) (by omega); rw [HMA.out.2.2, List.take_left' HMA.out.1] at h; exact h.flat XE_0.out hj)) (by first | (simp; done) | (simp; omega)) S_0.out.size ?_
                    intro a_4 c_4 w_4 h_4 g_4
                    obtain ⟨L4, hL4⟩ : ∃ L, [] ++ A.map Prod.fst = L := ⟨_, rfl⟩
                    rw [hL4] at h_4 ⊢
                    have l4 : L4.length ≤ 60 := by rw [← hL4, List.nil_append, HMA.out.1]; omega
                    have HL4 := Lib.hid hL4
                    have G_4 := Lib.hid g_4
                    have H_4 := Lib.hid h_4
                    have XE_4 := Lib.hid (ext_grown XE_0.out H_0.out XE_9.out.size g_4)
                    clear h_4 g_4 hL4
                    go_wp2_with fail
                    refine ⟨XE_4.out, ?_⟩
                    try dsimp only [List.eraseIdx]
                    refine segE_alt _ rfl ?_ ?_
                    · skip
                      refine appC2 rfl (.tmp 42) (.tmp 47) rfl _ _ L4 rfl H_4.out _ _ [x] rfl (Row.Own.kept (R := RC) (H_9.out.ext S_0.out) G_4.out (fun k hk hk5 => by have h1 := Row.Own.lt (R := RC) H_9.out k hk; have h2 := Row.Own.lt (R := RC) H_0.out k hk5; omega)) (by first | omega | (simp; done) | (simp; omega)) (Nat.le_trans S_0.out.size G_4.out.size) ?_
                      intro a_10 c_10 w_10 h_10 g_10
                      obtain ⟨L10, hL10⟩ : ∃ L, L4 ++ [x] = L := ⟨_, rfl⟩
                      rw [hL10] at h_10 ⊢
                      have l10 : L10.length ≤ 61 := by rw [← hL10]; simp; omega
                      have HL10 := Lib.hid hL10
                      have G_10 := Lib.hid g_10
                      have H_10 := Lib.hid h_10
                      have XE_10 := Lib.hid (ext_grown XE_4.out H_4.out XE_9.out.size g_10)
                      clear h_10 g_10 hL10
                      go_wp2_with fail
                      refine ⟨XE_10.out, ?_⟩
                      try dsimp only [List.eraseIdx]
                      refine segE_alt _ rfl ?_ ?_
                      · skip
                        refine appC rfl (.tmp 48) (.tmp 51) rfl _ _ L10 rfl H_10.out _ _ _ (B.map Prod.fst) rfl (by rw [HMA.out.2.1]; try omega) (fun h => by cases h) (fun ad had j hj => by cases had; exact (by have h := HVK.out.drop (i := t); rw [HMA.out.2.2, List.drop_left' HMA.out.1] at h; simp only [Nat.zero_add] at h; exact h.flat XE_10.out hj)) (by first | omega | (simp; done) | (simp; omega)) (Nat.le_trans S_0.out.size (Nat.le_trans G_4.out.size G_10.out.size)) ?_
                        intro a_14 c_14 w_14 h_14 g_14
                        obtain ⟨L14, hL14⟩ : ∃ L, L10 ++ B.map Prod.fst = L := ⟨_, rfl⟩
                        rw [hL14] at h_14 ⊢
                        have HL14 := Lib.hid (show (A ++ (x, S.length) :: B).map Prod.fst = L14 by rw [← hL14, ← HL10.out, ← HL4.out]; simp)
                        have H_14 := Lib.hid h_14
                        have XE_14 := Lib.hid (ext_grown XE_10.out H_10.out XE_9.out.size g_14)
                        clear h_14 g_14 hL14
                        go_wp2_with fail
                        refine ⟨XE_14.out, ?_⟩
                        try dsimp only [List.eraseIdx]
                        apply segE_quiet
                        · intro W hW
                          simp only [runsT, runsF, rep, pick]
                          go_wp2_with (first | refine Arr.wpList_ldA rfl _ _ rfl _ lx ?_)
                          exact ⟨rfl, rfl⟩
                        simp only [runsT, runsF, rep, left]
                        apply segE_done
                        go_wp2_with fail
                        go_roundg (len - (i + 1))
                        case measure => omega
                        case rel => exact ⟨i + 1, S ++ [x], R', A ++ (x, S.length) :: B, by go_num, by omega, Lib.hid ⟨by rw [HX.out.1]; simp, by rw [List.length_append, HX.out.2]; rfl⟩, Lib.hid ⟨by rw [HL14.out]; exact Row.RowG.base H_14.out (HEK.out.trans XE_9.out).size, HP.out, HEK.out.trans XE_14.out⟩, Nat.le_refl _⟩
                      exact segE_stop
                    exact segE_stop
                  exact segE_stop
                exact segE_stop
              exact segE_stop
    · obtain rfl : i = len := by omega
      have d0 : decide (i < i) = false := decide_eq_false (by omega)
      go_wp2_with fail
      go_ret
      have e : T = S := by
        have h1 := HX.out
        have h2 := HV.out.len
        rw [h1.1, List.length_append] at h2
        rw [h1.1, List.eq_nil_of_length_eq_zero (show R.length = 0 by omega), List.append_nil]
      exact ⟨⟨av, n, cv, b', L, rfl, by omega, hnc, HVL.out, by rw [e]; exact HR.out.2.1⟩, HR.out.2.2⟩

end Go.Proofs.Ytdfbfcglacalmaa.Hs
end

section
namespace Go.Proofs.Ytdfbfcglacalmaa.Hs
open Go.RowKit Go.Seg Go.Open Go.Lib Go.Arr Go.Stab Go.Row

/-- All calls may answer as they do. -/
def GoodR (T : List C) : Prop := ∀ S x R, T = S ++ x :: R → mayR S x = true
set_option maxRecDepth 100000 in
set_option maxHeartbeats 4000000 in
theorem rReplay_any (T : List C) (a : Option Addr) (len cap b off : Nat) (w : World) (hV : VC w a len b off T) (hl : len ≤ 60) (hc : len ≤ cap) :
    Calls Try.prog 16 #[.slice a len cap] w fun e w' => (∃ m : Nat, e = .returned (.int .i64 m) ∧ m ≤ len ∧ (m = len ↔ GoodR T)) ∧ Ext w w' := by
  have HV := Lib.hid hV
  clear hV
  go_enter Try.func16, Try.ntmps16
  go_wp2_with fail
  go_loopg [3] len (fun g s wr => ∃ i : Nat, s = .int .i64 i ∧ i ≤ len ∧ Hid (Ext w wr ∧ ∀ S x R, T = S ++ x :: R → S.length < i → mayR S x = true) ∧ len - i ≤ g)
  case atStart => exact ⟨0, rfl, Nat.zero_le _, Lib.hid ⟨Ext.refl _, fun S x R _ h => by omega⟩, Nat.le_refl _⟩
  case round =>
    obtain ⟨i, rfl, hi, HR, hg⟩ := hrel
    by_cases hil : i < len
    · have d0 : decide (i < len) = true := decide_eq_true hil
      obtain rfl := HV.out.ad (by omega)
      obtain ⟨S, x, R, eT, hS, hx⟩ := HV.out.get hil
      have HX := Lib.hid (And.intro eT hS)
      have hd : Ext w wr.drew := HR.out.1.trans (Ext.drew _)
      have lx := hx.ld wr.drew hd
      have HTK := Lib.hid (show VC wr.drew (some ⟨b, off, none⟩) i b off S by
        have h := (HV.out.ext hd).take hi
        rw [eT, List.take_left' hS] at h
        exact h)
      have bi : i ≤ cap := by omega
      have bi' : (i : Int) ≤ (cap : Int) := by omega
      obtain ⟨q, hq⟩ : ∃ q, mayR S x = q := ⟨_, rfl⟩
      have HQ := Lib.hid hq
      have HD := Lib.hid hd
      clear hx eT hS hq hd
      cases q with
      | false =>
        go_wp2_with fail
        refine wp_region_segsK [([6, 3], 0, 0), ([1, 2], 2, 7), ([1, 1], 1, 0), ([1], 0, 0)] (by kernel_rfl) (by kernel_rfl) ?_
        apply segsK_pure
        · intro W
          simp only [runsT, runsF, rep, pick]
          go_wp2_with (first | go_guarded | refine Arr.wpList_ldA rfl _ _ rfl _ lx ?_)
          exact ⟨rfl, rfl⟩
        simp only [runsT, runsF, rep, left]
        apply segsK_look
        · simp only [runsT, runsF, rep, pick]
          go_wp2_with (first | go_guarded | refine Arr.wpList_ldA rfl _ _ rfl _ lx ?_)
          exact ⟨rfl, rfl⟩
        simp only [runsT, runsF, rep, left]
        apply segsK_op
        go_wp2_with fail
        refine (rMay_any S _ i cap b off x _ HTK.out (by omega)).mono ?_
        rw [HQ.out]
        rintro e w5 ⟨rfl, hE5⟩
        have HE5 := Lib.hid hE5
        clear hE5
        go_wp2_with fail
        refine ⟨fun h => (by cases h), ?_⟩
        apply segsK_pure
        · intro W
          simp only [runsT, runsF, rep, pick]
          go_wp2_with (first | go_guarded | refine Arr.wpList_ldA rfl _ _ rfl _ lx ?_)
          exact ⟨rfl, rfl⟩
        simp only [runsT, runsF, rep, left]
        apply segsK_nil
        go_wp2_with fail
        go_ret
        refine ⟨⟨i, rfl, hi, ⟨fun h => absurd h (by omega), fun h => ?_⟩⟩, HD.out.trans HE5.out⟩
        have := h S x R HX.out.1
        rw [HQ.out] at this
        cases this
      | true =>
        go_wp2_with fail
        refine wp_region_segsK [([6, 3], 0, 0), ([1, 2], 2, 7), ([1, 1], 1, 0), ([1], 0, 0)] (by kernel_rfl) (by kernel_rfl) ?_
        apply segsK_pure
        · intro W
          simp only [runsT, runsF, rep, pick]
          go_wp2_with (first | go_guarded | refine Arr.wpList_ldA rfl _ _ rfl _ lx ?_)
          exact ⟨rfl, rfl⟩
        simp only [runsT, runsF, rep, left]
        apply segsK_look
        · simp only [runsT, runsF, rep, pick]
          go_wp2_with (first | go_guarded | refine Arr.wpList_ldA rfl _ _ rfl _ lx ?_)
          exact ⟨rfl, rfl⟩
        simp only [runsT, runsF, rep, left]
        apply segsK_op
        go_wp2_with fail
        refine (rMay_any S _ i cap b off x _ HTK.out (by omega)).mono ?_
        rw [HQ.out]
        rintro e w5 ⟨rfl, hE5⟩
        have HE5 := Lib.hid hE5
        clear hE5
        go_wp2_with fail
        refine ⟨fun h => (by cases h), ?_⟩
        apply segsK_pure
        · intro W
          simp only [runsT, runsF, rep, pick]
          go_wp2_with (first | go_guarded | refine Arr.wpList_ldA rfl _ _ rfl _ lx ?_)
          exact ⟨rfl, rfl⟩
        simp only [runsT, runsF, rep, left]
        apply segsK_nil
        go_wp2_with fail
        go_roundg (len - (i + 1))
        case measure => omega
        case rel =>
          refine ⟨i + 1, by go_num, by omega, Lib.hid ⟨HD.out.trans HE5.out, fun S' x' R' e' hlt => ?_⟩, Nat.le_refl _⟩
          by_cases hlt2 : S'.length < i
          · exact HR.out.2 S' x' R' e' hlt2
          · obtain ⟨rfl, rfl, rfl⟩ := split_uniq (HX.out.1.symm.trans e') (by have := HX.out.2; omega)
            exact HQ.out
    · obtain rfl : i = len := by omega
      have d0 : decide (i < i) = false := decide_eq_false (by omega)
      go_wp2_with fail
      go_ret
      exact ⟨⟨i, rfl, Nat.le_refl _, ⟨fun _ S x R e => HR.out.2 S x R e (by have := HV.out.len; rw [e] at this; simp at this; omega), fun _ => rfl⟩⟩, HR.out.1⟩
end Go.Proofs.Ytdfbfcglacalmaa.Hs
end

section
namespace Go.Proofs.Ytdfbfcglacalmaa.Hs
open Rk Lossy

theorem runS_snoc (s : St) (S : List C) (x : C) : runS s (S ++ [x]) = afterS (runS s S) x := by
  induction S generalizing s with
  | nil => rfl
  | cons y S ih => exact ih _
theorem snoc_cases (l : List C) : l = [] ∨ ∃ S x, l = S ++ [x] := by
  by_cases h : l = []
  · exact .inl h
  · exact .inr ⟨l.dropLast, l.getLast h, (List.dropLast_concat_getLast h).symm⟩
theorem runS_st : ∀ (n : Nat) (l : List C) (F : Nat → Lossy.C), l.length = n → (∀ i (h : i < l.length), F i = toLo l[i]) → runS s0 l = Lossy.st F n
  | 0, l, F, hl, _ => by rw [List.eq_nil_of_length_eq_zero hl]; rfl
  | n + 1, l, F, hl, hF => by
    rcases snoc_cases l with rfl | ⟨S, x, rfl⟩
    · simp at hl
    · have hS : S.length = n := by simpa using hl
      have h1 := runS_st n S F hS (fun i h => by
        have := hF i (by simp; omega)
        rwa [List.getElem_append_left h] at this)
      have h2 := hF n (by simp; omega)
      rw [List.getElem_append_right (by omega)] at h2
      rw [runS_snoc, h1]
      simp only [Lossy.st, afterS]
      congr 1
      rw [h2]
      simp [hS]
theorem runS_up (l : List C) : Up Rk.cint (runS s0 l).1.toL := by
  rw [runS_st l.length l (fun i => toLo (l.getD i default)) rfl (fun i h => by simp [List.getD_eq_getElem?_getD, h])]
  exact Lossy.st_up _ _
theorem there_look (n : Nat) : ∀ (l : List C) (key : Int), l.length = n → Rk.look Rk.cint key (runS s0 l).1.toL = thereR l key := by
  induction n with
  | zero => intro l key hl; rw [List.eq_nil_of_length_eq_zero hl]; rfl
  | succ n ih =>
    intro l key hl
    rcases snoc_cases l with rfl | ⟨S, x, rfl⟩
    · simp at hl
    · have hi := ih S key (by simpa using hl)
      have hu := runS_up S
      rw [runS_snoc, there_snoc, ← hi]
      unfold afterS Lossy.after
      by_cases hok : x.ok = false
      · rw [if_pos (show (toLo x).ok = false from hok), if_pos hok]
      · rw [if_neg (show ¬ (toLo x).ok = false from hok), if_neg hok]
        show Rk.look Rk.cint key (if x.k = 2 then _ else _ : Th × Bool).1.toL = _
        by_cases h2 : x.k = 2
        · rw [if_pos h2, if_neg (by omega)]
          simp only [toL_put cint_lawful _ _ _ hu]
          by_cases hk : x.a = key
          · rw [if_pos ⟨h2, hk⟩, show (toLo x).ky = key from hk, look_ins_self cint_lawful]
            rfl
          · rw [if_neg (fun h => hk h.2), look_ins_ne cint_lawful (toLo x).ky key _ (cint_ne (show key ≠ (toLo x).ky from Ne.symm hk))]
        · rw [if_neg h2]
          show Rk.look Rk.cint key (if x.k = 3 then _ else _ : Th × Bool).1.toL = _
          by_cases h3 : x.k = 3
          · rw [if_pos h3]
            simp only [toL_drop cint_lawful _ _ hu]
            by_cases hk : x.a = key
            · rw [if_pos (.inr (.inr ⟨h3, hk⟩)), show (toLo x).ky = key from hk, look_del_self cint_lawful _ _ hu]
            · rw [if_neg (by omega), if_neg (by omega), look_del_ne cint_lawful (toLo x).ky key (cint_ne (show key ≠ (toLo x).ky from Ne.symm hk))]
          · rw [if_neg h3]
            show Rk.look Rk.cint key (if x.k = 6 then _ else _ : Th × Bool).1.toL = _
            by_cases h6 : x.k = 6
            · rw [if_pos h6, if_pos (.inr (.inl h6))]; rfl
            · rw [if_neg h6]
              show Rk.look Rk.cint key (if x.k = 5 then _ else _ : Th × Bool).1.toL = _
              by_cases h5 : x.k = 5
              · rw [if_pos h5, if_pos (.inl h5)]; rfl
              · rw [if_neg h5, if_neg (by omega), if_neg (by omega)]
theorem closed_run (n : Nat) : ∀ (l : List C), l.length = n → (runS s0 l).2 = closedR l := by
  induction n with
  | zero => intro l hl; rw [List.eq_nil_of_length_eq_zero hl]; rfl
  | succ n ih =>
    intro l hl
    rcases snoc_cases l with rfl | ⟨S, x, rfl⟩
    · simp at hl
    · have hi := ih S (by simpa using hl)
      have e : closedR (S ++ [x]) = (closedR S || (x.k == 6 && x.ok)) := by unfold closedR; rw [List.any_append, List.any_cons, List.any_nil, Bool.or_false]
      rw [runS_snoc, e, ← hi]
      unfold afterS Lossy.after
      show (if x.ok = false then _ else if x.k = 2 then _ else if x.k = 3 then _ else if x.k = 6 then _ else if x.k = 5 then _ else _ : Th × Bool).2 = _
      by_cases hok : x.ok = false
      · rw [if_pos hok, hok]; simp
      · rw [if_neg hok]
        have hok' : x.ok = true := by simpa using hok
        rw [hok']
        by_cases h2 : x.k = 2
        · rw [if_pos h2]; simp [h2]
        · rw [if_neg h2]
          by_cases h3 : x.k = 3
          · rw [if_pos h3]; simp [h3]
          · rw [if_neg h3]
            by_cases h6 : x.k = 6
            · rw [if_pos h6]; simp [h6]
            · rw [if_neg h6]
              by_cases h5 : x.k = 5
              · rw [if_pos h5]; simp [h5]
              · rw [if_neg h5]; simp [h6]
theorem may_same (S : List C) (x : C) : mayR S x = mayS (runS s0 S) x := by
  have hc := closed_run S.length S rfl
  have hl := there_look S.length S x.a rfl
  have hu := runS_up S
  have hg : Lossy.mget (runS s0 S).1 x.a x.tick = getR S x.a x.tick := by
    unfold Lossy.mget getR
    rw [get_toL cint_lawful _ _ hu, hl]
    cases thereR S x.a <;> rfl
  unfold mayS Lossy.may Lossy.mhit Lossy.must mayR
  show _ = (if (if (runS s0 S).2 = true then (x.k == 6, true) else if x.k = 2 then (false, !Lossy.right x.c || decide (x.d < 0)) else if x.k = 7 then (Lossy.right x.c, true) else if x.k = 1 then (false, false) else (decide (0 < x.k) && decide (x.k < 7), true)).2 = true ∧ (x.ok != (if (runS s0 S).2 = true then (x.k == 6, true) else if x.k = 2 then (false, !Lossy.right x.c || decide (x.d < 0)) else if x.k = 7 then (Lossy.right x.c, true) else if x.k = 1 then (false, false) else (decide (0 < x.k) && decide (x.k < 7), true)).1) = true then false else if x.k ≠ 1 ∨ x.ok = false then x.val == 0 else match Lossy.mget (runS s0 S).1 x.a x.tick with | some v => v == x.val | none => false)
  rw [hc, hg]
  cases hok : x.ok <;> cases hcl : closedR S <;> by_cases hz : x.val = 0 <;> by_cases h1 : x.k = 1 <;> by_cases h2 : x.k = 2 <;> by_cases h7 : x.k = 7 <;> by_cases h6 : x.k = 6 <;> (try omega) <;> simp_all
  all_goals
    first
    | (cases getR S x.a x.tick <;> rfl)
    | (rw [Bool.eq_iff_iff]; simp; done)
    | (rw [Bool.eq_iff_iff]; simp; omega)
end Go.Proofs.Ytdfbfcglacalmaa.Hs
end
