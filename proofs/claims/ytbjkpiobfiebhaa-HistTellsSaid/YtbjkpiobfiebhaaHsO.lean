/-
  Histories: calls that came in; the walk of HistCounts.
  At most 60 calls (the law's own guard); no other condition.
-/
import Derived.Test.YtbjkpiobfiebhaaHsN
namespace Go.Proofs.Ytbjkpiobfiebhaa.Hs
open Go.RowKit Go.Seg Go.Open Go.Lib Go.Arr Go.Stab Go.Row

theorem fits_enc {cs : List Value} (h : FitsAll [.i .i64, .i .i64, .i .i64, .i .i64, .i .i64, .i .i64, .i .i64, .i .i64, .i .i64, .i .i64, .i .i64, .b, .i .i64] cs) : ∃ x : C, cs = enc x := by
  obtain ⟨_, _, rfl, ⟨x0, rfl, _⟩, h0⟩ := fitsAll_cons h
  obtain ⟨_, _, rfl, ⟨x1, rfl, _⟩, h1⟩ := fitsAll_cons h0
  obtain ⟨_, _, rfl, ⟨x2, rfl, _⟩, h2⟩ := fitsAll_cons h1
  obtain ⟨_, _, rfl, ⟨x3, rfl, _⟩, h3⟩ := fitsAll_cons h2
  obtain ⟨_, _, rfl, ⟨x4, rfl, _⟩, h4⟩ := fitsAll_cons h3
  obtain ⟨_, _, rfl, ⟨x5, rfl, _⟩, h5⟩ := fitsAll_cons h4
  obtain ⟨_, _, rfl, ⟨x6, rfl, _⟩, h6⟩ := fitsAll_cons h5
  obtain ⟨_, _, rfl, ⟨x7, rfl, _⟩, h7⟩ := fitsAll_cons h6
  obtain ⟨_, _, rfl, ⟨x8, rfl, _⟩, h8⟩ := fitsAll_cons h7
  obtain ⟨_, _, rfl, ⟨x9, rfl, _⟩, h9⟩ := fitsAll_cons h8
  obtain ⟨_, _, rfl, ⟨x10, rfl, _⟩, h10⟩ := fitsAll_cons h9
  obtain ⟨_, _, rfl, ⟨x11, rfl⟩, h11⟩ := fitsAll_cons h10
  obtain ⟨_, _, rfl, ⟨x12, rfl, _⟩, h12⟩ := fitsAll_cons h11
  obtain rfl := fitsAll_nil h12
  exact ⟨⟨x0, x1, x2, x3, x4, x5, x6, x7, x8, x9, x10, x11, x12⟩, rfl⟩
theorem vc_of {w : World} {v : Value} {a : Option Addr} {len cap : Nat} (h : IsSl w v [.i .i64, .i .i64, .i .i64, .i .i64, .i .i64, .i .i64, .i .i64, .i .i64, .i .i64, .i .i64, .i .i64, .b, .i .i64] a len cap) :
    ∃ (b off : Nat) (T : List C), VC w a len b off T := by
  by_cases h0 : 0 < len
  · obtain ⟨b, off, ha, hc⟩ := h.cells h0
    have key : ∀ i, i < len → ∃ x : C, ∀ j, j < 13 → w.cell? ⟨b, off + (i * 13 + j), none⟩ = (enc x)[j]? := fun i hi => by
      obtain ⟨cs, hf, hcell⟩ := hc i hi
      obtain ⟨x, rfl⟩ := fits_enc hf
      exact ⟨x, hcell⟩
    obtain ⟨F, hF⟩ := Go.Deep.choose_lt key
    have hlt : b < w.heap.size := World.block_lt_of_cell? (u := .int .i64 (F 0).cl) w _ (hF 0 h0 0 (by decide))
    refine ⟨b, off, (List.range len).map F, ⟨by simp, fun _ => ha, fun W hW i hi j hj => ?_⟩⟩
    have hi' : i < len := by simpa using hi
    rw [hW.cell (p := ⟨b, off + i * 13 + j, none⟩) hlt, Nat.add_assoc, hF i hi' j hj]
    simp
  · refine ⟨0, 0, [], ⟨by simp; omega, fun h => absurd h h0, fun W hW i hi => by simp at hi⟩⟩
set_option maxRecDepth 100000 in
set_option maxHeartbeats 4000000 in
theorem counts_walk (T : List C) (a : Option Addr) (len cap b off : Nat) (w : World) (hV : VC w a len b off T) (hm : len ≤ maxLen) (hc : len ≤ cap) :
    Calls Try.prog 3 #[.slice a len cap] w fun e w' => e = .returned (.bool true) ∧ Ext w w' := by
  have HV := Lib.hid hV
  clear hV
  unfold maxLen at hm
  by_cases h60 : (60 : Int) < (len : Int)
  · go_enter Try.func3, Try.ntmps3
    go_wp2_with fail
    refine (awake_any _).mono ?_
    rintro e w1 ⟨rfl, hE⟩
    go_wp2_with fail
    go_ret
    exact ⟨rfl, hE⟩
  · have hl : len ≤ 60 := by omega
    have d60 : decide ((60 : Int) < (len : Int)) = false := decide_eq_false h60
    clear h60
    go_enter Try.func3, Try.ntmps3
    go_wp2_with fail
    refine (rRight_any T a len cap b off _ HV.out hl hc).mono ?_
    rintro e w1 ⟨⟨r, rfl, hr⟩, hE1⟩
    have HE1 := Lib.hid hE1
    clear hE1
    cases r with
    | false =>
      clear hr
      go_wp2_with fail
      refine (awake_any _).mono ?_
      rintro e w2 ⟨rfl, hE⟩
      have HE2 := Lib.hid hE
      clear hE
      go_wp2_with fail
      go_ret
      exact ⟨rfl, HE1.out.trans HE2.out⟩
    | true =>
      have HRP := Lib.hid (hr.1 rfl)
      clear hr
      go_wp2_with fail
      refine (counted_any T a len cap b off _ (HV.out.ext HE1.out) hl).mono ?_
      rintro e w2 ⟨⟨a', n, cap', b', L, rfl, q1, q2, q3, q4⟩, hE2⟩
      have HE2 := Lib.hid (HE1.out.trans hE2)
      have HC := Lib.hid q3
      have HOK := Lib.hid (counts_ok HRP.out q4)
      clear hE2 q3 q4
      go_wp2_with fail
      go_loopg [4] (n + 1) (fun g s wr => ∃ i : Nat, s = .int .i64 i ∧ 1 ≤ i ∧ i ≤ n + 1 ∧ Hid (Ext w2 wr) ∧ n + 1 - i ≤ g)
      case atStart => exact ⟨1, rfl, Nat.le_refl _, by omega, Lib.hid (Ext.refl _), by omega⟩
      case round =>
        obtain ⟨i, rfl, hi1, hi, HR, hg⟩ := hrel
        by_cases hin : i < n
        · have d0 : decide (i < n) = true := decide_eq_true hin
          obtain rfl := HC.out.ad (by omega)
          obtain ⟨ip, rfl⟩ : ∃ ip, i = ip + 1 := ⟨i - 1, by omega⟩
          obtain ⟨S, y, R0, eT, hS, hy⟩ := HC.out.get (i := ip) (by omega)
          obtain ⟨x, R, rfl⟩ : ∃ x R, R0 = x :: R := by
            cases R0 with
            | nil => have h2 := HC.out.len; rw [eT] at h2; simp at h2; omega
            | cons x R => exact ⟨x, R, rfl⟩
          have hx := HC.out.at1 (S ++ [y]) R x (by rw [eT]; simp) (ip + 1) (by simp; omega)
          have hq : Then' y x := by
            have h := HOK.out.1
            rw [eT] at h
            exact (List.pairwise_cons.1 (List.pairwise_append.1 h).2.1).1 x (by simp)
          have hwd : Ext w2 wr.drew := HR.out.trans (Ext.drew _)
          have y8 := hy.cl _ hwd 8 _ rfl
          have x8 := hx.cl _ hwd 8 _ rfl
          have ly := hy.ld _ hwd
          have lx := hx.ld _ hwd
          have f1 : decide (x.at_ ≤ y.at_) = false := decide_eq_false (by have := hq.1; omega)
          have HQ := Lib.hid hq.2
          have e1 : (0 : Int) ≤ (ip : Int) := by omega
          have e2 : (ip : Int) < (n : Int) := by omega
          have e3 : (ip : Int) + 1 < (n : Int) := by omega
          have e4 : (0 : Int) ≤ (ip : Int) + 1 := by omega
          have e5 : ((ip : Int) + 1).toNat = ip + 1 := by omega
          simp only [Nat.zero_add] at y8 x8 ly lx
          clear hy hx hq eT hS hwd
          go_wp2_with fail
          refine wp_region_segsK [([5, 1, 4, 14], 0, 0), ([2, 13], 2, 11), ([5, 1, 4, 3], 0, 0), ([2, 2], 2, 22), ([1, 1], 1, 0), ([1], 0, 0)] (by kernel_rfl) (by kernel_rfl) ?_
          apply segsK_pure
          · intro W
            simp only [runsT, runsF, rep, pick]
            go_wp2_with (first | refine Arr.wpList_ldA rfl _ _ rfl _ ly ?_ | refine Arr.wpList_ldA rfl _ _ rfl _ lx ?_)
            exact ⟨rfl, rfl⟩
          simp only [runsT, runsF, rep, left]
          apply segsK_look
          · simp only [runsT, runsF, rep, pick]
            go_wp2_with (first | refine Arr.wpList_ldA rfl _ _ rfl _ ly ?_ | refine Arr.wpList_ldA rfl _ _ rfl _ lx ?_)
            exact ⟨rfl, rfl⟩
          simp only [runsT, runsF, rep, left]
          apply segsK_pure
          · intro W
            simp only [runsT, runsF, rep, pick]
            go_wp2_with (first | refine Arr.wpList_ldA rfl _ _ rfl _ ly ?_ | refine Arr.wpList_ldA rfl _ _ rfl _ lx ?_)
            exact ⟨rfl, rfl⟩
          simp only [runsT, runsF, rep, left]
          apply segsK_look
          · simp only [runsT, runsF, rep, pick]
            go_wp2_with (first | refine Arr.wpList_ldA rfl _ _ rfl _ ly ?_ | refine Arr.wpList_ldA rfl _ _ rfl _ lx ?_)
            exact ⟨rfl, rfl⟩
          simp only [runsT, runsF, rep, left]
          apply segsK_op
          go_wp2_with fail
          refine (ahead_any x y _).mono ?_
          rintro e w3 ⟨rfl, hE3⟩
          rw [HQ.out]
          have HEA := Lib.hid ((Ext.drew _).trans hE3)
          clear hE3
          go_wp2_with fail
          refine ⟨fun h => (by cases h), ?_⟩
          apply segsK_pure
          · intro W
            simp only [runsT, runsF, rep, pick]
            go_wp2_with (first | refine Arr.wpList_ldA rfl _ _ rfl _ ly ?_ | refine Arr.wpList_ldA rfl _ _ rfl _ lx ?_)
            exact ⟨rfl, rfl⟩
          simp only [runsT, runsF, rep, left]
          apply segsK_nil
          go_wp2_with fail
          go_roundg (n + 1 - (ip + 1 + 1))
          case measure => omega
          case rel => exact ⟨ip + 1 + 1, by go_num, by omega, by omega, Lib.hid (HR.out.trans HEA.out), Nat.le_refl _⟩
        · have d0 : decide (i < n) = false := decide_eq_false hin
          go_wp2_with fail
          refine (Swaps_any _ a' n cap' b' 0 _ (HC.out.ext HR.out) q2 q1).mono ?_
          rintro e w3 ⟨rfl, hE3⟩
          rw [swaps_zero HOK.out.1]
          have HE3 := Lib.hid (HR.out.trans hE3)
          clear hE3
          go_wp2_with fail
          refine (Right_any T a len cap b off _ (HV.out.ext (HE2.out.trans HE3.out)) hl hc).mono ?_
          rintro e w4 ⟨⟨r, rfl, hr⟩, hE4⟩
          obtain rfl := hr.2 HRP.out
          have HE4 := Lib.hid (HE3.out.trans hE4)
          clear hE4 hr
          go_wp2_with fail
          refine (Right_any _ a' n cap' b' 0 _ (HC.out.ext HE4.out) q2 q1).mono ?_
          rintro e w5 ⟨⟨r, rfl, hr⟩, hE5⟩
          obtain rfl := hr.2 HOK.out.2
          have HE5 := Lib.hid (HE4.out.trans hE5)
          clear hE5 hr
          go_wp2_with fail
          refine (awake_any _).mono ?_
          rintro e w6 ⟨rfl, hE6⟩
          have HE6 := Lib.hid hE6
          clear hE6
          go_wp2_with fail
          go_ret
          exact ⟨rfl, HE2.out.trans (HE5.out.trans HE6.out)⟩
end Go.Proofs.Ytbjkpiobfiebhaa.Hs
