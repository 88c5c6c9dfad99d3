/-
  The bound of steps: each function of package bound comes to the document's number; then the law's own walk.
  At most 200 programs (the law's own guard); no other condition.
-/
import Derived.WalkKit
import Derived.KernelRfl
import Derived.Deep.RegionWith
import Derived.Lib.Hide
import Derived.Test.YtlnmnnoibimknaaSeg
import Derived.Test.YtlnmnnoibimknaaOpen
import Derived.Test.YtlnmnnoibimknaaProg
namespace Go.Proofs.Ytlnmnnoibimknaa.Bt
open Go.RowKit Go.Seg Go.Open

theorem ret_int {k : IntKind} {a b : Int} (h : a = b) : Ending.returned (.int k a) = .returned (.int k b) := by rw [h]

def btw (x l m : Int) : Int := max l (min x m)
def usef (n : Int) : Int := 32 * btw n 0 144 + 8
def bnd (n c w : Int) : Int := btw w 1 1048576 * (usef n + btw c 0 64)
def fit (n : Nat) (w : Int) : Int := btw (max w (min (n : Int) 1048576 + 2)) 1 1048576

theorem btw_le (x l m : Int) (h : l ≤ m) : l ≤ btw x l m ∧ btw x l m ≤ m := by unfold btw; omega
theorem usef_le (n : Int) : 8 ≤ usef n ∧ usef n ≤ 4616 := by have := btw_le n 0 144 (by omega); unfold usef; omega
theorem bnd_le (n c w : Int) : usef n ≤ bnd n c w ∧ bnd n c w ≤ 4907335680 := by
  have h1 := btw_le w 1 1048576 (by omega)
  have h2 := usef_le n
  have h3 := btw_le c 0 64 (by omega)
  unfold bnd
  constructor
  · have : 1 * (usef n + btw c 0 64) ≤ btw w 1 1048576 * (usef n + btw c 0 64) := Int.mul_le_mul_of_nonneg_right h1.1 (by omega)
    omega
  · have : btw w 1 1048576 * (usef n + btw c 0 64) ≤ 1048576 * (usef n + btw c 0 64) := Int.mul_le_mul_of_nonneg_right h1.2 (by omega)
    omega

theorem between_any (x l m : Int) (w : World) : Calls Try.prog 45 #[.int .i64 x, .int .i64 l, .int .i64 m] w fun e w' => e = .returned (.int .i64 (btw x l m)) ∧ w = w' := by
  go_enter Try.func45, Try.ntmps45
  go_wp2
  all_goals
    go_ret
    exact ⟨ret_int (by unfold btw; omega), rfl⟩

theorem useful_any (n : Int) (w : World) : Calls Try.prog 9 #[.int .i64 n] w fun e w' => e = .returned (.int .i64 (usef n)) ∧ w = w' := by
  have h := btw_le n 0 144 (by omega)
  go_enter Try.func9, Try.ntmps9
  go_wp2_with (go_at_call 45; refine (between_any _ _ _ _).mono ?_; rintro e w' ⟨rfl, rfl⟩)
  go_ret
  exact ⟨ret_int (by unfold usef; rfl), rfl⟩

theorem refUseful_any (n : Int) (w : World) : Calls Try.prog 10 #[.int .i64 n] w fun e w' => e = .returned (.int .i64 (usef n)) ∧ w = w' := by
  go_enter Try.func10, Try.ntmps10
  go_wp2
  all_goals
    go_ret
    exact ⟨ret_int (by unfold usef btw; omega), rfl⟩

theorem mul_wrap (a b : Int) (ha : 1 ≤ a) (ha' : a ≤ 1048576) (hb : 0 ≤ b) (hb' : b ≤ 4680) : wrap64 (a * b) = a * b := by
  have h1 : 0 ≤ a * b := Int.mul_nonneg (by omega) hb
  have h2 : a * b ≤ 1048576 * b := Int.mul_le_mul_of_nonneg_right ha' hb
  unfold wrap64
  omega

theorem b_any (n c t : Int) (w : World) : Calls Try.prog 11 #[.int .i64 n, .int .i64 c, .int .i64 t] w fun e w' => e = .returned (.int .i64 (bnd n c t)) ∧ w = w' := by
  have h := usef_le n
  have h2 := btw_le c 0 64 (by omega)
  have h3 := btw_le t 1 1048576 (by omega)
  go_enter Try.func11, Try.ntmps11
  go_wp2_with (first
    | (go_at_call 45; refine (between_any _ _ _ _).mono ?_; rintro e w' ⟨rfl, rfl⟩)
    | (go_at_call 9; refine (useful_any _ _).mono ?_; rintro e w' ⟨rfl, rfl⟩))
  go_ret
  exact ⟨ret_int (by unfold bnd; exact mul_wrap _ _ (by omega) (by omega) (by omega) (by omega)), rfl⟩

theorem refB_any (n c t : Int) (w : World) : Calls Try.prog 12 #[.int .i64 n, .int .i64 c, .int .i64 t] w fun e w' => e = .returned (.int .i64 (bnd n c t)) ∧ w = w' := by
  have h := usef_le n
  go_enter Try.func12, Try.ntmps12
  go_wp2_with (go_at_call 10; refine (refUseful_any _ _).mono ?_; rintro e w' ⟨rfl, rfl⟩)
  all_goals
    go_ret
    refine ⟨ret_int ?_, rfl⟩
    first
      | (rw [mul_wrap _ _ (by omega) (by omega) (by omega) (by omega)]
         unfold bnd
         refine congr (congrArg _ ?_) ?_ <;> (unfold btw; omega))
      | (unfold bnd
         rw [show btw t 1 1048576 = 1 from by unfold btw; omega]
         unfold btw wrap64
         omega)

theorem fit_any (a0 a1 a2 a3 a4 : Int) (p q r : Value) (ap : Option Addr) (len cap : Nat) (x : Int) (hp : p = .slice ap len cap) (hq : ∃ a n c, q = .slice a n c) (hr : ∃ a n c, r = .slice a n c) (hl : len ≤ maxLen) (w : World) :
    Calls Try.prog 13 #[.agg #[.int .i64 a0, .int .i64 a1, .int .i64 a2, .int .i64 a3, .int .i64 a4, p, q, r], .int .i64 x] w fun e w' => e = .returned (.int .i64 (fit len x)) ∧ Ext w w' := by
  obtain ⟨q1, q2, q3, rfl⟩ := hq
  obtain ⟨r1, r2, r3, rfl⟩ := hr
  subst hp
  unfold maxLen at hl
  go_enter Try.func13, Try.ntmps13
  go_wp2_with (go_at_call 45; refine (between_any _ _ _ _).mono ?_; rintro e w' ⟨rfl, rfl⟩)
  all_goals
    go_ret
    refine ⟨ret_int ?_, (Below.refl _ _).alloc (Nat.le_refl _) _⟩
    unfold fit btw
    omega

set_option maxRecDepth 100000 in
theorem refFit_any (a0 a1 a2 a3 a4 : Int) (p q r : Value) (ap : Option Addr) (len cap : Nat) (x : Int) (hp : p = .slice ap len cap) (hq : ∃ a n c, q = .slice a n c) (hr : ∃ a n c, r = .slice a n c) (hl : len ≤ 200) (w : World) :
    Calls Try.prog 14 #[.agg #[.int .i64 a0, .int .i64 a1, .int .i64 a2, .int .i64 a3, .int .i64 a4, p, q, r], .int .i64 x] w fun e w' => e = .returned (.int .i64 (fit len x)) ∧ Ext w w' := by
  obtain ⟨q1, q2, q3, rfl⟩ := hq
  obtain ⟨r1, r2, r3, rfl⟩ := hr
  subst hp
  by_cases h2 : x < (len : Int) + 2
  · have e : fit len x = btw ((len : Int) + 2) 1 1048576 := by unfold fit btw; omega
    rw [e]
    have h3 : (2 : Int) ≤ (len : Int) + 2 := by omega
    have hd : decide ((len : Int) < 1048576) = true := decide_eq_true (by omega)
    clear e
    go_enter Try.func14, Try.ntmps14
    go_wp2_with fail
    all_goals
      go_ret
      exact ⟨ret_int (by unfold btw; omega), (Below.refl _ _).alloc (Nat.le_refl _) _⟩
  · have e : fit len x = btw x 1 1048576 := by unfold fit btw; omega
    rw [e]
    have hd : decide ((len : Int) < 1048576) = true := decide_eq_true (by omega)
    have hd2 : decide (x < (len : Int) + 2) = false := decide_eq_false h2
    clear e
    have h2' : (len : Int) + 2 ≤ x := by omega
    have h7 : (1 : Int) < x := by omega
    clear h2
    by_cases h5 : (1048576 : Int) < x
    all_goals
      go_enter Try.func14, Try.ntmps14
      go_wp2_with fail
      go_ret
      exact ⟨ret_int (by unfold btw; omega), (Below.refl _ _).alloc (Nat.le_refl _) _⟩

/-- The lengths of rows added up, as they wrap. -/
def sumL (F : Nat → Option Addr × Nat × Nat) : Nat → Int
  | 0 => 0
  | k + 1 => wrap64 (sumL F k + ((F k).2.1 : Int))

theorem calls_any (a0 a1 a2 a3 a4 : Int) (q r : Value) (ap : Option Addr) (len cap : Nat) (b off : Nat) (F : Nat → Option Addr × Nat × Nat) (hq : ∃ a n c, q = .slice a n c) (hr : ∃ a n c, r = .slice a n c) (hl : len ≤ maxLen) (w : World)
    (ha : 0 < len → ap = some ⟨b, off, none⟩) (hF : ∀ i, i < len → w.cell? ⟨b, off + i, none⟩ = some (.slice (F i).1 (F i).2.1 (F i).2.2)) :
    Calls Try.prog 46 #[.agg #[.int .i64 a0, .int .i64 a1, .int .i64 a2, .int .i64 a3, .int .i64 a4, .slice ap len cap, q, r]] w fun e w' => e = .returned (.int .i64 (sumL F len)) ∧ Ext w w' := by
  obtain ⟨q1, q2, q3, rfl⟩ := hq
  obtain ⟨r1, r2, r3, rfl⟩ := hr
  unfold maxLen at hl
  have HF := Lib.hid hF
  clear hF
  by_cases h0 : len = 0
  · subst h0
    go_enter Try.func46, Try.ntmps46
    go_wp2
    go_loop [2, 4, 8] (fun n l k => k = .int .i64 0 ∧ n = .int .i64 0) (fun _ _ _ => 0)
    case atStart => exact ⟨rfl, rfl⟩
    case round =>
      obtain ⟨rfl, rfl⟩ := hrel
      go_wp2
      go_ret
      exact ⟨rfl, (Below.refl _ _).alloc (Nat.le_refl _) _⟩
  · obtain rfl := ha (by omega)
    have hlt := World.block_lt_of_cell? w _ (HF.out 0 (by omega))
    go_enter Try.func46, Try.ntmps46
    go_wp2
    go_loop [2, 4, 8] (fun n l k => ∃ i : Nat, i ≤ len ∧ k = .int .i64 i ∧ n = .int .i64 (sumL F i)) (fun _ _ k => len - (intOf k).toNat)
    case atStart => exact ⟨0, Nat.zero_le _, rfl, rfl⟩
    case round =>
      obtain ⟨i, hi, rfl, rfl⟩ := hrel
      by_cases hik : i < len
      · have hc := HF.out i hik
        have hx : World.cell? (w.alloc (Obj.cells #[.int .i64 a0, .int .i64 a1, .int .i64 a2, .int .i64 a3, .int .i64 a4, .slice (some ⟨b, off, none⟩) len cap, .slice q1 q2 q3, .slice r1 r2 r3] 27)) ⟨b, off + i, none⟩ = some (.slice (F i).1 (F i).2.1 (F i).2.2) := by
          rw [World.cell?_alloc_lt _ _ _ hlt]; exact hc
        clear hc
        go_wp2
        go_round
        case rel => exact ⟨i + 1, by omega, by go_num, rfl⟩
        case measure => simp [intOf]; omega
      · go_wp2
        go_ret
        obtain rfl : i = len := by omega
        exact ⟨rfl, (Below.refl _ _).alloc (Nat.le_refl _) _⟩

theorem of_any (a0 a1 a2 a3 a4 : Int) (q r : Value) (ap : Option Addr) (len cap : Nat) (x : Int) (b off : Nat) (F : Nat → Option Addr × Nat × Nat) (hq : ∃ a n c, q = .slice a n c) (hr : ∃ a n c, r = .slice a n c) (hl : len ≤ maxLen) (w : World)
    (ha : 0 < len → ap = some ⟨b, off, none⟩) (hF : ∀ i, i < len → w.cell? ⟨b, off + i, none⟩ = some (.slice (F i).1 (F i).2.1 (F i).2.2)) :
    Calls Try.prog 15 #[.agg #[.int .i64 a0, .int .i64 a1, .int .i64 a2, .int .i64 a3, .int .i64 a4, .slice ap len cap, q, r], .int .i64 x] w fun e w' => e = .returned (.int .i64 (bnd (sumL F len) a1 (fit len x))) ∧ Ext w w' := by
  have HF := Lib.hid hF
  have HA := Lib.hid ha
  clear hF ha
  obtain ⟨q1, q2, q3, rfl⟩ := hq
  obtain ⟨r1, r2, r3, rfl⟩ := hr
  have HL := Lib.hid hl
  clear hl
  have key : ∀ W, Ext w W → ∀ i, i < len → W.cell? ⟨b, off + i, none⟩ = some (.slice (F i).1 (F i).2.1 (F i).2.2) := fun W h i hi => (h.cell (World.block_lt_of_cell? w _ (HF.out i hi))).trans (HF.out i hi)
  have HK := Lib.hid key
  have HB := Lib.hid (Blk.new w #[.int .i64 a0, .int .i64 a1, .int .i64 a2, .int .i64 a3, .int .i64 a4, .slice ap len cap, .slice q1 q2 q3, .slice r1 r2 r3] 27)
  have HE0 : Hid (Ext w (w.alloc (.cells #[.int .i64 a0, .int .i64 a1, .int .i64 a2, .int .i64 a3, .int .i64 a4, .slice ap len cap, .slice q1 q2 q3, .slice r1 r2 r3] 27))) := (Below.refl _ _).alloc (Nat.le_refl _) _
  clear key
  go_enter Try.func15, Try.ntmps15
  go_wp2_with fail
  refine wp_region_segs 10 [([1, 1, 5, 3], false), ([0, 3], false), ([0, 2], false), ([1], false)] (by kernel_rfl) (by kernel_rfl) ?_
  apply segs_cons
  · intro W hW
    have hB := HB.out.ext hW.of_drew
    have c0 := hB.cell (i := 0) rfl
    have c1 := hB.cell (i := 1) rfl
    have c2 := hB.cell (i := 2) rfl
    have c3 := hB.cell (i := 3) rfl
    have c4 := hB.cell (i := 4) rfl
    have c5 := hB.cell (i := 5) rfl
    have c6 := hB.cell (i := 6) rfl
    have c7 := hB.cell (i := 7) rfl
    clear hB
    simp only [runsT, runsF, rep, pick]
    go_wp2_with fail
    exact ⟨rfl, rfl⟩
  simp only [runsT, runsF, rep, left]
  go_wp2_with fail
  refine (calls_any _ _ _ _ _ _ _ _ _ _ _ _ F ⟨_, _, _, rfl⟩ ⟨_, _, _, rfl⟩ HL.out _ HA.out (HK.out _ (HE0.out.trans (Ext.drew _)))).mono ?_
  rintro e w1 ⟨rfl, hE1⟩
  go_wp2_with fail
  refine ⟨fun _ => hE1, ?_⟩
  apply segs_cons
  · intro W hW
    exact ⟨rfl, rfl⟩
  simp only [runsT, runsF, rep, left]
  go_wp2_with fail
  refine (fit_any _ _ _ _ _ _ _ _ _ _ _ _ rfl ⟨_, _, _, rfl⟩ ⟨_, _, _, rfl⟩ HL.out _).mono ?_
  rintro e w2 ⟨rfl, hE2⟩
  go_wp2_with fail
  refine ⟨fun _ => hE2, ?_⟩
  apply segs_cons
  · intro W hW
    exact ⟨rfl, rfl⟩
  simp only [runsT, runsF, rep, left]
  go_wp2_with fail
  refine (b_any _ _ _ _).mono ?_
  rintro e w3 ⟨rfl, rfl⟩
  go_wp2_with fail
  refine ⟨fun _ => Ext.refl _, ?_⟩
  apply segs_cons
  · intro W hW
    simp only [runsT, runsF, rep, pick]
    go_wp2_with fail
    exact ⟨rfl, rfl⟩
  simp only [runsT, runsF, rep, left]
  go_wp2_with fail
  go_ret
  exact ⟨rfl, ((HE0.out.trans (Ext.drew _)).trans hE1).trans hE2⟩

set_option maxRecDepth 100000 in
theorem refOf_any (a0 a1 a2 a3 a4 : Int) (q r : Value) (ap : Option Addr) (len cap : Nat) (x : Int) (b off : Nat) (F : Nat → Option Addr × Nat × Nat) (hq : ∃ a n c, q = .slice a n c) (hr : ∃ a n c, r = .slice a n c) (hl : len ≤ 200) (w : World)
    (ha : 0 < len → ap = some ⟨b, off, none⟩) (hF : ∀ i, i < len → w.cell? ⟨b, off + i, none⟩ = some (.slice (F i).1 (F i).2.1 (F i).2.2)) :
    Calls Try.prog 16 #[.agg #[.int .i64 a0, .int .i64 a1, .int .i64 a2, .int .i64 a3, .int .i64 a4, .slice ap len cap, q, r], .int .i64 x] w fun e w' => e = .returned (.int .i64 (bnd (sumL F len) a1 (fit len x))) ∧ Ext w w' := by
  have HF := Lib.hid hF
  have HA := Lib.hid ha
  clear hF ha
  obtain ⟨q1, q2, q3, rfl⟩ := hq
  obtain ⟨r1, r2, r3, rfl⟩ := hr
  have HL := Lib.hid hl
  have key : ∀ W, Ext w W → ∀ i, i < len → W.cell? ⟨b, off + i, none⟩ = some (.slice (F i).1 (F i).2.1 (F i).2.2) := fun W h i hi => (h.cell (World.block_lt_of_cell? w _ (HF.out i hi))).trans (HF.out i hi)
  have HK := Lib.hid key
  have HB := Lib.hid (Blk.new w #[.int .i64 a0, .int .i64 a1, .int .i64 a2, .int .i64 a3, .int .i64 a4, .slice ap len cap, .slice q1 q2 q3, .slice r1 r2 r3] 27)
  have HE0 : Hid (Ext w (w.alloc (.cells #[.int .i64 a0, .int .i64 a1, .int .i64 a2, .int .i64 a3, .int .i64 a4, .slice ap len cap, .slice q1 q2 q3, .slice r1 r2 r3] 27))) := (Below.refl _ _).alloc (Nat.le_refl _) _
  clear key
  go_enter Try.func16, Try.ntmps16
  go_wp2_with fail
  go_loop [5, 6] (fun n k => ∃ i : Nat, i ≤ len ∧ k = .int .i64 i ∧ n = .int .i64 (sumL F i)) (fun _ k => len - (intOf k).toNat)
  case atStart => exact ⟨0, Nat.zero_le _, rfl, rfl⟩
  case round =>
    obtain ⟨i, hi, rfl, rfl⟩ := hrel
    by_cases hik : i < len
    · obtain rfl := HA.out (by omega)
      have hx := HK.out _ HE0.out i hik
      go_wp2_with fail
      go_round
      case rel => exact ⟨i + 1, by omega, by go_num, rfl⟩
      case measure => simp [intOf]; omega
    · obtain rfl : i = len := by omega
      clear hik
      go_wp2_with fail
      refine wp_region_segs 9 [([6, 3], false), ([0, 2], false), ([1], false)] (by kernel_rfl) (by kernel_rfl) ?_
      apply segs_cons
      · intro W hW
        have hB := HB.out.ext hW.of_drew
        have c0 := hB.cell (i := 0) rfl
        have c1 := hB.cell (i := 1) rfl
        have c2 := hB.cell (i := 2) rfl
        have c3 := hB.cell (i := 3) rfl
        have c4 := hB.cell (i := 4) rfl
        have c5 := hB.cell (i := 5) rfl
        have c6 := hB.cell (i := 6) rfl
        have c7 := hB.cell (i := 7) rfl
        clear hB
        simp only [runsT, runsF, rep, pick]
        go_wp2_with fail
        exact ⟨rfl, rfl⟩
      simp only [runsT, runsF, rep, left]
      go_wp2_with fail
      refine (refFit_any _ _ _ _ _ _ _ _ _ _ _ _ rfl ⟨_, _, _, rfl⟩ ⟨_, _, _, rfl⟩ HL.out _).mono ?_
      rintro e w1 ⟨rfl, hE1⟩
      go_wp2_with fail
      refine ⟨fun _ => hE1, ?_⟩
      apply segs_cons
      · intro W hW
        exact ⟨rfl, rfl⟩
      simp only [runsT, runsF, rep, left]
      go_wp2_with fail
      refine (refB_any _ _ _ _).mono ?_
      rintro e w2 ⟨rfl, rfl⟩
      go_wp2_with fail
      refine ⟨fun _ => Ext.refl _, ?_⟩
      apply segs_cons
      · intro W hW
        simp only [runsT, runsF, rep, pick]
        go_wp2_with fail
        exact ⟨rfl, rfl⟩
      simp only [runsT, runsF, rep, left]
      go_wp2_with fail
      go_ret
      exact ⟨rfl, (HE0.out.trans (Ext.drew _)).trans hE1⟩

theorem awake_any (w : World) : Calls Try.prog 8 #[] w fun e w' => e = .returned (.bool true) ∧ w = w' := by
  have h1 : bnd 1 1 3 = 123 := by decide
  have h2 : usef 0 = 8 := by decide
  go_enter Try.func8, Try.ntmps8
  go_wp2_with (first
    | (go_at_call 11; refine (b_any _ _ _ _).mono ?_; rintro e w' ⟨rfl, rfl⟩)
    | (go_at_call 9; refine (useful_any _ _).mono ?_; rintro e w' ⟨rfl, rfl⟩))
  go_ret
  exact ⟨rfl, rfl⟩

set_option maxRecDepth 100000 in
set_option maxHeartbeats 800000 in
theorem walk (a0 a1 a2 a3 a4 : Int) (q r : Value) (ap : Option Addr) (len cap : Nat) (b off : Nat) (F : Nat → Option Addr × Nat × Nat) (hq : ∃ a n c, q = .slice a n c) (hr : ∃ a n c, r = .slice a n c) (hl : len ≤ maxLen) (x y z : Int) (w : World)
    (ha : 0 < len → ap = some ⟨b, off, none⟩) (hF : ∀ i, i < len → w.cell? ⟨b, off + i, none⟩ = some (.slice (F i).1 (F i).2.1 (F i).2.2)) :
    Calls Try.prog 3 #[.agg #[.int .i64 a0, .int .i64 a1, .int .i64 a2, .int .i64 a3, .int .i64 a4, .slice ap len cap, q, r], .agg #[.int .i64 x, .int .i64 y, .int .i64 z]] w fun e w' => e = .returned (.bool true) ∧ Ext w w' := by
  have HF := Lib.hid hF
  have HA := Lib.hid ha
  clear hF ha
  obtain ⟨q1, q2, q3, rfl⟩ := hq
  obtain ⟨r1, r2, r3, rfl⟩ := hr
  have HL := Lib.hid hl
  have key : ∀ W, Ext w W → ∀ i, i < len → W.cell? ⟨b, off + i, none⟩ = some (.slice (F i).1 (F i).2.1 (F i).2.2) := fun W h i hi => (h.cell (World.block_lt_of_cell? w _ (HF.out i hi))).trans (HF.out i hi)
  have HK := Lib.hid key
  have HB' := (Blk.new w #[.int .i64 a0, .int .i64 a1, .int .i64 a2, .int .i64 a3, .int .i64 a4, .slice ap len cap, .slice q1 q2 q3, .slice r1 r2 r3] 27)
  have hE1 : Ext w (w.alloc (.cells #[.int .i64 a0, .int .i64 a1, .int .i64 a2, .int .i64 a3, .int .i64 a4, .slice ap len cap, .slice q1 q2 q3, .slice r1 r2 r3] 27)) := (Below.refl _ _).alloc (Nat.le_refl _) _
  have HL3 := Lib.hid (Blk.new (w.alloc (.cells #[.int .i64 a0, .int .i64 a1, .int .i64 a2, .int .i64 a3, .int .i64 a4, .slice ap len cap, .slice q1 q2 q3, .slice r1 r2 r3] 27)) #[.int .i64 x, .int .i64 y, .int .i64 z] 28)
  have hE2 : Ext (w.alloc (.cells #[.int .i64 a0, .int .i64 a1, .int .i64 a2, .int .i64 a3, .int .i64 a4, .slice ap len cap, .slice q1 q2 q3, .slice r1 r2 r3] 27)) ((w.alloc (.cells #[.int .i64 a0, .int .i64 a1, .int .i64 a2, .int .i64 a3, .int .i64 a4, .slice ap len cap, .slice q1 q2 q3, .slice r1 r2 r3] 27)).alloc (.cells #[.int .i64 x, .int .i64 y, .int .i64 z] 28)) := (Below.refl _ _).alloc (Nat.le_refl _) _
  have HB := Lib.hid (HB'.ext hE2)
  have HE := Lib.hid (hE1.trans hE2)
  have hsz : (w.alloc (.cells #[.int .i64 a0, .int .i64 a1, .int .i64 a2, .int .i64 a3, .int .i64 a4, .slice ap len cap, .slice q1 q2 q3, .slice r1 r2 r3] 27)).heap.size = w.heap.size + 1 := by simp
  rw [hsz] at HL3
  unfold maxLen at hl
  clear key HB' hE1 hE2 hsz
  by_cases h200 : (200 : Int) < (len : Int)
  · go_enter Try.func3, Try.ntmps3
    go_wp2_with fail
    refine wp_region_segs 9 [([9], false)] (by kernel_rfl) (by kernel_rfl) ?_
    apply segs_cons
    · intro W hW
      have hB := HL3.out.ext hW.of_drew
      have c0 := hB.cell (i := 0) rfl
      have c1 := hB.cell (i := 1) rfl
      have c2 := hB.cell (i := 2) rfl
      clear hB
      simp only [runsT, runsF, rep, pick]
      go_wp2_with fail
      exact ⟨rfl, rfl⟩
    simp only [runsT, runsF, rep, left]
    go_wp2_with fail
    refine (awake_any _).mono ?_
    rintro e w' ⟨rfl, rfl⟩
    go_wp2_with fail
    go_ret
    exact ⟨rfl, HE.out.trans (Ext.drew _)⟩
  · have HL2 : Hid (len ≤ 200) := by show len ≤ 200; omega
    have hlt : decide ((200 : Int) < (len : Int)) = false := decide_eq_false h200
    have HV0 := Lib.hid ((Ext.drew ((w.alloc (.cells #[.int .i64 a0, .int .i64 a1, .int .i64 a2, .int .i64 a3, .int .i64 a4, .slice ap len cap, .slice q1 q2 q3, .slice r1 r2 r3] 27)).alloc (.cells #[.int .i64 x, .int .i64 y, .int .i64 z] 28))).trans (Ext.drew _))
    have hge := bnd_le x y z
    have hge' : decide (bnd x y z ≥ usef x) = true := decide_eq_true hge.1
    clear hge
    go_enter Try.func3, Try.ntmps3
    go_wp2_with fail
    refine wp_region_segs 9 [([9], false)] (by kernel_rfl) (by kernel_rfl) ?_
    apply segs_cons
    · intro W hW
      have hB := HL3.out.ext hW.of_drew
      have c0 := hB.cell (i := 0) rfl
      have c1 := hB.cell (i := 1) rfl
      have c2 := hB.cell (i := 2) rfl
      clear hB
      simp only [runsT, runsF, rep, pick]
      go_wp2_with fail
      exact ⟨rfl, rfl⟩
    simp only [runsT, runsF, rep, left]
    go_wp2_with fail
    refine wp_region_segs 47 [([1, 1, 1, 44], false), ([0, 44], false), ([5, 1, 3, 34], false), ([0, 34], false), ([5, 1, 2, 25], false), ([0, 25], false), ([5, 1, 2, 16], false), ([0, 16], false), ([6, 1, 1, 7], false), ([0, 7], false), ([3, 3], false), ([2], false)] (by kernel_rfl) (by kernel_rfl) ?_
    apply segs_cons
    · intro W hW
      simp only [runsT, runsF, rep, pick]
      go_wp2_with fail
      exact ⟨rfl, rfl⟩
    simp only [runsT, runsF, rep, left]
    go_wp2_with fail
    refine (useful_any _ _).mono ?_
    rintro e w' ⟨rfl, rfl⟩
    go_wp2_with fail
    refine ⟨fun _ => Ext.refl _, ?_⟩
    apply segs_cons
    · intro W hW
      exact ⟨rfl, rfl⟩
    simp only [runsT, runsF, rep, left]
    go_wp2_with fail
    refine (refUseful_any _ _).mono ?_
    rintro e w' ⟨rfl, rfl⟩
    go_wp2_with fail
    refine ⟨fun _ => Ext.refl _, ?_⟩
    apply segs_cons
    · intro W hW
      simp only [runsT, runsF, rep, pick]
      go_wp2_with fail
      exact ⟨rfl, rfl⟩
    simp only [runsT, runsF, rep, left]
    go_wp2_with fail
    refine (b_any _ _ _ _).mono ?_
    rintro e w' ⟨rfl, rfl⟩
    go_wp2_with fail
    refine ⟨fun _ => Ext.refl _, ?_⟩
    apply segs_cons
    · intro W hW
      exact ⟨rfl, rfl⟩
    simp only [runsT, runsF, rep, left]
    go_wp2_with fail
    refine (refB_any _ _ _ _).mono ?_
    rintro e w' ⟨rfl, rfl⟩
    go_wp2_with fail
    refine ⟨fun _ => Ext.refl _, ?_⟩
    apply segs_cons
    · intro W hW
      have hB := HB.out.ext (HV0.out.trans hW)
      have c0 := hB.cell (i := 0) rfl
      have c1 := hB.cell (i := 1) rfl
      have c2 := hB.cell (i := 2) rfl
      have c3 := hB.cell (i := 3) rfl
      have c4 := hB.cell (i := 4) rfl
      have c5 := hB.cell (i := 5) rfl
      have c6 := hB.cell (i := 6) rfl
      have c7 := hB.cell (i := 7) rfl
      clear hB
      simp only [runsT, runsF, rep, pick]
      go_wp2_with fail
      exact ⟨rfl, rfl⟩
    simp only [runsT, runsF, rep, left]
    go_wp2_with fail
    refine (fit_any _ _ _ _ _ _ _ _ _ _ _ _ rfl ⟨_, _, _, rfl⟩ ⟨_, _, _, rfl⟩ HL.out _).mono ?_
    rintro e v1 ⟨rfl, hE⟩
    have HV1 := Lib.hid (HV0.out.trans hE)
    go_wp2_with fail
    refine ⟨fun _ => hE, ?_⟩
    apply segs_cons
    · intro W hW
      exact ⟨rfl, rfl⟩
    simp only [runsT, runsF, rep, left]
    go_wp2_with fail
    refine (refFit_any _ _ _ _ _ _ _ _ _ _ _ _ rfl ⟨_, _, _, rfl⟩ ⟨_, _, _, rfl⟩ HL2.out _).mono ?_
    rintro e v2 ⟨rfl, hE⟩
    have HV2 := Lib.hid (HV1.out.trans hE)
    go_wp2_with fail
    refine ⟨fun _ => hE, ?_⟩
    apply segs_cons
    · intro W hW
      have hB := HB.out.ext (HV2.out.trans hW)
      have c0 := hB.cell (i := 0) rfl
      have c1 := hB.cell (i := 1) rfl
      have c2 := hB.cell (i := 2) rfl
      have c3 := hB.cell (i := 3) rfl
      have c4 := hB.cell (i := 4) rfl
      have c5 := hB.cell (i := 5) rfl
      have c6 := hB.cell (i := 6) rfl
      have c7 := hB.cell (i := 7) rfl
      clear hB
      simp only [runsT, runsF, rep, pick]
      go_wp2_with fail
      exact ⟨rfl, rfl⟩
    simp only [runsT, runsF, rep, left]
    go_wp2_with fail
    refine (of_any _ _ _ _ _ _ _ _ _ _ _ _ _ F ⟨_, _, _, rfl⟩ ⟨_, _, _, rfl⟩ HL.out _ HA.out (HK.out _ (HE.out.trans HV2.out))).mono ?_
    rintro e v3 ⟨rfl, hE⟩
    have HV3 := Lib.hid (HV2.out.trans hE)
    go_wp2_with fail
    refine ⟨fun _ => hE, ?_⟩
    apply segs_cons
    · intro W hW
      exact ⟨rfl, rfl⟩
    simp only [runsT, runsF, rep, left]
    go_wp2_with fail
    refine (refOf_any _ _ _ _ _ _ _ _ _ _ _ _ _ F ⟨_, _, _, rfl⟩ ⟨_, _, _, rfl⟩ HL2.out _ HA.out (HK.out _ (HE.out.trans HV3.out))).mono ?_
    rintro e v4 ⟨rfl, hE⟩
    have HV4 := Lib.hid (HV3.out.trans hE)
    go_wp2_with fail
    refine ⟨fun _ => hE, ?_⟩
    apply segs_cons
    · intro W hW
      simp only [runsT, runsF, rep, pick]
      go_wp2_with fail
      exact ⟨rfl, rfl⟩
    simp only [runsT, runsF, rep, left]
    go_wp2_with fail
    refine (b_any _ _ _ _).mono ?_
    rintro e w' ⟨rfl, rfl⟩
    go_wp2_with fail
    refine ⟨fun _ => Ext.refl _, ?_⟩
    apply segs_cons
    · intro W hW
      exact ⟨rfl, rfl⟩
    simp only [runsT, runsF, rep, left]
    go_wp2_with fail
    refine (useful_any _ _).mono ?_
    rintro e w' ⟨rfl, rfl⟩
    go_wp2_with fail
    refine ⟨fun _ => Ext.refl _, ?_⟩
    apply segs_cons
    · intro W hW
      simp only [runsT, runsF, rep, pick]
      go_wp2_with fail
      exact ⟨rfl, rfl⟩
    simp only [runsT, runsF, rep, left]
    go_wp2_with fail
    refine (awake_any _).mono ?_
    rintro e w' ⟨rfl, rfl⟩
    go_wp2_with fail
    refine ⟨fun _ => Ext.refl _, ?_⟩
    apply segs_cons
    · intro W hW
      simp only [runsT, runsF, rep, pick]
      go_wp2_with fail
      exact ⟨rfl, rfl⟩
    simp only [runsT, runsF, rep, left]
    go_wp2_with fail
    go_ret
    exact ⟨rfl, HE.out.trans HV4.out⟩
end Go.Proofs.Ytlnmnnoibimknaa.Bt
