/-
  Histories: a call as a thing; swapped rows of calls.
  No condition but lengths.
-/
import Derived.Test.YtbjkpiobfiebhaaHsT
import Derived.Test.YtbjkpiobfiebhaaSeg
import Derived.Test.YtbjkpiobfiebhaaSegK
import Derived.Test.YtbjkpiobfiebhaaSegE
import Derived.Test.YtbjkpiobfiebhaaOpen
import Derived.Test.YtbjkpiobfiebhaaProg
import Derived.WalkKit
import Derived.KernelRfl
import Derived.Deep.LoopGhost
import Derived.Lib.Hide
namespace Go.Proofs.Ytbjkpiobfiebhaa.Hs
open Go.RowKit Go.Seg Go.Open Go.Lib Go.Arr Go.Stab

/-- What one client asked for, and what it was told. -/
structure C where
  cl : Int
  id : Int
  k : Int
  a : Int
  b : Int
  c : Int
  d : Int
  bgn : Int
  at_ : Int
  en : Int
  tick : Int
  ok : Bool
  val : Int
  deriving DecidableEq
instance : Inhabited C := ⟨⟨0, 0, 0, 0, 0, 0, 0, 0, 0, 0, 0, false, 0⟩⟩
def enc (x : C) : List Value := [.int .i64 x.cl, .int .i64 x.id, .int .i64 x.k, .int .i64 x.a, .int .i64 x.b, .int .i64 x.c, .int .i64 x.d, .int .i64 x.bgn, .int .i64 x.at_, .int .i64 x.en, .int .i64 x.tick, .bool x.ok, .int .i64 x.val]
theorem enc_len (x : C) : (enc x).length = 13 := rfl
theorem enc_one (x : C) : ∀ v ∈ enc x, v.oneCell' = true := by
  intro v hv
  simp only [enc, List.mem_cons, List.not_mem_nil, or_false] at hv
  rcases hv with rfl | rfl | rfl | rfl | rfl | rfl | rfl | rfl | rfl | rfl | rfl | rfl | rfl <;> rfl
/-- With its place (which no cell holds). -/
def encT (x : C × Nat) : List Value := enc x.1
theorem encT_len (x : C × Nat) : (encT x).length = 13 := rfl
theorem encT_one (x : C × Nat) : ∀ v ∈ encT x, v.oneCell' = true := enc_one x.1
abbrev AtC (w : World) (b : Nat) (T : List (C × Nat)) : Prop := At encT 13 29 w b T
/-- What a call is as a value. -/
def CV (x : C) : Value := .agg (enc x).toArray
theorem agg_ct (w : World) : (isAgg 29).run Try.prog w = .ok true w := by kernel_rfl
theorem size_ct (w : World) : (sizeOf 29).run Try.prog w = .ok 13 w := by kernel_rfl
theorem ld {w : World} {b : Nat} {T : List (C × Nat)} (h : AtC w b T) (X Z : List (C × Nat)) (x : C × Nat) (e : T = X ++ x :: Z) (i : Nat) (hi : i = X.length) : (Instr.loadAt 29 (.pointer (some ⟨b, i * 13, none⟩))).run Try.prog w = .ok (CV x.1) w := by
  subst hi
  have hl : X.length < T.length := by rw [e]; simp
  have h1 := At.load (P := Try.prog) encT_len h X.length hl
  have h2 : T[X.length] = x := by subst e; simp
  rw [h2] at h1
  exact run_loadA (agg_ct w) (size_ct w) h1
theorem st {w : World} {b : Nat} {T : List (C × Nat)} (h : AtC w b T) (i : Nat) (hi : i < T.length) (x : C × Nat) :
    ∃ W, (Instr.storeAt 29 (.pointer (some ⟨b, i * 13, none⟩)) (CV x.1)).run Try.prog w = .ok () W ∧ AtC W b (T.set i x) ∧ Chg (· = b) w W := by
  obtain ⟨W, h1, h2, h3⟩ := At.store (P := Try.prog) encT_len encT_one h i hi x
  exact ⟨W, run_storeA (size_ct w) rfl h1, h2, h3⟩
theorem w64_in {n : Int} (h : -9223372036854775808 ≤ n ∧ n ≤ 9223372036854775807) : wrap64 n = n := by unfold wrap64; omega
theorem w64_add (i k N : Nat) (h : i + k ≤ N) (hN : N ≤ 1000000) : wrap64 ((i : Int) + (k : Int)) = ((i + k : Nat) : Int) := by unfold wrap64; omega
theorem w64_sub (i k N : Nat) (h : k ≤ i) (h2 : i ≤ N) (hN : N ≤ 1000000) : wrap64 ((i : Int) - (k : Int)) = ((i - k : Nat) : Int) := by unfold wrap64; omega
theorem chg_trans {b : Nat} {w W w' : World} (h : Chg (· = b) w W) (k : Chg (· = b) W w') : Chg (· = b) w w' := h.trans k
theorem drew_chg {b : Nat} (w : World) : Chg (· = b) w w.drew := (Chg.refl w).drew
set_option maxRecDepth 100000 in
set_option maxHeartbeats 2000000 in
theorem swapRange_any (b N cap : Nat) (v : Value) (P A Q B R : List (C × Nat)) (i j n : Nat) (hP : P.length = i) (hA : A.length = n) (hB : B.length = n) (hQ : i + n + Q.length = j) (hN : (P ++ A ++ Q ++ B ++ R).length = N) (hm : N ≤ 1000000) (w : World) (h : AtC w b (P ++ A ++ Q ++ B ++ R)) :
    Calls Try.prog 85 #[.slice (some ⟨b, 0, none⟩) N cap, .int .i64 i, .int .i64 j, .int .i64 n, v] w fun e w' => e = .returned (.tuple #[]) ∧ AtC w' b (P ++ B ++ Q ++ A ++ R) ∧ Chg (· = b) w w' := by
  have HL := Lib.hid (And.intro hP (And.intro hA (And.intro hB (And.intro hQ (And.intro hN hm)))))
  have H0 := Lib.hid h
  have hnm : n ≤ 1000000 := by simp only [List.length_append] at hN; omega
  clear hP hA hB hQ hN hm h
  go_enter Try.func85, Try.ntmps85
  go_wp2_with fail
  go_loopg [10] n (fun g s wr => ∃ (k : Nat) (A1 A2 B1 B2 : List (C × Nat)), s = .int .i64 k ∧ A = A1 ++ A2 ∧ B = B1 ++ B2 ∧ A1.length = k ∧ B1.length = k ∧ k ≤ n ∧ AtC wr b (P ++ (B1 ++ A2) ++ Q ++ (A1 ++ B2) ++ R) ∧ Chg (· = b) w wr ∧ n - k ≤ g)
  case atStart => exact ⟨0, [], A, [], B, rfl, rfl, rfl, rfl, rfl, Nat.zero_le _, H0.out, Chg.refl _, Nat.le_refl _⟩
  case round =>
    obtain ⟨k, A1, A2, B1, B2, rfl, eA, eB, h1, h2, hk, hAt, hC, hg⟩ := hrel
    have HE := Lib.hid (And.intro eA (And.intro eB (And.intro h1 h2)))
    have HC := Lib.hid hC
    have HT := Lib.hid hAt
    clear eA eB h1 h2 hC hAt
    by_cases hik : k < n
    · obtain ⟨x, A3, e3⟩ : ∃ x A3, A2 = x :: A3 := by
        cases A2 with
        | nil => have := HL.out; have h := HE.out; rw [h.1] at this; simp at this; omega
        | cons x A3 => exact ⟨x, A3, rfl⟩
      obtain ⟨y, B3, e4⟩ : ∃ y B3, B2 = y :: B3 := by
        cases B2 with
        | nil => have := HL.out; have h := HE.out; rw [h.2.1] at this; simp at this; omega
        | cons y B3 => exact ⟨y, B3, rfl⟩
      subst e3 e4
      obtain ⟨q1, q2, q3, q4, q5, q6⟩ := HL.out
      obtain ⟨p1, p2, p3, p4⟩ := HE.out
      rw [p1, p2] at q5
      rw [p1] at q2
      rw [p2] at q3
      simp only [List.length_append, List.length_cons] at q2 q3 q5
      have E0 : P ++ (B1 ++ x :: A3) ++ Q ++ (A1 ++ y :: B3) ++ R = (P ++ B1) ++ x :: ((A3 ++ Q ++ A1) ++ y :: (B3 ++ R)) := by simp
      have hi : i + k = (P ++ B1).length := by rw [List.length_append]; omega
      have hj : j + k = (P ++ B1).length + 1 + (A3 ++ Q ++ A1).length := by simp only [List.length_append]; omega
      have hD := HT.out.ext (Ext.drew wr)
      rw [E0] at hD
      have l1 := ld hD (P ++ B1) _ x rfl (i + k) hi
      have l2 := ld hD ((P ++ B1) ++ x :: (A3 ++ Q ++ A1)) (B3 ++ R) y (by simp) (j + k) (by rw [hj]; simp [Nat.add_assoc, Nat.add_comm 1])
      obtain ⟨W1, s1, t1, c1⟩ := st hD (i + k) (by rw [hi]; simp) y
      obtain ⟨W2, s2, t2, c2⟩ := st t1 (j + k) (by rw [hj, List.length_set]; simp; omega) x
      rw [hi, hj, set2] at t2
      have HT2 := Lib.hid (show AtC W2 b (P ++ (B1 ++ [y] ++ A3) ++ Q ++ (A1 ++ [x] ++ B3) ++ R) by
        have e : P ++ (B1 ++ [y] ++ A3) ++ Q ++ (A1 ++ [x] ++ B3) ++ R = (P ++ B1) ++ y :: ((A3 ++ Q ++ A1) ++ x :: (B3 ++ R)) := by simp
        rw [e]; exact t2)
      have HC2 := Lib.hid (show Chg (· = b) w W2 from ((HC.out.trans (drew_chg wr)).trans c1).trans c2)
      have b1 : i + k < N := by omega
      have b2 : j + k < N := by omega
      have wi := w64_add i k N (Nat.le_of_lt b1) q6
      have wj := w64_add j k N (Nat.le_of_lt b2) q6
      clear t1 t2 c1 c2 hD E0 hi hj q1 q2 q3 q4 q5 q6 p1 p2 p3 p4
      go_wp2_with fail
      refine wp_region_segsK [([13, 1, 5, 5], 0, 0), ([3, 3], 2, 21), ([1, 2], 1, 0), ([1, 1], 0, 0), ([1], 1, 0)] (by kernel_rfl) (by kernel_rfl) ?_
      apply segsK_pure
      · intro W
        simp only [runsT, runsF, rep, pick]
        go_wp2_with (first | refine Arr.wpList_ldA rfl _ _ rfl _ l1 ?_ | refine Arr.wpList_ldA rfl _ _ rfl _ l2 ?_)
        exact ⟨rfl, rfl⟩
      simp only [runsT, runsF, rep, left]
      apply segsK_look
      · simp only [runsT, runsF, rep, pick]
        go_wp2_with (first | refine Arr.wpList_ldA rfl _ _ rfl _ l1 ?_ | refine Arr.wpList_ldA rfl _ _ rfl _ l2 ?_)
        exact ⟨rfl, rfl⟩
      simp only [runsT, runsF, rep, left]
      apply segsK_op
      refine Arr.wpList_stA rfl _ _ _ rfl rfl s1 ?_
      go_wp2_with fail
      refine ⟨fun h => (by cases h), ?_⟩
      apply segsK_pure
      · intro W
        simp only [runsT, runsF, rep, pick]
        go_wp2_with (first | refine Arr.wpList_ldA rfl _ _ rfl _ l1 ?_ | refine Arr.wpList_ldA rfl _ _ rfl _ l2 ?_)
        exact ⟨rfl, rfl⟩
      simp only [runsT, runsF, rep, left]
      apply segsK_op
      refine Arr.wpList_stA rfl _ _ _ rfl rfl s2 ?_
      go_wp2_with fail
      refine ⟨fun h => (by cases h), ?_⟩
      apply segsK_nil
      go_wp2_with fail
      go_roundg (n - (k + 1))
      case measure => omega
      case rel => exact ⟨k + 1, A1 ++ [x], A3, B1 ++ [y], B3, by go_num, by rw [HE.out.1]; simp, by rw [HE.out.2.1]; simp, by simp [HE.out.2.2.1], by simp [HE.out.2.2.2], by omega, HT2.out, HC2.out, Nat.le_refl _⟩
    · obtain rfl : k = n := by omega
      have hdn : decide ((k : Int) < (k : Int)) = false := decide_eq_false (by omega)
      go_wp2_with fail
      go_end0
      obtain ⟨q1, q2, q3, q4, q5, q6⟩ := HL.out
      obtain ⟨p1, p2, p3, p4⟩ := HE.out
      have eA : A2 = [] := by rw [p1] at q2; simp at q2; exact List.eq_nil_of_length_eq_zero (by omega)
      have eB : B2 = [] := by rw [p2] at q3; simp at q3; exact List.eq_nil_of_length_eq_zero (by omega)
      subst eA eB
      rw [p1, p2]
      have := HT.out
      exact ⟨rfl, by simpa only [List.append_nil] using this, HC.out⟩
end Go.Proofs.Ytbjkpiobfiebhaa.Hs
