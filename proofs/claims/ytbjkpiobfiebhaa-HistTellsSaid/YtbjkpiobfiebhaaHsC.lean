/-
  Histories: rows of calls turned and sorted: rotate, and the insertion sort of a part.
  No condition but lengths.
-/
import Derived.Test.YtbjkpiobfiebhaaHsB
namespace Go.Proofs.Ytbjkpiobfiebhaa.Hs
open Go.RowKit Go.Seg Go.Open Go.Lib Go.Arr Go.Stab

theorem swapRange_at (b N cap : Nat) (v : Value) (P A Q B R : List (C × Nat)) (x y z : Int) (i j n : Nat) (hx : x = i) (hy : y = j) (hz : z = n) (hP : P.length = i) (hA : A.length = n) (hB : B.length = n) (hQ : i + n + Q.length = j) (hN : (P ++ A ++ Q ++ B ++ R).length = N) (hm : N ≤ 1000000) (w : World) (h : AtC w b (P ++ A ++ Q ++ B ++ R)) :
    Calls Try.prog 85 #[.slice (some ⟨b, 0, none⟩) N cap, .int .i64 x, .int .i64 y, .int .i64 z, v] w fun e w' => e = .returned (.tuple #[]) ∧ AtC w' b (P ++ B ++ Q ++ A ++ R) ∧ Chg (· = b) w w' := by
  subst hx hy hz
  exact swapRange_any b N cap v P A Q B R i j n hP hA hB hQ hN hm w h
set_option maxRecDepth 100000 in
set_option maxHeartbeats 2000000 in
theorem rotate_any (b N cap : Nat) (v : Value) (P A B Q : List (C × Nat)) (x y z : Int) (i m n : Nat) (hx : x = i) (hy : y = m) (hz : z = n) (hP : P.length = i) (hA : i + A.length = m) (hB : m + B.length = n) (hA0 : 1 ≤ A.length) (hB0 : 1 ≤ B.length) (hN : (P ++ A ++ B ++ Q).length = N) (hm : N ≤ 1000000) (w : World) (h : AtC w b (P ++ A ++ B ++ Q)) :
    Calls Try.prog 76 #[.slice (some ⟨b, 0, none⟩) N cap, .int .i64 x, .int .i64 y, .int .i64 z, v] w fun e w' => e = .returned (.tuple #[]) ∧ AtC w' b (P ++ B ++ A ++ Q) ∧ Chg (· = b) w w' := by
  subst hx hy hz
  have hN' := hN
  simp only [List.length_append] at hN'
  have bn : n ≤ 1000000 := by omega
  have bm : m ≤ n := by omega
  have bi : i ≤ m := by omega
  have HN := Lib.hid (And.intro hN hm)
  have HA0 := Lib.hid (show m - i = A.length ∧ n - m = B.length by omega)
  have HS := Lib.hid (And.intro hP (And.intro hA (And.intro hA0 hB0)))
  have HT := Lib.hid h
  clear hN hN' hm hP hA hB hA0 hB0 h
  go_enter Try.func76, Try.ntmps76
  go_wp2_with fail
  go_loopg [10, 11] (2 * n) (fun g s t wr => ∃ (P1 A1 B1 Q1 : List (C × Nat)) (p q : Nat), s = .int .i64 p ∧ t = .int .i64 q ∧ Hid (A1.length = p ∧ B1.length = q ∧ P1.length + p = m ∧ 1 ≤ p ∧ 1 ≤ q ∧ m + q ≤ n ∧ P1 ++ B1 ++ A1 ++ Q1 = P ++ B ++ A ++ Q ∧ AtC wr b (P1 ++ A1 ++ B1 ++ Q1) ∧ Chg (· = b) w wr ∧ p + q ≤ g))
  case atStart =>
    have h1 := HS.out
    have h2 := HA0.out
    exact ⟨P, A, B, Q, m - i, n - m, by congr 1; omega, by congr 1; omega, Lib.hid ⟨by omega, by omega, by omega, by omega, by omega, by omega, rfl, HT.out, Chg.refl _, by omega⟩⟩
  case round =>
    obtain ⟨P1, A1, B1, Q1, p, q, rfl, rfl, HR⟩ := hrel
    have hl : (P1 ++ A1 ++ B1 ++ Q1).length = N := by
      have h1 := HR.out.2.2.2.2.2.2.1
      have h2 := congrArg List.length h1
      have h3 := HN.out.1
      simp only [List.length_append] at h2 h3 ⊢
      omega
    have HL := Lib.hid hl
    have bp : p ≤ m := by have := HR.out; omega
    have bq : m + q ≤ 1000000 := by have := HR.out; omega
    clear hl
    by_cases hpq : p = q
    · subst hpq
      go_wp2_with fail
      obtain ⟨r1, r2, r3, r4, r5, r6, r7, r8, r9, r10⟩ := HR.out
      refine (swapRange_at b N cap v P1 A1 [] B1 Q1 _ _ _ (m - p) m p (by (try unfold wrap64); omega) (by (try unfold wrap64); omega) (by (try unfold wrap64); omega) (by omega) r1 r2 (by simp; omega) (by simpa using HL.out) HN.out.2 _ (by simpa using r8)).mono ?_
      rintro e w' ⟨rfl, h1, h2⟩
      have H1 := Lib.hid (And.intro h1 h2)
      clear h1 h2 r1 r2 r3 r4 r5 r6 r7 r8 r9 r10
      go_wp2_with fail
      go_end0
      have h := HR.out
      refine ⟨rfl, ?_, h.2.2.2.2.2.2.2.2.1.trans H1.out.2⟩
      have := H1.out.1
      rw [List.append_nil, h.2.2.2.2.2.2.1] at this
      exact this
    · have hne : ((p : Int) == (q : Int)) = false := beq_eq_false_iff_ne.2 (by omega)
      have hne' : ¬ ((p : Int) = (q : Int)) := by omega
      by_cases hgt : q < p
      · have d : decide ((q : Int) < (p : Int)) = true := decide_eq_true (by omega)
        have HG := Lib.hid hgt
        clear hpq
        go_wp2_with fail
        obtain ⟨r1, r2, r3, r4, r5, r6, r7, r8, r9, r10⟩ := HR.out
        have e1 : A1.take q ++ A1.drop q = A1 := List.take_append_drop _ _
        refine (swapRange_at b N cap v P1 (A1.take q) (A1.drop q) B1 Q1 _ _ _ (m - p) m q (by (try unfold wrap64); omega) (by (try unfold wrap64); omega) (by (try unfold wrap64); omega) (by omega) (by simp; omega) r2 (by simp; omega) (by have := HL.out; rw [List.append_assoc P1, e1]; exact this) HN.out.2 _ (by rw [List.append_assoc P1, e1]; exact r8)).mono ?_
        rintro e w' ⟨rfl, h1, h2⟩
        have H1 := Lib.hid (And.intro h1 h2)
        clear h1 h2 r1 r2 r3 r4 r5 r6 r7 r8 r9 r10 e1
        go_wp2_with fail
        obtain ⟨r1, r2, r3, r4, r5, r6, r7, r8, r9, r10⟩ := HR.out
        have e1 : A1.take q ++ A1.drop q = A1 := List.take_append_drop _ _
        go_roundg (p - q + q)
        case measure => omega
        case rel =>
          refine ⟨P1 ++ B1, A1.drop q, A1.take q, Q1, p - q, q, by congr 1; omega, rfl, Lib.hid ⟨by simp; omega, by simp; omega, by simp; omega, by omega, by omega, by omega, ?_, H1.out.1, r9.trans H1.out.2, Nat.le_refl _⟩⟩
          rw [← r7, List.append_assoc (P1 ++ B1), e1]
      · have d : decide ((q : Int) < (p : Int)) = false := decide_eq_false (by omega)
        have HG := Lib.hid (show p < q by omega)
        clear hpq
        go_wp2_with fail
        obtain ⟨r1, r2, r3, r4, r5, r6, r7, r8, r9, r10⟩ := HR.out
        have e1 : B1.take (q - p) ++ B1.drop (q - p) = B1 := List.take_append_drop _ _
        have e2 : P1 ++ A1 ++ B1.take (q - p) ++ B1.drop (q - p) ++ Q1 = P1 ++ A1 ++ B1 ++ Q1 := by rw [List.append_assoc (P1 ++ A1), e1]
        refine (swapRange_at b N cap v P1 A1 (B1.take (q - p)) (B1.drop (q - p)) Q1 _ _ _ (m - p) (m + q - p) p (by (try unfold wrap64); omega) (by (try unfold wrap64); omega) (by (try unfold wrap64); omega) (by omega) r1 (by simp; omega) (by simp; omega) (by rw [e2]; exact HL.out) HN.out.2 _ (by rw [e2]; exact r8)).mono ?_
        rintro e w' ⟨rfl, h1, h2⟩
        have H1 := Lib.hid (And.intro h1 h2)
        clear h1 h2 r1 r2 r3 r4 r5 r6 r7 r8 r9 r10 e1 e2
        go_wp2_with fail
        obtain ⟨r1, r2, r3, r4, r5, r6, r7, r8, r9, r10⟩ := HR.out
        have e1 : B1.take (q - p) ++ B1.drop (q - p) = B1 := List.take_append_drop _ _
        have hg := HG.out
        go_roundg (p + (q - p))
        case measure => omega
        case rel =>
          refine ⟨P1, B1.drop (q - p), B1.take (q - p), A1 ++ Q1, p, q - p, rfl, by congr 1; omega, Lib.hid ⟨by simp; omega, by simp; omega, r3, by omega, by omega, by omega, ?_, ?_, r9.trans H1.out.2, Nat.le_refl _⟩⟩
          · rw [← r7, ← e1]
            simp
          · have := H1.out.1
            simpa using this
end Go.Proofs.Ytbjkpiobfiebhaa.Hs
