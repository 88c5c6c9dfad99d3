/-
  Histories: the merge of rows of calls: two rows of two or more.
  No condition but lengths.
-/
import Derived.Test.YtbjkpiobfiebhaaHsG1
namespace Go.Proofs.Ytbjkpiobfiebhaa.Hs
open Go.RowKit Go.Seg Go.Open Go.Lib Go.Arr Go.Stab

set_option maxRecDepth 100000 in
set_option maxHeartbeats 4000000 in
theorem symMerge_midA (b N cap bx : Nat) (K : World → Prop) (key : C → Int) (hK : CmpOk bx b K key) (P U V Q : List (C × Nat)) (i m n c0 t : Nat) (hc0 : (i + n) / 2 = c0) (ht0 : c0 + m = t) (hmc : c0 < m) (hP : P.length = i) (hU : i + U.length = m) (hV : m + V.length = n) (hU2 : 2 ≤ U.length) (hV2 : 2 ≤ V.length)
    (hsu : Srt key U) (hsv : Srt key V) (htg : Tags U V) (hIH : SM b N cap bx K key (U.length + V.length)) (hN : (P ++ U ++ V ++ Q).length = N) (hm : N ≤ 1000000) (w : World) (h : AtC w b (P ++ U ++ V ++ Q)) (hKw : K w) :
    Calls Try.prog 66 #[.slice (some ⟨b, 0, none⟩) N cap, .int .i64 i, .int .i64 m, .int .i64 n, FV bx] w fun e w' => e = .returned (.tuple #[]) ∧ (∃ M', Done key (U ++ V) M' ∧ AtC w' b (P ++ M' ++ Q)) ∧ Chg (· = b) w w' := by
  unfold FV
  obtain ⟨lo, hlo⟩ : ∃ lo : Nat, c0 + m - n = lo := ⟨_, rfl⟩
  obtain ⟨hi, hhi⟩ : ∃ hi : Nat, c0 = hi := ⟨_, rfl⟩
  obtain ⟨pp, hpp⟩ : ∃ pp : Nat, t = pp + 1 := ⟨t - 1, by omega⟩
  have bN : n ≤ N := by simp only [List.length_append] at hN; omega
  have f1 : i ≤ lo ∧ lo ≤ hi ∧ hi ≤ m ∧ hi ≤ c0 ∧ t ≤ n + lo ∧ (lo = i ∨ lo + n = t) ∧ (hi = m ∨ hi = c0) := by omega
  have HF := Lib.hid f1
  have HLH := Lib.hid (And.intro (show lo + n = t by omega) hhi)
  clear hlo hhi
  have HK := Lib.hid hK
  have HKw := Lib.hid hKw
  have HS := Lib.hid (And.intro hsu (And.intro hsv htg))
  have HI := Lib.hid hIH
  have HT := Lib.hid h
  have HN := Lib.hid hN
  have HP := Lib.hid (And.intro hP (And.intro hU (And.intro hV (And.intro hU2 hV2))))
  have HC0 := Lib.hid (And.intro hc0 (And.intro ht0 hpp))
  have d1 : ((m : Int) - (i : Int) == 1) = false := beq_eq_false_iff_ne.2 (by omega)
  have d1' : ¬ ((m : Int) - (i : Int) = 1) := by omega
  have d3 : ((n : Int) - (m : Int) == 1) = false := beq_eq_false_iff_ne.2 (by omega)
  have d3' : ¬ ((n : Int) - (m : Int) = 1) := by omega
  have e1 : ((i : Int) + (n : Int)) / 2 = (c0 : Int) := by omega
  have e2 : (c0 : Int) + (m : Int) = (t : Int) := by omega
  have e3 : (t : Int) - 1 = (pp : Int) := by omega
  have dB : decide ((c0 : Int) < (m : Int)) = true := decide_eq_true (by omega)
  have dB' : decide (c0 < m) = true := decide_eq_true (by omega)
  have bt : t ≤ 2000000 := by omega
  have bm : m ≤ n := by omega
  have bi : i ≤ m := by omega
  clear hK hKw hsu hsv htg hIH h hN hP hU hV hU2 hV2 hc0 ht0 hpp f1
  go_enter Try.func66, Try.ntmps66
  obtain ⟨T, hT⟩ : ∃ T, T = rt 8 bd := ⟨_, rfl⟩
  have HTT := Lib.hid hT
  conv at hT => rhs; whnf
  rw [← hT]
  clear hT
  go_wp2_with fail
  clear d1 d1' d3 d3' e1 e2 e3 dB dB' hmc
  go_loopg [20, 21] n (fun g s u wr => ∃ (p q : Nat), s = .int .i64 p ∧ u = .int .i64 q ∧ Hid (CutA key U V i m t p ∧ CutB key U V i m t q ∧ AtC wr b (P ++ U ++ V ++ Q) ∧ Chg (· = b) w wr) ∧ lo ≤ p ∧ p ≤ q ∧ q ≤ hi ∧ q - p ≤ g)
  case atStart =>
    have h1 := HP.out; have h2 := HC0.out; have h3 := HF.out; have h4 := HLH.out
    refine ⟨lo, hi, by first | rw [h4.1] | (congr 1; omega), by first | rw [h4.2] | (congr 1; omega), Lib.hid ⟨fun S x R S' y R' eU eV g1 g2 => ?_, fun S x R S' y R' eU eV g1 g2 => ?_, HT.out, Chg.refl _⟩, Nat.le_refl _, h3.2.1, Nat.le_refl _, by omega⟩
    · rw [eU, eV] at h1; simp at h1; omega
    · rw [eU, eV] at h1; simp at h1; omega
  case round =>
    obtain ⟨p, q, rfl, rfl, HR, hp, hpq, hq, hg⟩ := hrel
    have HCg := Lib.hid HR.out.2.2.2
    have bq : q ≤ 1000000 := by have := HF.out; omega
    by_cases hlt : p < q
    · have d0 : decide ((p : Int) < (q : Int)) = true := decide_eq_true (by omega)
      go_wp2_with fail
      obtain ⟨c, ec⟩ : ∃ c, (p + q) / 2 = c := ⟨_, rfl⟩
      have e2 : ((p : Int) + (q : Int)) / 2 = (c : Int) := by omega
      rw [e2]
      have h1 := HP.out; have h2 := HC0.out; have h3 := HF.out
      obtain ⟨d, ed⟩ : ∃ d : Nat, d + c = pp := ⟨pp - c, by omega⟩
      have e5 : (pp : Int) - (c : Int) = (d : Int) := by omega
      obtain ⟨S, x, R, eU, hS⟩ := split_at U (c - i) (by omega)
      obtain ⟨S', y, R', eV, hS'⟩ := split_at V (d - m) (by omega)
      have HV := Lib.hid (show U = S ++ x :: R ∧ V = S' ++ y :: R' ∧ i + S.length = c ∧ m + S'.length + 1 + c = t from ⟨eU, eV, by omega, by omega⟩)
      have hD := HR.out.2.2.1.ext (Ext.drew wr)
      have l1 := ld hD (P ++ U ++ S') (R' ++ Q) y (by rw [eV]; simp) d (by simp; omega)
      have l2 := ld hD (P ++ S) (R ++ V ++ Q) x (by rw [eU]; simp) c (by simp; omega)
      have hcN : c < N := by omega
      have hdN : d < N := by omega
      have HB := Lib.hid (And.intro (show p ≤ c ∧ c < q by omega) hg)
      clear hD eU eV hS hS' ec e2 h1 h2 h3 ed hlt hpq hg d0
      by_cases hk : key y.1 < key x.1
      · have HLT := Lib.hid hk
        clear hk
        refine wp_region_segsK [([6, 1, 3, 4], 0, 0), ([2, 3], 2, 11), ([1, 2], 1, 0), ([2], 0, 0)] (by kernel_rfl) (by kernel_rfl) ?_
        apply segsK_pure
        · intro W
          simp only [runsT, runsF, rep, pick]
          go_wp2_with (first | refine Arr.wpList_ldA rfl _ _ rfl _ l1 ?_ | refine Arr.wpList_ldA rfl _ _ rfl _ l2 ?_)
          exact ⟨rfl, rfl⟩
        simp only [runsT, runsF, rep, left]
        apply segsK_look
        · simp only [runsT, runsF, rep, pick]
          go_wp2_with (first | refine Arr.wpList_ldA rfl _ _ rfl _ l1 ?_ | refine Arr.wpList_ldA rfl _ _ rfl _ l2 ?_)
          exact ⟨rfl, rfl⟩
        simp only [runsT, runsF, rep, left]
        apply segsK_op
        go_wp2_with fail
        refine (HK.out.call _ (HK.out.kept _ _ HKw.out (HCg.out.trans (drew_chg wr))) y.1 x.1).mono ?_
        rintro e w1 ⟨⟨cc, rfl, hc⟩, hE⟩
        have dc : decide (cc < 0) = true := decide_eq_true (hc.2 HLT.out)
        have HE1 := Lib.hid (show Ext wr w1 from hE.of_drew)
        clear hc hE
        go_wp2_with fail
        refine ⟨fun h => (by cases h), ?_⟩
        apply segsK_pure
        · intro W
          simp only [runsT, runsF, rep, pick]
          go_wp2_with (first | refine Arr.wpList_ldA rfl _ _ rfl _ l1 ?_ | refine Arr.wpList_ldA rfl _ _ rfl _ l2 ?_)
          exact ⟨rfl, rfl⟩
        simp only [runsT, runsF, rep, left]
        apply segsK_nil
        go_wp2_with fail
        obtain ⟨⟨hb1, hb2⟩, hg⟩ := HB.out
        go_roundg (c - p)
        case measure => omega
        case rel =>
          refine ⟨p, c, rfl, rfl, Lib.hid ⟨HR.out.1, fun S1 x1 R1 S2 y1 R2 g1 g2 g3 g4 => ?_, HR.out.2.2.1.ext HE1.out, chg_ext HCg.out HE1.out⟩, hp, hb1, by omega, Nat.le_refl _⟩
          have h := HV.out
          rw [h.1] at g1
          rw [h.2.1] at g2
          rw [← uniq_at g1 (by omega), ← uniq_at g2 (by omega)]
          exact HLT.out
      · have HLT := Lib.hid (Int.not_lt.1 hk)
        clear hk
        refine wp_region_segsK [([6, 1, 3, 4], 0, 0), ([2, 3], 2, 11), ([1, 2], 1, 0), ([2], 0, 0)] (by kernel_rfl) (by kernel_rfl) ?_
        apply segsK_pure
        · intro W
          simp only [runsT, runsF, rep, pick]
          go_wp2_with (first | refine Arr.wpList_ldA rfl _ _ rfl _ l1 ?_ | refine Arr.wpList_ldA rfl _ _ rfl _ l2 ?_)
          exact ⟨rfl, rfl⟩
        simp only [runsT, runsF, rep, left]
        apply segsK_look
        · simp only [runsT, runsF, rep, pick]
          go_wp2_with (first | refine Arr.wpList_ldA rfl _ _ rfl _ l1 ?_ | refine Arr.wpList_ldA rfl _ _ rfl _ l2 ?_)
          exact ⟨rfl, rfl⟩
        simp only [runsT, runsF, rep, left]
        apply segsK_op
        go_wp2_with fail
        refine (HK.out.call _ (HK.out.kept _ _ HKw.out (HCg.out.trans (drew_chg wr))) y.1 x.1).mono ?_
        rintro e w1 ⟨⟨cc, rfl, hc⟩, hE⟩
        have dc : decide (cc < 0) = false := decide_eq_false (fun h => absurd (hc.1 h) (by have := HLT.out; omega))
        have HE1 := Lib.hid (show Ext wr w1 from hE.of_drew)
        clear hc hE
        go_wp2_with fail
        refine ⟨fun h => (by cases h), ?_⟩
        apply segsK_pure
        · intro W
          simp only [runsT, runsF, rep, pick]
          go_wp2_with (first | refine Arr.wpList_ldA rfl _ _ rfl _ l1 ?_ | refine Arr.wpList_ldA rfl _ _ rfl _ l2 ?_)
          exact ⟨rfl, rfl⟩
        simp only [runsT, runsF, rep, left]
        apply segsK_nil
        go_wp2_with fail
        obtain ⟨⟨hb1, hb2⟩, hg⟩ := HB.out
        go_roundg (q - (c + 1))
        case measure => omega
        case rel =>
          refine ⟨c + 1, q, by congr 1, rfl, Lib.hid ⟨fun S1 x1 R1 S2 y1 R2 g1 g2 g3 g4 => ?_, HR.out.2.1, HR.out.2.2.1.ext HE1.out, chg_ext HCg.out HE1.out⟩, by omega, by omega, hq, Nat.le_refl _⟩
          have h := HV.out
          rw [h.1] at g1
          rw [h.2.1] at g2
          rw [← uniq_at g1 (by omega), ← uniq_at g2 (by omega)]
          exact HLT.out
    · obtain rfl : p = q := by omega
      have d0 : decide ((p : Int) < (p : Int)) = false := decide_eq_false (by omega)
      have x1 := HP.out; have x2 := HC0.out; have x3 := HF.out; have x4 := HS.out; have x5 := HN.out
      obtain ⟨U1, U2, V1, V2, e, hct⟩ := cut_rows (n := n) x1.2.1 x1.2.2.1 x2.2.1 (show i ≤ p by omega) (by omega) (by omega) (by omega) x4.1 x4.2.1 x4.2.2 HR.out.1 HR.out.2.1
      have HTL : Hid (Tail b N bx K key P U V Q i m n c0 t p e U1 U2 V1 V2 w) := Lib.hid ⟨HK.out, HKw.out, x1.1, by rw [hct.eU, hct.eV] at x5; simpa only [List.append_assoc] using x5, hct, by omega, by omega⟩
      have HW : Hid (AtC wr b (P ++ U1 ++ U2 ++ V1 ++ (V2 ++ Q)) ∧ Chg (· = b) w wr) := Lib.hid ⟨by have h := HR.out.2.2.1; rw [hct.eU, hct.eV] at h; simpa only [List.append_assoc] using h, HR.out.2.2.2⟩
      clear x1 x2 x3 x4 x5 hct hlt hpq hg hp hq bq
      go_wp2_with fail
      rw [HTT.out]
      refine tail1 b N cap bx K key P U V Q i m n c0 t p e U1 U2 V1 V2 w _ HTL HI hm bN HW (fun tm w' hp => ?_)
      go_end0
      exact ⟨rfl, hp⟩


set_option maxRecDepth 100000 in
set_option maxHeartbeats 4000000 in
theorem symMerge_midB (b N cap bx : Nat) (K : World → Prop) (key : C → Int) (hK : CmpOk bx b K key) (P U V Q : List (C × Nat)) (i m n c0 t : Nat) (hc0 : (i + n) / 2 = c0) (ht0 : c0 + m = t) (hmc : m ≤ c0) (hP : P.length = i) (hU : i + U.length = m) (hV : m + V.length = n) (hU2 : 2 ≤ U.length) (hV2 : 2 ≤ V.length)
    (hsu : Srt key U) (hsv : Srt key V) (htg : Tags U V) (hIH : SM b N cap bx K key (U.length + V.length)) (hN : (P ++ U ++ V ++ Q).length = N) (hm : N ≤ 1000000) (w : World) (h : AtC w b (P ++ U ++ V ++ Q)) (hKw : K w) :
    Calls Try.prog 66 #[.slice (some ⟨b, 0, none⟩) N cap, .int .i64 i, .int .i64 m, .int .i64 n, FV bx] w fun e w' => e = .returned (.tuple #[]) ∧ (∃ M', Done key (U ++ V) M' ∧ AtC w' b (P ++ M' ++ Q)) ∧ Chg (· = b) w w' := by
  unfold FV
  obtain ⟨lo, hlo⟩ : ∃ lo : Nat, i = lo := ⟨_, rfl⟩
  obtain ⟨hi, hhi⟩ : ∃ hi : Nat, m = hi := ⟨_, rfl⟩
  obtain ⟨pp, hpp⟩ : ∃ pp : Nat, t = pp + 1 := ⟨t - 1, by omega⟩
  have bN : n ≤ N := by simp only [List.length_append] at hN; omega
  have f1 : i ≤ lo ∧ lo ≤ hi ∧ hi ≤ m ∧ hi ≤ c0 ∧ t ≤ n + lo ∧ (lo = i ∨ lo + n = t) ∧ (hi = m ∨ hi = c0) := by omega
  have HF := Lib.hid f1
  have HLH := Lib.hid (And.intro (show lo = i by omega) hhi)
  clear hlo hhi
  have HK := Lib.hid hK
  have HKw := Lib.hid hKw
  have HS := Lib.hid (And.intro hsu (And.intro hsv htg))
  have HI := Lib.hid hIH
  have HT := Lib.hid h
  have HN := Lib.hid hN
  have HP := Lib.hid (And.intro hP (And.intro hU (And.intro hV (And.intro hU2 hV2))))
  have HC0 := Lib.hid (And.intro hc0 (And.intro ht0 hpp))
  have d1 : ((m : Int) - (i : Int) == 1) = false := beq_eq_false_iff_ne.2 (by omega)
  have d1' : ¬ ((m : Int) - (i : Int) = 1) := by omega
  have d3 : ((n : Int) - (m : Int) == 1) = false := beq_eq_false_iff_ne.2 (by omega)
  have d3' : ¬ ((n : Int) - (m : Int) = 1) := by omega
  have e1 : ((i : Int) + (n : Int)) / 2 = (c0 : Int) := by omega
  have e2 : (c0 : Int) + (m : Int) = (t : Int) := by omega
  have e3 : (t : Int) - 1 = (pp : Int) := by omega
  have dB : decide ((c0 : Int) < (m : Int)) = false := decide_eq_false (by omega)
  have dB' : decide (c0 < m) = false := decide_eq_false (by omega)
  have bt : t ≤ 2000000 := by omega
  have bm : m ≤ n := by omega
  have bi : i ≤ m := by omega
  clear hK hKw hsu hsv htg hIH h hN hP hU hV hU2 hV2 hc0 ht0 hpp f1
  go_enter Try.func66, Try.ntmps66
  obtain ⟨T, hT⟩ : ∃ T, T = rt 8 bd := ⟨_, rfl⟩
  have HTT := Lib.hid hT
  conv at hT => rhs; whnf
  rw [← hT]
  clear hT
  go_wp2_with fail
  clear d1 d1' d3 d3' e1 e2 e3 dB dB' hmc
  go_loopg [20, 21] n (fun g s u wr => ∃ (p q : Nat), s = .int .i64 p ∧ u = .int .i64 q ∧ Hid (CutA key U V i m t p ∧ CutB key U V i m t q ∧ AtC wr b (P ++ U ++ V ++ Q) ∧ Chg (· = b) w wr) ∧ lo ≤ p ∧ p ≤ q ∧ q ≤ hi ∧ q - p ≤ g)
  case atStart =>
    have h1 := HP.out; have h2 := HC0.out; have h3 := HF.out; have h4 := HLH.out
    refine ⟨lo, hi, by first | rw [h4.1] | (congr 1; omega), by first | rw [h4.2] | (congr 1; omega), Lib.hid ⟨fun S x R S' y R' eU eV g1 g2 => ?_, fun S x R S' y R' eU eV g1 g2 => ?_, HT.out, Chg.refl _⟩, Nat.le_refl _, h3.2.1, Nat.le_refl _, by omega⟩
    · rw [eU, eV] at h1; simp at h1; omega
    · rw [eU, eV] at h1; simp at h1; omega
  case round =>
    obtain ⟨p, q, rfl, rfl, HR, hp, hpq, hq, hg⟩ := hrel
    have HCg := Lib.hid HR.out.2.2.2
    have bq : q ≤ 1000000 := by have := HF.out; omega
    by_cases hlt : p < q
    · have d0 : decide ((p : Int) < (q : Int)) = true := decide_eq_true (by omega)
      go_wp2_with fail
      obtain ⟨c, ec⟩ : ∃ c, (p + q) / 2 = c := ⟨_, rfl⟩
      have e2 : ((p : Int) + (q : Int)) / 2 = (c : Int) := by omega
      rw [e2]
      have h1 := HP.out; have h2 := HC0.out; have h3 := HF.out
      obtain ⟨d, ed⟩ : ∃ d : Nat, d + c = pp := ⟨pp - c, by omega⟩
      have e5 : (pp : Int) - (c : Int) = (d : Int) := by omega
      obtain ⟨S, x, R, eU, hS⟩ := split_at U (c - i) (by omega)
      obtain ⟨S', y, R', eV, hS'⟩ := split_at V (d - m) (by omega)
      have HV := Lib.hid (show U = S ++ x :: R ∧ V = S' ++ y :: R' ∧ i + S.length = c ∧ m + S'.length + 1 + c = t from ⟨eU, eV, by omega, by omega⟩)
      have hD := HR.out.2.2.1.ext (Ext.drew wr)
      have l1 := ld hD (P ++ U ++ S') (R' ++ Q) y (by rw [eV]; simp) d (by simp; omega)
      have l2 := ld hD (P ++ S) (R ++ V ++ Q) x (by rw [eU]; simp) c (by simp; omega)
      have hcN : c < N := by omega
      have hdN : d < N := by omega
      have HB := Lib.hid (And.intro (show p ≤ c ∧ c < q by omega) hg)
      clear hD eU eV hS hS' ec e2 h1 h2 h3 ed hlt hpq hg d0
      by_cases hk : key y.1 < key x.1
      · have HLT := Lib.hid hk
        clear hk
        refine wp_region_segsK [([6, 1, 3, 4], 0, 0), ([2, 3], 2, 11), ([1, 2], 1, 0), ([2], 0, 0)] (by kernel_rfl) (by kernel_rfl) ?_
        apply segsK_pure
        · intro W
          simp only [runsT, runsF, rep, pick]
          go_wp2_with (first | refine Arr.wpList_ldA rfl _ _ rfl _ l1 ?_ | refine Arr.wpList_ldA rfl _ _ rfl _ l2 ?_)
          exact ⟨rfl, rfl⟩
        simp only [runsT, runsF, rep, left]
        apply segsK_look
        · simp only [runsT, runsF, rep, pick]
          go_wp2_with (first | refine Arr.wpList_ldA rfl _ _ rfl _ l1 ?_ | refine Arr.wpList_ldA rfl _ _ rfl _ l2 ?_)
          exact ⟨rfl, rfl⟩
        simp only [runsT, runsF, rep, left]
        apply segsK_op
        go_wp2_with fail
        refine (HK.out.call _ (HK.out.kept _ _ HKw.out (HCg.out.trans (drew_chg wr))) y.1 x.1).mono ?_
        rintro e w1 ⟨⟨cc, rfl, hc⟩, hE⟩
        have dc : decide (cc < 0) = true := decide_eq_true (hc.2 HLT.out)
        have HE1 := Lib.hid (show Ext wr w1 from hE.of_drew)
        clear hc hE
        go_wp2_with fail
        refine ⟨fun h => (by cases h), ?_⟩
        apply segsK_pure
        · intro W
          simp only [runsT, runsF, rep, pick]
          go_wp2_with (first | refine Arr.wpList_ldA rfl _ _ rfl _ l1 ?_ | refine Arr.wpList_ldA rfl _ _ rfl _ l2 ?_)
          exact ⟨rfl, rfl⟩
        simp only [runsT, runsF, rep, left]
        apply segsK_nil
        go_wp2_with fail
        obtain ⟨⟨hb1, hb2⟩, hg⟩ := HB.out
        go_roundg (c - p)
        case measure => omega
        case rel =>
          refine ⟨p, c, rfl, rfl, Lib.hid ⟨HR.out.1, fun S1 x1 R1 S2 y1 R2 g1 g2 g3 g4 => ?_, HR.out.2.2.1.ext HE1.out, chg_ext HCg.out HE1.out⟩, hp, hb1, by omega, Nat.le_refl _⟩
          have h := HV.out
          rw [h.1] at g1
          rw [h.2.1] at g2
          rw [← uniq_at g1 (by omega), ← uniq_at g2 (by omega)]
          exact HLT.out
      · have HLT := Lib.hid (Int.not_lt.1 hk)
        clear hk
        refine wp_region_segsK [([6, 1, 3, 4], 0, 0), ([2, 3], 2, 11), ([1, 2], 1, 0), ([2], 0, 0)] (by kernel_rfl) (by kernel_rfl) ?_
        apply segsK_pure
        · intro W
          simp only [runsT, runsF, rep, pick]
          go_wp2_with (first | refine Arr.wpList_ldA rfl _ _ rfl _ l1 ?_ | refine Arr.wpList_ldA rfl _ _ rfl _ l2 ?_)
          exact ⟨rfl, rfl⟩
        simp only [runsT, runsF, rep, left]
        apply segsK_look
        · simp only [runsT, runsF, rep, pick]
          go_wp2_with (first | refine Arr.wpList_ldA rfl _ _ rfl _ l1 ?_ | refine Arr.wpList_ldA rfl _ _ rfl _ l2 ?_)
          exact ⟨rfl, rfl⟩
        simp only [runsT, runsF, rep, left]
        apply segsK_op
        go_wp2_with fail
        refine (HK.out.call _ (HK.out.kept _ _ HKw.out (HCg.out.trans (drew_chg wr))) y.1 x.1).mono ?_
        rintro e w1 ⟨⟨cc, rfl, hc⟩, hE⟩
        have dc : decide (cc < 0) = false := decide_eq_false (fun h => absurd (hc.1 h) (by have := HLT.out; omega))
        have HE1 := Lib.hid (show Ext wr w1 from hE.of_drew)
        clear hc hE
        go_wp2_with fail
        refine ⟨fun h => (by cases h), ?_⟩
        apply segsK_pure
        · intro W
          simp only [runsT, runsF, rep, pick]
          go_wp2_with (first | refine Arr.wpList_ldA rfl _ _ rfl _ l1 ?_ | refine Arr.wpList_ldA rfl _ _ rfl _ l2 ?_)
          exact ⟨rfl, rfl⟩
        simp only [runsT, runsF, rep, left]
        apply segsK_nil
        go_wp2_with fail
        obtain ⟨⟨hb1, hb2⟩, hg⟩ := HB.out
        go_roundg (q - (c + 1))
        case measure => omega
        case rel =>
          refine ⟨c + 1, q, by congr 1, rfl, Lib.hid ⟨fun S1 x1 R1 S2 y1 R2 g1 g2 g3 g4 => ?_, HR.out.2.1, HR.out.2.2.1.ext HE1.out, chg_ext HCg.out HE1.out⟩, by omega, by omega, hq, Nat.le_refl _⟩
          have h := HV.out
          rw [h.1] at g1
          rw [h.2.1] at g2
          rw [← uniq_at g1 (by omega), ← uniq_at g2 (by omega)]
          exact HLT.out
    · obtain rfl : p = q := by omega
      have d0 : decide ((p : Int) < (p : Int)) = false := decide_eq_false (by omega)
      have x1 := HP.out; have x2 := HC0.out; have x3 := HF.out; have x4 := HS.out; have x5 := HN.out
      obtain ⟨U1, U2, V1, V2, e, hct⟩ := cut_rows (n := n) x1.2.1 x1.2.2.1 x2.2.1 (show i ≤ p by omega) (by omega) (by omega) (by omega) x4.1 x4.2.1 x4.2.2 HR.out.1 HR.out.2.1
      have HTL : Hid (Tail b N bx K key P U V Q i m n c0 t p e U1 U2 V1 V2 w) := Lib.hid ⟨HK.out, HKw.out, x1.1, by rw [hct.eU, hct.eV] at x5; simpa only [List.append_assoc] using x5, hct, by omega, by omega⟩
      have HW : Hid (AtC wr b (P ++ U1 ++ U2 ++ V1 ++ (V2 ++ Q)) ∧ Chg (· = b) w wr) := Lib.hid ⟨by have h := HR.out.2.2.1; rw [hct.eU, hct.eV] at h; simpa only [List.append_assoc] using h, HR.out.2.2.2⟩
      clear x1 x2 x3 x4 x5 hct hlt hpq hg hp hq bq
      go_wp2_with fail
      rw [HTT.out]
      refine tail1 b N cap bx K key P U V Q i m n c0 t p e U1 U2 V1 V2 w _ HTL HI hm bN HW (fun tm w' hp => ?_)
      go_end0
      exact ⟨rfl, hp⟩

end Go.Proofs.Ytbjkpiobfiebhaa.Hs
