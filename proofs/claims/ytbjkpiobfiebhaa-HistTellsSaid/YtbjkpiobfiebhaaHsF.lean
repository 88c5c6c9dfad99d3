/-
  Histories: the merge of rows of calls: one call behind a row in order.
  No condition but lengths.
-/
import Derived.Test.YtbjkpiobfiebhaaHsE
namespace Go.Proofs.Ytbjkpiobfiebhaa.Hs
open Go.RowKit Go.Seg Go.Open Go.Lib Go.Arr Go.Stab

theorem idx_facts {j N : Nat} (h : j + 1 < N) (hN : N ≤ 1000000) : (j : Int) + 1 < (N : Int) ∧ (j : Int) < (N : Int) ∧ (0 : Int) ≤ (j : Int) + 1 ∧ ((j : Int) + 1).toNat = j + 1 ∧ wrap64 (j : Int) = (j : Int) := by
  refine ⟨by omega, by omega, by omega, by omega, ?_⟩
  unfold wrap64
  omega
theorem dec_lt {p j : Nat} (h : p < j + 1) : decide ((p : Int) < (j : Int) + 1) = true := decide_eq_true (by omega)
set_option maxRecDepth 100000 in
set_option maxHeartbeats 4000000 in
theorem symMerge_right (b N cap bx : Nat) (K : World → Prop) (key : C → Int) (hK : CmpOk bx b K key) (P U Q : List (C × Nat)) (x : C × Nat) (i m n : Nat) (hP : P.length = i) (hU : i + U.length = m) (hn : m + 1 = n) (h2 : 2 ≤ U.length) (hs : Srt key U) (ht : ∀ y ∈ U, y.2 < x.2)
    (hN : (P ++ U ++ x :: Q).length = N) (hm : N ≤ 1000000) (w : World) (h : AtC w b (P ++ U ++ x :: Q)) (hKw : K w) :
    Calls Try.prog 66 #[.slice (some ⟨b, 0, none⟩) N cap, .int .i64 i, .int .i64 m, .int .i64 n, FV bx] w fun e w' => e = .returned (.tuple #[]) ∧ (∃ M', Done key (U ++ [x]) M' ∧ AtC w' b (P ++ M' ++ Q)) ∧ Chg (· = b) w w' := by
  unfold FV
  have HK := Lib.hid hK
  have HKw := Lib.hid hKw
  have HS := Lib.hid (And.intro hs ht)
  have HT := Lib.hid h
  have HP := Lib.hid (And.intro hP (And.intro hU hn))
  have bN : n ≤ N := by simp only [List.length_append, List.length_cons] at hN; omega
  have bm : m < n := by omega
  have bi : i + 2 ≤ m := by omega
  have d1 : ((m : Int) - (i : Int) == 1) = false := beq_eq_false_iff_ne.2 (by omega)
  have d1' : ¬ ((m : Int) - (i : Int) = 1) := by omega
  have d3 : (n : Int) - (m : Int) = 1 := by omega
  clear hK hKw hs ht h hN hP hU hn h2
  go_enter Try.func66, Try.ntmps66
  go_wp2_with fail
  clear d1 d1'
  go_loopg [14, 15] n (fun g s t wr => ∃ (p q : Nat), s = .int .i64 p ∧ t = .int .i64 q ∧ Hid ((∀ S z R, U = S ++ z :: R → i + S.length + 1 = p → key z.1 ≤ key x.1) ∧ (∀ S z R, U = S ++ z :: R → i + S.length = q → key x.1 < key z.1) ∧ AtC wr b (P ++ U ++ x :: Q) ∧ Chg (· = b) w wr) ∧ i ≤ p ∧ p ≤ q ∧ q ≤ m ∧ q - p ≤ g)
  case atStart =>
    refine ⟨i, m, rfl, rfl, Lib.hid ⟨fun S z R e hl => by omega, fun S z R e hl => ?_, HT.out, Chg.refl _⟩, Nat.le_refl _, by omega, Nat.le_refl _, by omega⟩
    have := HP.out.2.1
    rw [e] at this
    simp at this
    omega
  case round =>
    obtain ⟨p, q, rfl, rfl, HR, hp, hpq, hq, hg⟩ := hrel
    have HCg := Lib.hid HR.out.2.2.2
    by_cases hlt : p < q
    · have d0 : decide ((p : Int) < (q : Int)) = true := decide_eq_true (by omega)
      go_wp2_with fail
      obtain ⟨c, ec⟩ : ∃ c, (p + q) / 2 = c := ⟨_, rfl⟩
      have e2 : ((p : Int) + (q : Int)) / 2 = (c : Int) := by omega
      rw [e2]
      obtain ⟨S, y, R, eV, hS⟩ := split_at U (c - i) (by have := HP.out.2.1; omega)
      have HV := Lib.hid (And.intro eV (show i + S.length = c by omega))
      have hD := HR.out.2.2.1.ext (Ext.drew wr)
      have l1 := ld hD (P ++ S) (R ++ x :: Q) y (by rw [eV]; simp) c (by have := HP.out; simp; omega)
      have l2 := ld hD (P ++ U) Q x rfl m (by have := HP.out; simp; omega)
      have hcN : c < N := by omega
      have hcb : p ≤ c ∧ c < q := by omega
      have HB := Lib.hid hcb
      clear hD eV hS ec e2 hcb
      by_cases hk : key x.1 < key y.1
      · have HLT := Lib.hid hk
        clear hk
        refine wp_region_segsK [([4, 1, 3, 4], 0, 0), ([2, 3], 2, 9), ([1, 2], 1, 0), ([2], 0, 0)] (by kernel_rfl) (by kernel_rfl) ?_
        apply segsK_pure
        · intro W
          simp only [runsT, runsF, rep, pick]
          go_wp2_with (first | refine Arr.wpList_ldA rfl _ _ rfl _ l1 ?_ | refine Arr.wpList_ldA rfl _ _ rfl _ l2 ?_)
          exact ⟨rfl, rfl⟩
        simp only [runsT, runsF, rep, left]
        apply segsK_look
        · simp only [runsT, runsF, rep, pick]
          go_wp2_with (first | refine Arr.wpList_ldA rfl _ _ rfl _ l1 ?_ | refine Arr.wpList_ldA rfl _ _ rfl _ l2 ?_)
          exact ⟨rfl, rfl⟩
        simp only [runsT, runsF, rep, left]
        apply segsK_op
        go_wp2_with fail
        refine (HK.out.call _ (HK.out.kept _ _ HKw.out (HCg.out.trans (drew_chg wr))) x.1 y.1).mono ?_
        rintro e w1 ⟨⟨cc, rfl, hc⟩, hE⟩
        have dc : decide (cc < 0) = true := decide_eq_true (hc.2 HLT.out)
        have HE1 := Lib.hid (show Ext wr w1 from hE.of_drew)
        clear hc hE
        go_wp2_with fail
        refine ⟨fun h => (by cases h), ?_⟩
        apply segsK_pure
        · intro W
          simp only [runsT, runsF, rep, pick]
          go_wp2_with (first | refine Arr.wpList_ldA rfl _ _ rfl _ l1 ?_ | refine Arr.wpList_ldA rfl _ _ rfl _ l2 ?_)
          exact ⟨rfl, rfl⟩
        simp only [runsT, runsF, rep, left]
        apply segsK_nil
        go_wp2_with fail
        obtain ⟨hb1, hb2⟩ := HB.out
        go_roundg (c - p)
        case measure => omega
        case rel =>
          refine ⟨p, c, rfl, rfl, Lib.hid ⟨HR.out.1, fun S' z R' e hl => ?_, HR.out.2.2.1.ext HE1.out, chg_ext HCg.out HE1.out⟩, hp, hb1, by omega, Nat.le_refl _⟩
          rw [HV.out.1] at e
          have := uniq_at e (by have := HV.out.2; omega)
          rw [← this]
          exact HLT.out
      · have HLT := Lib.hid (Int.not_lt.1 hk)
        clear hk
        refine wp_region_segsK [([4, 1, 3, 4], 0, 0), ([2, 3], 2, 9), ([1, 2], 1, 0), ([2], 0, 0)] (by kernel_rfl) (by kernel_rfl) ?_
        apply segsK_pure
        · intro W
          simp only [runsT, runsF, rep, pick]
          go_wp2_with (first | refine Arr.wpList_ldA rfl _ _ rfl _ l1 ?_ | refine Arr.wpList_ldA rfl _ _ rfl _ l2 ?_)
          exact ⟨rfl, rfl⟩
        simp only [runsT, runsF, rep, left]
        apply segsK_look
        · simp only [runsT, runsF, rep, pick]
          go_wp2_with (first | refine Arr.wpList_ldA rfl _ _ rfl _ l1 ?_ | refine Arr.wpList_ldA rfl _ _ rfl _ l2 ?_)
          exact ⟨rfl, rfl⟩
        simp only [runsT, runsF, rep, left]
        apply segsK_op
        go_wp2_with fail
        refine (HK.out.call _ (HK.out.kept _ _ HKw.out (HCg.out.trans (drew_chg wr))) x.1 y.1).mono ?_
        rintro e w1 ⟨⟨cc, rfl, hc⟩, hE⟩
        have dc : decide (cc < 0) = false := decide_eq_false (fun h => absurd (hc.1 h) (by have := HLT.out; omega))
        have HE1 := Lib.hid (show Ext wr w1 from hE.of_drew)
        clear hc hE
        go_wp2_with fail
        refine ⟨fun h => (by cases h), ?_⟩
        apply segsK_pure
        · intro W
          simp only [runsT, runsF, rep, pick]
          go_wp2_with (first | refine Arr.wpList_ldA rfl _ _ rfl _ l1 ?_ | refine Arr.wpList_ldA rfl _ _ rfl _ l2 ?_)
          exact ⟨rfl, rfl⟩
        simp only [runsT, runsF, rep, left]
        apply segsK_nil
        go_wp2_with fail
        obtain ⟨hb1, hb2⟩ := HB.out
        go_roundg (q - (c + 1))
        case measure => omega
        case rel =>
          refine ⟨c + 1, q, by congr 1, rfl, Lib.hid ⟨fun S' z R' e hl => ?_, HR.out.2.1, HR.out.2.2.1.ext HE1.out, chg_ext HCg.out HE1.out⟩, by omega, by omega, hq, Nat.le_refl _⟩
          rw [HV.out.1] at e
          have := uniq_at e (by have := HV.out.2; omega)
          rw [← this]
          exact HLT.out
    · obtain rfl : p = q := by omega
      have d0 : decide ((p : Int) < (p : Int)) = false := decide_eq_false (by omega)
      obtain ⟨A, B, eAB, hA⟩ : ∃ A B, U = A ++ B ∧ i + A.length = p := ⟨U.take (p - i), U.drop (p - i), (List.take_append_drop _ _).symm, by have := HP.out.2.1; rw [List.length_take]; omega⟩
      have HAB := Lib.hid (And.intro eAB hA)
      have HD := Lib.hid (show Done key (U ++ [x]) (A ++ x :: B) by
        rw [eAB]
        refine merge_right (by rw [← eAB]; exact HS.out.1) (fun S z e => ?_) (fun z S e => ?_) (fun y hy => HS.out.2 y (by rw [eAB]; simp [hy]))
        · exact HR.out.1 S z B (by rw [eAB, e]; simp) (by rw [e] at hA; simp at hA; omega)
        · exact HR.out.2.1 A z S (by rw [eAB, e]) hA)
      clear eAB hA hlt hg hpq
      go_wp2_with fail
      clear d0 d3
      go_loopg [17] n (fun g s wr => ∃ (k : Nat) (B1 B2 : List (C × Nat)), s = .int .i64 k ∧ Hid (B = B1 ++ B2 ∧ p + B1.length = k ∧ AtC wr b (P ++ A ++ B1 ++ x :: (B2 ++ Q)) ∧ Chg (· = b) w wr) ∧ p ≤ k ∧ k ≤ m ∧ k ≤ g)
      case atStart => exact ⟨m, B, [], rfl, Lib.hid ⟨by simp, by have h1 := HAB.out; have h2 := HP.out; rw [h1.1] at h2; simp at h2; omega, by have := HR.out.2.2.1; rw [HAB.out.1] at this; simpa using this, HCg.out⟩, hq, Nat.le_refl _, by omega⟩
      case round =>
        obtain ⟨k, B1, B2, rfl, HJ, hkp, hkm, hg2⟩ := hrel
        by_cases hk : p < k
        · obtain ⟨B0, z, e3⟩ : ∃ B0 z, B1 = B0 ++ [z] := by
            have hne : B1 ≠ [] := fun e => by have := HJ.out.2.1; rw [e] at this; simp at this; omega
            exact ⟨B1.dropLast, B1.getLast hne, (List.dropLast_concat_getLast hne).symm⟩
          subst e3
          obtain ⟨jp, rfl⟩ : ∃ jp, k = jp + 1 := ⟨k - 1, by omega⟩
          have E0 : P ++ A ++ (B0 ++ [z]) ++ x :: (B2 ++ Q) = (P ++ A ++ B0) ++ z :: ([] ++ x :: (B2 ++ Q)) := by simp
          have hX : (P ++ A ++ B0).length = jp := by
            have h1 := HJ.out.2.1; have h2 := HP.out.1; have h3 := HAB.out.2
            simp only [List.length_append, List.length_cons, List.length_nil] at h1 ⊢
            omega
          have hD := HJ.out.2.2.1.ext (Ext.drew wr)
          rw [E0] at hD
          have l1 := ld hD (P ++ A ++ B0 ++ [z]) (B2 ++ Q) x (by simp) (jp + 1) (by have h := hX; simp at h ⊢; omega)
          have l2 := ld hD (P ++ A ++ B0) _ z rfl jp hX.symm
          obtain ⟨W1, s1, t1, c1⟩ := st hD (jp + 1) (by have h := hX; simp at h ⊢; omega) z
          obtain ⟨W2, s2, t2, c2⟩ := st t1 jp (by have h := hX; rw [List.length_set]; simp at h ⊢; omega) x
          have HA2 := Lib.hid (show AtC W2 b (P ++ A ++ B0 ++ x :: ((z :: B2) ++ Q)) by
            have h := set2r (P ++ A ++ B0) [] (B2 ++ Q) z x
            rw [hX, List.length_nil, Nat.add_zero] at h
            rw [h] at t2
            simpa using t2)
          have HC2 := Lib.hid (show Chg (· = b) w W2 from ((HJ.out.2.2.2.trans (drew_chg wr)).trans c1).trans c2)
          have hjN : jp + 1 < N := Nat.lt_of_le_of_lt hkm (Nat.lt_of_lt_of_le bm bN)
          obtain ⟨jz, jz1, p0, e0, wjp⟩ := idx_facts hjN hm
          have dj := dec_lt hk
          clear t1 t2 c1 c2 hD E0 hX
          go_wp2_with fail
          refine wp_region_segsK [([9, 1, 3, 5], 0, 0), ([3, 3], 2, 15), ([1, 2], 1, 0), ([1, 1], 0, 0), ([1], 1, 0)] (by kernel_rfl) (by kernel_rfl) ?_
          apply segsK_pure
          · intro W
            simp only [runsT, runsF, rep, pick]
            go_wp2_with (first | refine Arr.wpList_ldA rfl _ _ rfl _ l1 ?_ | refine Arr.wpList_ldA rfl _ _ rfl _ l2 ?_)
            exact ⟨rfl, rfl⟩
          simp only [runsT, runsF, rep, left]
          apply segsK_look
          · simp only [runsT, runsF, rep, pick]
            go_wp2_with (first | refine Arr.wpList_ldA rfl _ _ rfl _ l1 ?_ | refine Arr.wpList_ldA rfl _ _ rfl _ l2 ?_)
            exact ⟨rfl, rfl⟩
          simp only [runsT, runsF, rep, left]
          apply segsK_op
          refine Arr.wpList_stA rfl _ _ _ rfl rfl s1 ?_
          go_wp2_with fail
          refine ⟨fun h => (by cases h), ?_⟩
          apply segsK_pure
          · intro W
            simp only [runsT, runsF, rep, pick]
            go_wp2_with (first | refine Arr.wpList_ldA rfl _ _ rfl _ l1 ?_ | refine Arr.wpList_ldA rfl _ _ rfl _ l2 ?_)
            exact ⟨rfl, rfl⟩
          simp only [runsT, runsF, rep, left]
          apply segsK_op
          refine Arr.wpList_stA rfl _ _ _ rfl rfl s2 ?_
          go_wp2_with fail
          refine ⟨fun h => (by cases h), ?_⟩
          apply segsK_nil
          go_wp2_with fail
          go_roundg jp
          case measure => omega
          case rel =>
            refine ⟨jp, B0, z :: B2, by congr 1, Lib.hid ⟨by rw [HJ.out.1]; simp, ?_, HA2.out, HC2.out⟩, by omega, by omega, Nat.le_refl _⟩
            have h1 := HJ.out.2.1
            simp only [List.length_append, List.length_cons, List.length_nil] at h1
            omega
        · have d2 : decide ((p : Int) < (k : Int)) = false := decide_eq_false (by omega)
          go_wp2_with fail
          (try simp only [Exit.inBlock, Exit.then])
          refine bodyPost_ret (results_none rfl _ _ _) rfl ?_
          have h1 := HJ.out
          have e2 : B1 = [] := List.eq_nil_of_length_eq_zero (by omega)
          subst e2
          refine ⟨rfl, ⟨A ++ x :: B, HD.out, ?_⟩, h1.2.2.2⟩
          have := h1.2.2.1
          rw [h1.1]
          simpa using this
end Go.Proofs.Ytbjkpiobfiebhaa.Hs
