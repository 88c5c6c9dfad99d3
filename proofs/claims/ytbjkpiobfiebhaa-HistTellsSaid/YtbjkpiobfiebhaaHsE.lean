/-
  Histories: the merge of rows of calls: one call ahead of a row in order.
  No condition but lengths.
-/
import Derived.Test.YtbjkpiobfiebhaaHsD
namespace Go.Proofs.Ytbjkpiobfiebhaa.Hs
open Go.RowKit Go.Seg Go.Open Go.Lib Go.Arr Go.Stab

theorem split_at {α : Type} (V : List α) (k : Nat) (h : k < V.length) : ∃ S y R, V = S ++ y :: R ∧ S.length = k :=
  ⟨V.take k, V[k], V.drop (k + 1), by rw [← List.drop_eq_getElem_cons h, List.take_append_drop], by rw [List.length_take]; omega⟩
theorem uniq_at {α : Type} {S S' R R' : List α} {y z : α} (h : S ++ y :: R = S' ++ z :: R') (hl : S.length = S'.length) : y = z := by
  obtain ⟨_, h2⟩ := List.append_inj h hl
  injection h2
set_option maxRecDepth 100000 in
set_option maxHeartbeats 4000000 in
theorem symMerge_left (b N cap bx : Nat) (K : World → Prop) (key : C → Int) (hK : CmpOk bx b K key) (P V Q : List (C × Nat)) (x : C × Nat) (i m n : Nat) (hP : P.length = i) (hi : i + 1 = m) (hV : m + V.length = n) (hs : Srt key V) (ht : ∀ y ∈ V, x.2 < y.2)
    (hN : (P ++ x :: V ++ Q).length = N) (hm : N ≤ 1000000) (w : World) (h : AtC w b (P ++ x :: V ++ Q)) (hKw : K w) :
    Calls Try.prog 66 #[.slice (some ⟨b, 0, none⟩) N cap, .int .i64 i, .int .i64 m, .int .i64 n, FV bx] w fun e w' => e = .returned (.tuple #[]) ∧ (∃ M', Done key (x :: V) M' ∧ AtC w' b (P ++ M' ++ Q)) ∧ Chg (· = b) w w' := by
  unfold FV
  have HK := Lib.hid hK
  have HKw := Lib.hid hKw
  have HS := Lib.hid (And.intro hs ht)
  have HT := Lib.hid h
  have HP := Lib.hid (And.intro hP (And.intro hi hV))
  have bN : n ≤ N := by simp only [List.length_append, List.length_cons] at hN; omega
  have bm : m ≤ n := by omega
  have bi : i < m := by omega
  have d1 : (m : Int) - (i : Int) = 1 := by omega
  clear hK hKw hs ht h hN hP hi hV
  go_enter Try.func66, Try.ntmps66
  go_wp2_with fail
  go_loopg [10, 11] n (fun g s t wr => ∃ (p q : Nat), s = .int .i64 p ∧ t = .int .i64 q ∧ Hid ((∀ S z R, V = S ++ z :: R → m + S.length + 1 = p → key z.1 < key x.1) ∧ (∀ S z R, V = S ++ z :: R → m + S.length = q → key x.1 ≤ key z.1) ∧ AtC wr b (P ++ x :: V ++ Q) ∧ Chg (· = b) w wr) ∧ m ≤ p ∧ p ≤ q ∧ q ≤ n ∧ q - p ≤ g)
  case atStart =>
    refine ⟨m, n, rfl, rfl, Lib.hid ⟨fun S z R e hl => by omega, fun S z R e hl => ?_, HT.out, Chg.refl _⟩, Nat.le_refl _, bm, Nat.le_refl _, by omega⟩
    have := HP.out.2.2
    rw [e] at this
    simp at this
    omega
  case round =>
    obtain ⟨p, q, rfl, rfl, HR, hp, hpq, hq, hg⟩ := hrel
    have HCg := Lib.hid HR.out.2.2.2
    by_cases hlt : p < q
    · have d0 : decide ((p : Int) < (q : Int)) = true := decide_eq_true (by omega)
      go_wp2_with fail
      obtain ⟨c, ec⟩ : ∃ c, (p + q) / 2 = c := ⟨_, rfl⟩
      have e2 : ((p : Int) + (q : Int)) / 2 = (c : Int) := by omega
      rw [e2]
      obtain ⟨S, y, R, eV, hS⟩ := split_at V (c - m) (by have := HP.out.2.2; omega)
      have HV := Lib.hid (And.intro eV (show m + S.length = c by omega))
      have hD := HR.out.2.2.1.ext (Ext.drew wr)
      have l1 := ld hD (P ++ x :: S) (R ++ Q) y (by rw [eV]; simp) c (by have := HP.out; simp; omega)
      have l2 := ld hD P (V ++ Q) x (by simp) i HP.out.1.symm
      have hcN : c < N := by omega
      have hcb : p ≤ c ∧ c < q := by omega
      have HB := Lib.hid hcb
      clear hD eV hS ec e2 hcb
      by_cases hk : key y.1 < key x.1
      · have HLT := Lib.hid hk
        clear hk
        refine wp_region_segsK [([4, 1, 3, 3], 0, 0), ([2, 2], 2, 9), ([1, 1], 1, 0), ([1], 0, 0)] (by kernel_rfl) (by kernel_rfl) ?_
        apply segsK_pure
        · intro W
          simp only [runsT, runsF, rep, pick]
          go_wp2_with (first | refine Arr.wpList_ldA rfl _ _ rfl _ l1 ?_ | refine Arr.wpList_ldA rfl _ _ rfl _ l2 ?_)
          exact ⟨rfl, rfl⟩
        simp only [runsT, runsF, rep, left]
        apply segsK_look
        · simp only [runsT, runsF, rep, pick]
          go_wp2_with (first | refine Arr.wpList_ldA rfl _ _ rfl _ l1 ?_ | refine Arr.wpList_ldA rfl _ _ rfl _ l2 ?_)
          exact ⟨rfl, rfl⟩
        simp only [runsT, runsF, rep, left]
        apply segsK_op
        go_wp2_with fail
        refine (HK.out.call _ (HK.out.kept _ _ HKw.out (HCg.out.trans (drew_chg wr))) y.1 x.1).mono ?_
        rintro e w1 ⟨⟨cc, rfl, hc⟩, hE⟩
        have dc : decide (cc < 0) = true := decide_eq_true (hc.2 HLT.out)
        have HE1 := Lib.hid (show Ext wr w1 from hE.of_drew)
        clear hc hE
        go_wp2_with fail
        refine ⟨fun h => (by cases h), ?_⟩
        apply segsK_pure
        · intro W
          simp only [runsT, runsF, rep, pick]
          go_wp2_with (first | refine Arr.wpList_ldA rfl _ _ rfl _ l1 ?_ | refine Arr.wpList_ldA rfl _ _ rfl _ l2 ?_)
          exact ⟨rfl, rfl⟩
        simp only [runsT, runsF, rep, left]
        apply segsK_nil
        go_wp2_with fail
        obtain ⟨hb1, hb2⟩ := HB.out
        go_roundg (q - (c + 1))
        case measure => omega
        case rel =>
          refine ⟨c + 1, q, by congr 1, rfl, Lib.hid ⟨fun S' z R' e hl => ?_, HR.out.2.1, HR.out.2.2.1.ext HE1.out, chg_ext HCg.out HE1.out⟩, by omega, by omega, hq, Nat.le_refl _⟩
          rw [HV.out.1] at e
          have := uniq_at e (by have := HV.out.2; omega)
          rw [← this]
          exact HLT.out
      · have HLT := Lib.hid (Int.not_lt.1 hk)
        clear hk
        refine wp_region_segsK [([4, 1, 3, 3], 0, 0), ([2, 2], 2, 9), ([1, 1], 1, 0), ([1], 0, 0)] (by kernel_rfl) (by kernel_rfl) ?_
        apply segsK_pure
        · intro W
          simp only [runsT, runsF, rep, pick]
          go_wp2_with (first | refine Arr.wpList_ldA rfl _ _ rfl _ l1 ?_ | refine Arr.wpList_ldA rfl _ _ rfl _ l2 ?_)
          exact ⟨rfl, rfl⟩
        simp only [runsT, runsF, rep, left]
        apply segsK_look
        · simp only [runsT, runsF, rep, pick]
          go_wp2_with (first | refine Arr.wpList_ldA rfl _ _ rfl _ l1 ?_ | refine Arr.wpList_ldA rfl _ _ rfl _ l2 ?_)
          exact ⟨rfl, rfl⟩
        simp only [runsT, runsF, rep, left]
        apply segsK_op
        go_wp2_with fail
        refine (HK.out.call _ (HK.out.kept _ _ HKw.out (HCg.out.trans (drew_chg wr))) y.1 x.1).mono ?_
        rintro e w1 ⟨⟨cc, rfl, hc⟩, hE⟩
        have dc : decide (cc < 0) = false := decide_eq_false (fun h => absurd (hc.1 h) (by have := HLT.out; omega))
        have HE1 := Lib.hid (show Ext wr w1 from hE.of_drew)
        clear hc hE
        go_wp2_with fail
        refine ⟨fun h => (by cases h), ?_⟩
        apply segsK_pure
        · intro W
          simp only [runsT, runsF, rep, pick]
          go_wp2_with (first | refine Arr.wpList_ldA rfl _ _ rfl _ l1 ?_ | refine Arr.wpList_ldA rfl _ _ rfl _ l2 ?_)
          exact ⟨rfl, rfl⟩
        simp only [runsT, runsF, rep, left]
        apply segsK_nil
        go_wp2_with fail
        obtain ⟨hb1, hb2⟩ := HB.out
        go_roundg (c - p)
        case measure => omega
        case rel =>
          refine ⟨p, c, rfl, rfl, Lib.hid ⟨HR.out.1, fun S' z R' e hl => ?_, HR.out.2.2.1.ext HE1.out, chg_ext HCg.out HE1.out⟩, hp, hb1, by omega, Nat.le_refl _⟩
          rw [HV.out.1] at e
          have := uniq_at e (by have := HV.out.2; omega)
          rw [← this]
          have := HLT.out
          omega
    · obtain rfl : p = q := by omega
      have d0 : decide ((p : Int) < (p : Int)) = false := decide_eq_false (by omega)
      obtain ⟨A, B, eAB, hA⟩ : ∃ A B, V = A ++ B ∧ m + A.length = p := ⟨V.take (p - m), V.drop (p - m), (List.take_append_drop _ _).symm, by have := HP.out.2.2; rw [List.length_take]; omega⟩
      have HAB := Lib.hid (And.intro eAB hA)
      have HD := Lib.hid (show Done key (x :: V) (A ++ x :: B) by
        rw [eAB]
        refine merge_left (by rw [← eAB]; exact HS.out.1) (fun S z e => ?_) (fun z S e => ?_) (fun y hy => HS.out.2 y (by rw [eAB]; simp [hy]))
        · exact HR.out.1 S z B (by rw [eAB, e]; simp) (by rw [e] at hA; simp at hA; omega)
        · exact HR.out.2.1 A z S (by rw [eAB, e]) hA)
      clear eAB hA
      go_wp2_with fail
      go_loopg [13] n (fun g s wr => ∃ (k : Nat) (A1 A2 : List (C × Nat)), s = .int .i64 k ∧ Hid (A = A1 ++ A2 ∧ i + A1.length = k ∧ AtC wr b (P ++ A1 ++ x :: (A2 ++ B ++ Q)) ∧ Chg (· = b) w wr) ∧ k + 1 ≤ p ∧ p - k ≤ g)
      case atStart => exact ⟨i, [], A, rfl, Lib.hid ⟨rfl, rfl, by have := HR.out.2.2.1; rw [HAB.out.1] at this; simpa using this, HCg.out⟩, by omega, by omega⟩
      case round =>
        obtain ⟨k, A1, A2, rfl, HJ, hkp, hg2⟩ := hrel
        by_cases hk : k + 1 < p
        · have d2 : decide ((k : Int) < (p : Int) - 1) = true := decide_eq_true (by omega)
          obtain ⟨y, A3, e3⟩ : ∃ y A3, A2 = y :: A3 := by
            cases A2 with
            | nil => have h1 := HJ.out; have h2 := HAB.out; have h3 := HP.out; rw [h1.1] at h2; simp at h2; omega
            | cons y A3 => exact ⟨y, A3, rfl⟩
          subst e3
          have E0 : P ++ A1 ++ x :: (y :: A3 ++ B ++ Q) = (P ++ A1) ++ x :: ([] ++ y :: (A3 ++ B ++ Q)) := by simp
          have hX : (P ++ A1).length = k := by rw [List.length_append]; have := HJ.out.2.1; have := HP.out.1; omega
          have hD := HJ.out.2.2.1.ext (Ext.drew wr)
          rw [E0] at hD
          have l1 := ld hD (P ++ A1 ++ [x]) (A3 ++ B ++ Q) y (by simp) (k + 1) (by rw [List.length_append, hX]; rfl)
          have l2 := ld hD (P ++ A1) _ x rfl k hX.symm
          obtain ⟨W1, s1, t1, c1⟩ := st hD k (by rw [List.length_append, hX]; simp) y
          obtain ⟨W2, s2, t2, c2⟩ := st t1 (k + 1) (by rw [List.length_set, List.length_append, hX]; simp) x
          have HA2 := Lib.hid (show AtC W2 b (P ++ (A1 ++ [y]) ++ x :: (A3 ++ B ++ Q)) by
            have h := set2 (P ++ A1) [] (A3 ++ B ++ Q) x y
            rw [hX, List.length_nil, Nat.add_zero] at h
            rw [h] at t2
            simpa using t2)
          have HC2 := Lib.hid (show Chg (· = b) w W2 from ((HJ.out.2.2.2.trans (drew_chg wr)).trans c1).trans c2)
          have jz : (k : Int) + 1 < (N : Int) := by omega
          have jz1 : (k : Int) < (N : Int) := by omega
          have p0 : (0 : Int) ≤ (k : Int) + 1 := by omega
          have e0 : ((k : Int) + 1).toNat = k + 1 := by omega
          clear t1 t2 c1 c2 hD E0 hX
          go_wp2_with fail
          refine wp_region_segsK [([9, 1, 3, 5], 0, 0), ([3, 3], 2, 15), ([1, 2], 1, 0), ([1, 1], 0, 0), ([1], 1, 0)] (by kernel_rfl) (by kernel_rfl) ?_
          apply segsK_pure
          · intro W
            simp only [runsT, runsF, rep, pick]
            go_wp2_with (first | refine Arr.wpList_ldA rfl _ _ rfl _ l1 ?_ | refine Arr.wpList_ldA rfl _ _ rfl _ l2 ?_)
            exact ⟨rfl, rfl⟩
          simp only [runsT, runsF, rep, left]
          apply segsK_look
          · simp only [runsT, runsF, rep, pick]
            go_wp2_with (first | refine Arr.wpList_ldA rfl _ _ rfl _ l1 ?_ | refine Arr.wpList_ldA rfl _ _ rfl _ l2 ?_)
            exact ⟨rfl, rfl⟩
          simp only [runsT, runsF, rep, left]
          apply segsK_op
          refine Arr.wpList_stA rfl _ _ _ rfl rfl s1 ?_
          go_wp2_with fail
          refine ⟨fun h => (by cases h), ?_⟩
          apply segsK_pure
          · intro W
            simp only [runsT, runsF, rep, pick]
            go_wp2_with (first | refine Arr.wpList_ldA rfl _ _ rfl _ l1 ?_ | refine Arr.wpList_ldA rfl _ _ rfl _ l2 ?_)
            exact ⟨rfl, rfl⟩
          simp only [runsT, runsF, rep, left]
          apply segsK_op
          refine Arr.wpList_stA rfl _ _ _ rfl rfl s2 ?_
          go_wp2_with fail
          refine ⟨fun h => (by cases h), ?_⟩
          apply segsK_nil
          go_wp2_with fail
          go_roundg (p - (k + 1))
          case measure => omega
          case rel => exact ⟨k + 1, A1 ++ [y], A3, by congr 1, Lib.hid ⟨by rw [HJ.out.1]; simp, by have := HJ.out.2.1; simp; omega, HA2.out, HC2.out⟩, by omega, Nat.le_refl _⟩
        · have d2 : decide ((k : Int) < (p : Int) - 1) = false := decide_eq_false (by omega)
          go_wp2_with fail
          (try simp only [Exit.inBlock, Exit.then])
          refine bodyPost_ret (results_none rfl _ _ _) rfl ?_
          have h1 := HJ.out
          have e2 : A2 = [] := by have h2 := HAB.out; have h3 := HP.out; rw [h1.1] at h2; simp at h2; exact List.eq_nil_of_length_eq_zero (by omega)
          subst e2
          refine ⟨rfl, ⟨A ++ x :: B, HD.out, ?_⟩, h1.2.2.2⟩
          have := h1.2.2.1
          rw [h1.1]
          simpa using this
end Go.Proofs.Ytbjkpiobfiebhaa.Hs
