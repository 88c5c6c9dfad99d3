/-
  Histories: a part of a row of calls put in order by insertion.
  No condition but lengths.
-/
import Derived.Test.YtbjkpiobfiebhaaHsC
namespace Go.Proofs.Ytbjkpiobfiebhaa.Hs
open Go.RowKit Go.Seg Go.Open Go.Lib Go.Arr Go.Stab

/-- What is asked of a comparison: it tells by a key, in each world of a class that the sort keeps. -/
structure CmpOk (bx b : Nat) (K : World → Prop) (key : C → Int) : Prop where
  call : ∀ W, K W → ∀ x y : C, Calls Try.prog 45 #[CV x, CV y, .pointer (some ⟨bx, 0, none⟩)] W fun e w' => (∃ c : Int, e = .returned (.int .i64 c) ∧ (c < 0 ↔ key x < key y)) ∧ Ext W w'
  kept : ∀ W W', K W → Chg (· = b) W W' → K W'
theorem chg_ext {b : Nat} {w W w' : World} (h : Chg (· = b) w W) (e : Ext W w') : Chg (· = b) w w' := h.trans (Chg.of_below e)
def FV (bx : Nat) : Value := .func (.func 45) #[] #[.pointer (some ⟨bx, 0, none⟩)]
def TagsUp (M : List (C × Nat)) : Prop := M.Pairwise (fun x y => x.2 < y.2)
theorem ld_ext {W : World} {b : Nat} {T : List (C × Nat)} (h : AtC W b T) (X Z : List (C × Nat)) (x : C × Nat) (e : T = X ++ x :: Z) (i : Nat) (hi : i = X.length) {W' : World} (hE : Ext W W') : (Instr.loadAt 29 (.pointer (some ⟨b, i * 13, none⟩))).run Try.prog W' = .ok (CV x.1) W' := ld (h.ext hE) X Z x e i hi

set_option maxRecDepth 100000 in
theorem insertion_nil (b N cap bx : Nat) (i : Nat) (hi : i ≤ 1000000) (w : World) :
    Calls Try.prog 65 #[.slice (some ⟨b, 0, none⟩) N cap, .int .i64 i, .int .i64 i, FV bx] w fun e w' => e = .returned (.tuple #[]) ∧ w = w' := by
  unfold FV
  go_enter Try.func65, Try.ntmps65
  go_wp2_with fail
  go_loopg [8] 0 (fun g s wr => s = .int .i64 ((i : Int) + 1) ∧ wr = w)
  case atStart => exact ⟨by congr 1, rfl⟩
  case round =>
    obtain ⟨rfl, rfl⟩ := hrel
    have d : decide ((i : Int) + 1 < (i : Int)) = false := decide_eq_false (by omega)
    go_wp2_with fail
    go_end0
    exact ⟨rfl, rfl⟩

set_option maxRecDepth 100000 in
set_option maxHeartbeats 4000000 in
theorem insertion_some (b N cap bx : Nat) (K : World → Prop) (key : C → Int) (hK : CmpOk bx b K key) (P M Q : List (C × Nat)) (i n : Nat) (hP : P.length = i) (hM : i + M.length = n) (h0 : 1 ≤ M.length) (htag : TagsUp M) (hN : (P ++ M ++ Q).length = N) (hm : N ≤ 1000000) (w : World) (h : AtC w b (P ++ M ++ Q)) (hKw : K w) :
    Calls Try.prog 65 #[.slice (some ⟨b, 0, none⟩) N cap, .int .i64 i, .int .i64 n, FV bx] w fun e w' => e = .returned (.tuple #[]) ∧ (∃ M', Done key M M' ∧ AtC w' b (P ++ M' ++ Q)) ∧ Chg (· = b) w w' := by
  unfold FV
  have HK := Lib.hid hK
  have HKw := Lib.hid hKw
  have HTag := Lib.hid htag
  have HT := Lib.hid h
  have HN := Lib.hid hN
  have HP := Lib.hid (And.intro hP (And.intro hM h0))
  have bN : n ≤ N := by simp only [List.length_append] at hN; omega
  have bi : i < n := by omega
  clear hK hKw htag h hN hP hM h0
  go_enter Try.func65, Try.ntmps65
  go_wp2_with fail
  go_loopg [8] n (fun g s wr => ∃ (k : Nat) (M1 M2 S : List (C × Nat)), s = .int .i64 k ∧ Hid (M = M1 ++ M2 ∧ i + M1.length = k ∧ 1 ≤ M1.length ∧ Done key M1 S ∧ AtC wr b (P ++ S ++ M2 ++ Q) ∧ Chg (· = b) w wr) ∧ i < k ∧ k ≤ n ∧ n - k ≤ g)
  case atStart =>
    have h := HP.out
    obtain ⟨x, M2, e⟩ : ∃ x M2, M = x :: M2 := by
      cases M with
      | nil => simp at h
      | cons x M2 => exact ⟨x, M2, rfl⟩
    subst e
    exact ⟨i + 1, [x], M2, [x], by congr 1, Lib.hid ⟨rfl, rfl, Nat.le_refl _, Done.refl (List.pairwise_singleton _ _), by simpa using HT.out, Chg.refl _⟩, by omega, by omega, by omega⟩
  case round =>
    obtain ⟨k, M1, M2, S, rfl, HR, hk0, hk1, hg⟩ := hrel
    by_cases hkn : k < n
    · obtain ⟨x, M3, e3⟩ : ∃ x M3, M2 = x :: M3 := by
        cases M2 with
        | nil =>
          have h := HR.out
          have h2 := HP.out
          rw [h.1] at h2
          simp at h2 h
          omega
        | cons x M3 => exact ⟨x, M3, rfl⟩
      subst e3
      have HTx := Lib.hid (show ∀ y ∈ M1, y.2 < x.2 from fun y hy => by
        have h := HTag.out
        rw [HR.out.1] at h
        exact (List.pairwise_append.1 h).2.2 y hy x (by simp))
      have HR1 := Lib.hid (show M1 ++ [x] ++ M3 = M ∧ i + (M1 ++ [x]).length = k + 1 from ⟨by rw [HR.out.1]; simp, by have := HR.out.2.1; simp; omega⟩)
      have d0 : decide ((k : Int) < (n : Int)) = true := decide_eq_true (by omega)
      go_wp2_with fail
      go_loopg [9] k (fun g2 s2 wr2 => ∃ (j : Nat) (S1 S2 : List (C × Nat)), s2 = .int .i64 j ∧ Hid (i + S1.length = j ∧ Ins key (M1 ++ [x]) S1 x S2 ∧ AtC wr2 b (P ++ S1 ++ x :: S2 ++ M3 ++ Q) ∧ Chg (· = b) w wr2) ∧ j ≤ k ∧ j ≤ g2)
      case atStart =>
        have h := HR.out
        exact ⟨k, S, [], rfl, Lib.hid ⟨by have := h.2.2.2.1.1.length_eq; omega, Ins.start h.2.2.2.1 HTx.out, by simpa using h.2.2.2.2.1, h.2.2.2.2.2⟩, Nat.le_refl _, Nat.le_refl _⟩
      case round =>
        obtain ⟨j, S1, S2, rfl, HJ, hjk, hg2⟩ := hrel
        have hlen : P.length + S1.length + (1 + S2.length) + M3.length + Q.length = N := by
          have h1 := HJ.out.2.1.perm.length_eq
          have h2 := HN.out
          rw [HR.out.1] at h2
          simp only [List.length_append, List.length_cons, List.length_nil] at h1 h2
          omega
        have HLn := Lib.hid hlen
        have hjN : j < N := by have := HJ.out.1; have := HP.out.1; omega
        clear hlen
        by_cases hji : i < j
        · obtain ⟨S0, z, e1⟩ : ∃ S0 z, S1 = S0 ++ [z] := by
            have hne : S1 ≠ [] := fun e => by have := HJ.out.1; rw [e] at this; simp at this; omega
            exact ⟨S1.dropLast, S1.getLast hne, (List.dropLast_concat_getLast hne).symm⟩
          subst e1
          obtain ⟨jp, rfl⟩ : ∃ jp, j = jp + 1 := ⟨j - 1, by omega⟩
          have E0 : P ++ (S0 ++ [z]) ++ x :: S2 ++ M3 ++ Q = (P ++ S0) ++ z :: ([] ++ x :: (S2 ++ M3 ++ Q)) := by simp
          have hX : (P ++ S0).length = jp := by
            have h1 := HJ.out.1
            have h2 := HP.out.1
            simp only [List.length_append, List.length_cons, List.length_nil] at h1 ⊢
            omega
          have HX := Lib.hid hX
          have HA0 := Lib.hid (show AtC wr b ((P ++ S0) ++ z :: ([] ++ x :: (S2 ++ M3 ++ Q))) by rw [← E0]; exact HJ.out.2.2.1)
          have hLz : ∀ W, AtC W b ((P ++ S0) ++ z :: ([] ++ x :: (S2 ++ M3 ++ Q))) → (Instr.loadAt 29 (.pointer (some ⟨b, jp * 13, none⟩))).run Try.prog W = .ok (CV z.1) W := fun W h => ld h _ _ _ rfl _ HX.out.symm
          have hLx : ∀ W, AtC W b ((P ++ S0) ++ z :: ([] ++ x :: (S2 ++ M3 ++ Q))) → (Instr.loadAt 29 (.pointer (some ⟨b, (jp + 1) * 13, none⟩))).run Try.prog W = .ok (CV x.1) W := fun W h => ld h (P ++ S0 ++ [z]) (S2 ++ M3 ++ Q) x (by simp) _ (by simp only [List.length_append, List.length_cons, List.length_nil]; have := HX.out; simp only [List.length_append] at this; omega)
          have HLz := Lib.hid hLz
          have HLx := Lib.hid hLx
          have l1 := hLx _ (HA0.out.ext (Ext.drew wr))
          have l2 := hLz _ (HA0.out.ext (Ext.drew wr))
          have wjp : wrap64 (jp : Int) = (jp : Int) := by unfold wrap64; omega
          have jz : (jp : Int) + 1 < (N : Int) := by omega
          have jz1 : (jp : Int) < (N : Int) := by omega
          have p0 : (0 : Int) ≤ (jp : Int) + 1 := by omega
          have e0 : ((jp : Int) + 1).toNat = jp + 1 := by omega
          have dj : decide ((i : Int) < (jp : Int) + 1) = true := decide_eq_true (by omega)
          clear hX E0 hLz hLx
          by_cases hlt : key x.1 < key z.1
          · have HLT := Lib.hid hlt
            clear hlt
            go_wp2_with fail
            refine wp_region_segsK [([8, 1, 4, 4], 0, 0), ([2, 3], 2, 14), ([1, 2], 1, 0), ([2], 0, 0)] (by kernel_rfl) (by kernel_rfl) ?_
            apply segsK_pure
            · intro W
              simp only [runsT, runsF, rep, pick]
              go_wp2_with (first | refine Arr.wpList_ldA rfl _ _ rfl _ l1 ?_ | refine Arr.wpList_ldA rfl _ _ rfl _ l2 ?_)
              exact ⟨rfl, rfl⟩
            simp only [runsT, runsF, rep, left]
            apply segsK_look
            · simp only [runsT, runsF, rep, pick]
              go_wp2_with (first | refine Arr.wpList_ldA rfl _ _ rfl _ l1 ?_ | refine Arr.wpList_ldA rfl _ _ rfl _ l2 ?_)
              exact ⟨rfl, rfl⟩
            simp only [runsT, runsF, rep, left]
            apply segsK_op
            go_wp2_with fail
            refine (HK.out.call _ (HK.out.kept _ _ HKw.out (HJ.out.2.2.2.trans (drew_chg wr))) x.1 z.1).mono ?_
            rintro e w1 ⟨⟨c, rfl, hc⟩, hE⟩
            have dc : decide (c < 0) = true := decide_eq_true (hc.2 HLT.out)
            have HE1 := Lib.hid (show Ext wr w1 from hE.of_drew)
            clear hc hE
            go_wp2_with fail
            refine ⟨fun h => (by cases h), ?_⟩
            apply segsK_pure
            · intro W
              simp only [runsT, runsF, rep, pick]
              go_wp2_with (first | refine Arr.wpList_ldA rfl _ _ rfl _ l1 ?_ | refine Arr.wpList_ldA rfl _ _ rfl _ l2 ?_)
              exact ⟨rfl, rfl⟩
            simp only [runsT, runsF, rep, left]
            apply segsK_nil
            go_wp2_with fail
            clear l1 l2
            have hD1 := HA0.out.ext ((HE1.out).trans (Ext.drew w1))
            have l1 := HLx.out _ hD1
            have l2 := HLz.out _ hD1
            obtain ⟨W1, s1, t1, c1⟩ := st hD1 (jp + 1) (by have := HX.out; simp at this ⊢; omega) z
            obtain ⟨W2, s2, t2, c2⟩ := st t1 jp (by have := HX.out; rw [List.length_set]; simp at this ⊢; omega) x
            have HA2 := Lib.hid (show AtC W2 b (P ++ S0 ++ x :: (z :: S2) ++ M3 ++ Q) by
              have h := set2r (P ++ S0) [] (S2 ++ M3 ++ Q) z x
              rw [HX.out, List.length_nil, Nat.add_zero] at h
              rw [h] at t2
              simpa using t2)
            have HC2 := Lib.hid (show Chg (· = b) w W2 from (((HJ.out.2.2.2.trans (Chg.of_below HE1.out)).trans (drew_chg w1)).trans c1).trans c2)
            clear t1 t2 c1 c2 hD1
            go_wp2_with fail
            refine wp_region_segsK [([9, 1, 3, 5], 0, 0), ([3, 3], 2, 15), ([1, 2], 1, 0), ([1, 1], 0, 0), ([1], 1, 0)] (by kernel_rfl) (by kernel_rfl) ?_
            apply segsK_pure
            · intro W
              simp only [runsT, runsF, rep, pick]
              go_wp2_with (first | refine Arr.wpList_ldA rfl _ _ rfl _ l1 ?_ | refine Arr.wpList_ldA rfl _ _ rfl _ l2 ?_)
              exact ⟨rfl, rfl⟩
            simp only [runsT, runsF, rep, left]
            apply segsK_look
            · simp only [runsT, runsF, rep, pick]
              go_wp2_with (first | refine Arr.wpList_ldA rfl _ _ rfl _ l1 ?_ | refine Arr.wpList_ldA rfl _ _ rfl _ l2 ?_)
              exact ⟨rfl, rfl⟩
            simp only [runsT, runsF, rep, left]
            apply segsK_op
            refine Arr.wpList_stA rfl _ _ _ rfl rfl s1 ?_
            go_wp2_with fail
            refine ⟨fun h => (by cases h), ?_⟩
            apply segsK_pure
            · intro W
              simp only [runsT, runsF, rep, pick]
              go_wp2_with (first | refine Arr.wpList_ldA rfl _ _ rfl _ l1 ?_ | refine Arr.wpList_ldA rfl _ _ rfl _ l2 ?_)
              exact ⟨rfl, rfl⟩
            simp only [runsT, runsF, rep, left]
            apply segsK_op
            refine Arr.wpList_stA rfl _ _ _ rfl rfl s2 ?_
            go_wp2_with fail
            refine ⟨fun h => (by cases h), ?_⟩
            apply segsK_nil
            go_wp2_with fail
            have hg3 : jp + 1 ≤ k := hjk
            go_roundg jp
            case measure => omega
            case rel =>
              refine ⟨jp, S0, z :: S2, by congr 1, Lib.hid ⟨?_, HJ.out.2.1.step HLT.out, HA2.out, HC2.out⟩, by omega, Nat.le_refl _⟩
              have h1 := HJ.out.1
              simp only [List.length_append, List.length_cons, List.length_nil] at h1
              omega
          · have HLT := Lib.hid (Int.not_lt.1 hlt)
            clear hlt
            go_wp2_with fail
            refine wp_region_segsK [([8, 1, 4, 4], 0, 0), ([2, 3], 2, 14), ([1, 2], 1, 0), ([2], 0, 0)] (by kernel_rfl) (by kernel_rfl) ?_
            apply segsK_pure
            · intro W
              simp only [runsT, runsF, rep, pick]
              go_wp2_with (first | refine Arr.wpList_ldA rfl _ _ rfl _ l1 ?_ | refine Arr.wpList_ldA rfl _ _ rfl _ l2 ?_)
              exact ⟨rfl, rfl⟩
            simp only [runsT, runsF, rep, left]
            apply segsK_look
            · simp only [runsT, runsF, rep, pick]
              go_wp2_with (first | refine Arr.wpList_ldA rfl _ _ rfl _ l1 ?_ | refine Arr.wpList_ldA rfl _ _ rfl _ l2 ?_)
              exact ⟨rfl, rfl⟩
            simp only [runsT, runsF, rep, left]
            apply segsK_op
            go_wp2_with fail
            refine (HK.out.call _ (HK.out.kept _ _ HKw.out (HJ.out.2.2.2.trans (drew_chg wr))) x.1 z.1).mono ?_
            rintro e w1 ⟨⟨c, rfl, hc⟩, hE⟩
            have dc : decide (c < 0) = false := decide_eq_false (fun h => absurd (hc.1 h) (by have := HLT.out; omega))
            have HE1 := Lib.hid (show Ext wr w1 from hE.of_drew)
            clear hc hE
            go_wp2_with fail
            refine ⟨fun h => (by cases h), ?_⟩
            apply segsK_pure
            · intro W
              simp only [runsT, runsF, rep, pick]
              go_wp2_with (first | refine Arr.wpList_ldA rfl _ _ rfl _ l1 ?_ | refine Arr.wpList_ldA rfl _ _ rfl _ l2 ?_)
              exact ⟨rfl, rfl⟩
            simp only [runsT, runsF, rep, left]
            apply segsK_nil
            go_wp2_with fail
            go_roundg (n - (k + 1))
            case measure => omega
            case rel =>
              refine ⟨k + 1, M1 ++ [x], M3, (S0 ++ [z]) ++ x :: S2, by congr 1, Lib.hid ⟨HR1.out.1.symm, HR1.out.2, by simp, HJ.out.2.1.stop ?_, ?_, HJ.out.2.2.2.trans (Chg.of_below HE1.out)⟩, by omega, by omega, Nat.le_refl _⟩
              · intro S' z' e
                have : z' = z := by
                  have h := congrArg List.getLast? e
                  simp at h
                  exact h.symm
                subst this
                have := HLT.out
                omega
              · have := HA0.out.ext HE1.out
                simpa using this
        · have dj : decide ((i : Int) < (j : Int)) = false := decide_eq_false (by omega)
          go_wp2_with fail
          refine wp_region_segsK [([8, 1, 4, 4], 0, 0), ([2, 3], 2, 14), ([1, 2], 1, 0), ([2], 0, 0)] (by kernel_rfl) (by kernel_rfl) ?_
          apply segsK_pure
          · intro W
            simp only [runsT, runsF, rep, pick]
            go_wp2_with (first | refine Arr.wpList_ldA rfl _ _ rfl _ l1 ?_ | refine Arr.wpList_ldA rfl _ _ rfl _ l2 ?_)
            exact ⟨rfl, rfl⟩
          simp only [runsT, runsF, rep, left]
          apply segsK_look
          · simp only [runsT, runsF, rep, pick]
            go_wp2_with (first | refine Arr.wpList_ldA rfl _ _ rfl _ l1 ?_ | refine Arr.wpList_ldA rfl _ _ rfl _ l2 ?_)
            exact ⟨rfl, rfl⟩
          simp only [runsT, runsF, rep, left]
          apply segsK_op
          go_wp2_with fail
          refine ⟨fun h => (by cases h), ?_⟩
          apply segsK_pure
          · intro W
            simp only [runsT, runsF, rep, pick]
            go_wp2_with (first | refine Arr.wpList_ldA rfl _ _ rfl _ l1 ?_ | refine Arr.wpList_ldA rfl _ _ rfl _ l2 ?_)
            exact ⟨rfl, rfl⟩
          simp only [runsT, runsF, rep, left]
          apply segsK_nil
          go_wp2_with fail
          go_roundg (n - (k + 1))
          case measure => omega
          case rel =>
            have e1 : S1 = [] := by have := HJ.out.1; exact List.eq_nil_of_length_eq_zero (by omega)
            subst e1
            refine ⟨k + 1, M1 ++ [x], M3, x :: S2, by congr 1, Lib.hid ⟨HR1.out.1.symm, HR1.out.2, by simp, HJ.out.2.1.stop (fun S' z' e => by simp at e), ?_, HJ.out.2.2.2.trans (drew_chg _)⟩, by omega, by omega, Nat.le_refl _⟩
            have := HJ.out.2.2.1.ext (Ext.drew wr)
            simpa using this
    · obtain rfl : k = n := by omega
      have d0 : decide ((k : Int) < (k : Int)) = false := decide_eq_false (by omega)
      go_wp2_with fail
      go_end0
      have h := HR.out
      have h2 := HP.out
      have e2 : M2 = [] := by
        rw [h.1] at h2
        simp only [List.length_append] at h2
        exact List.eq_nil_of_length_eq_zero (by omega)
      subst e2
      refine ⟨rfl, ⟨S, ?_, ?_⟩, h.2.2.2.2.2⟩
      · rw [h.1, List.append_nil]; exact h.2.2.2.1
      · simpa using h.2.2.2.2.1
end Go.Proofs.Ytbjkpiobfiebhaa.Hs
