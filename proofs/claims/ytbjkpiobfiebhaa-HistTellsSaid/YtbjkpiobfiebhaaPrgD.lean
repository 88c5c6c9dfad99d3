/-
  The document's answer for which calls are right; the names of the kinds; a call's own numbers.
  No condition.
-/
import Derived.Test.YtbjkpiobfiebhaaPrgC
namespace Go.Proofs.Ytbjkpiobfiebhaa.Prg
open Go.RowKit Go.Shelf Go.Seg Go.Open Go.Lib

def five (k a b c d : Int) : Nat → Int
  | 0 => k
  | 1 => a
  | 2 => b
  | 3 => c
  | _ => d
theorem bare_five (f : Nat → Int) (j : Nat) (h : j < 5) : bareF (five (f 0) (f 1) (f 2) (f 3) (f 4)) j = bareF f j := by
  unfold bareF
  match j, h with
  | 0, _ => rfl
  | 1, _ => rfl
  | 2, _ => rfl
  | 3, _ => rfl
  | 4, _ => rfl
set_option maxHeartbeats 2000000 in
theorem rBare5 (k a b c d : Int) (w : World) : Calls Try.prog 43 #[.agg #[.int .i64 k, .int .i64 a, .int .i64 b, .int .i64 c, .int .i64 d]] w fun e w' => e = .returned (.agg #[.int .i64 ((bareF (five k a b c d)) 0), .int .i64 ((bareF (five k a b c d)) 1), .int .i64 ((bareF (five k a b c d)) 2), .int .i64 ((bareF (five k a b c d)) 3), .int .i64 ((bareF (five k a b c d)) 4)]) ∧ Ext w w' := by
  have hE : ∀ cs cs', Ext w ((w.alloc (.cells cs 27)).alloc (.cells cs' 27)) := fun cs cs' => ((Below.refl _ _).alloc (Nat.le_refl _) _).alloc (by simp) _
  have HE := Lib.hid hE
  clear hE
  have hst := fun W cs (h : cs.size = 5) (h1 : cs.all (·.oneCell') = true) => Go.run_storeCells_new (P := Try.prog) W 27 #[.int .i64 0, .int .i64 0, .int .i64 0, .int .i64 0, .int .i64 0] cs (by rw [h]; kernel_rfl) (by rw [h]; rfl) h1
  have HS := Lib.hid hst
  clear hst
  by_cases h1 : k = 1
  · subst h1
    have e : bareF (five 1 a b c d) 0 = 1 ∧ bareF (five 1 a b c d) 1 = a ∧ bareF (five 1 a b c d) 2 = 0 ∧ bareF (five 1 a b c d) 3 = 0 ∧ bareF (five 1 a b c d) 4 = 0 := ⟨rfl, rfl, rfl, rfl, rfl⟩
    rw [e.1, e.2.1, e.2.2.1, e.2.2.2.1, e.2.2.2.2]
    clear e
    have hst := HS.out (w.alloc (.cells #[.int .i64 1, .int .i64 a, .int .i64 b, .int .i64 c, .int .i64 d] 27)) #[.int .i64 1, .int .i64 a, .int .i64 0, .int .i64 0, .int .i64 0] rfl (by simp [Value.oneCell'])
    go_enter Try.func43, Try.ntmps43
    go_wp2_with fail
    refine bodyPost_ret (results_struct1 (k := w.heap.size + 1) rfl rfl (blk_at (by simp)) (by kernel_rfl) (by kernel_rfl)) rfl ?_
    exact ⟨rfl, HE.out _ _⟩
  by_cases h3 : k = 3
  · subst h3
    have e : bareF (five 3 a b c d) 0 = 3 ∧ bareF (five 3 a b c d) 1 = a ∧ bareF (five 3 a b c d) 2 = 0 ∧ bareF (five 3 a b c d) 3 = 0 ∧ bareF (five 3 a b c d) 4 = 0 := ⟨rfl, rfl, rfl, rfl, rfl⟩
    rw [e.1, e.2.1, e.2.2.1, e.2.2.2.1, e.2.2.2.2]
    clear e
    have hst := HS.out (w.alloc (.cells #[.int .i64 3, .int .i64 a, .int .i64 b, .int .i64 c, .int .i64 d] 27)) #[.int .i64 3, .int .i64 a, .int .i64 0, .int .i64 0, .int .i64 0] rfl (by simp [Value.oneCell'])
    go_enter Try.func43, Try.ntmps43
    go_wp2_with fail
    refine bodyPost_ret (results_struct1 (k := w.heap.size + 1) rfl rfl (blk_at (by simp)) (by kernel_rfl) (by kernel_rfl)) rfl ?_
    exact ⟨rfl, HE.out _ _⟩
  by_cases h2 : k = 2
  · subst h2
    have e : bareF (five 2 a b c d) 0 = 2 ∧ bareF (five 2 a b c d) 1 = a ∧ bareF (five 2 a b c d) 2 = b ∧ bareF (five 2 a b c d) 3 = c ∧ bareF (five 2 a b c d) 4 = d := ⟨rfl, rfl, rfl, rfl, rfl⟩
    rw [e.1, e.2.1, e.2.2.1, e.2.2.2.1, e.2.2.2.2]
    clear e
    have hst := HS.out (w.alloc (.cells #[.int .i64 2, .int .i64 a, .int .i64 b, .int .i64 c, .int .i64 d] 27)) #[.int .i64 2, .int .i64 a, .int .i64 b, .int .i64 c, .int .i64 d] rfl (by simp [Value.oneCell'])
    go_enter Try.func43, Try.ntmps43
    go_wp2_with fail
    refine bodyPost_ret (results_struct1 (k := w.heap.size + 1) rfl rfl (blk_at (by simp)) (by kernel_rfl) (by kernel_rfl)) rfl ?_
    exact ⟨rfl, HE.out _ _⟩
  by_cases h4 : k = 4
  · subst h4
    have e : bareF (five 4 a b c d) 0 = 4 ∧ bareF (five 4 a b c d) 1 = 0 ∧ bareF (five 4 a b c d) 2 = 0 ∧ bareF (five 4 a b c d) 3 = 0 ∧ bareF (five 4 a b c d) 4 = 0 := ⟨rfl, rfl, rfl, rfl, rfl⟩
    rw [e.1, e.2.1, e.2.2.1, e.2.2.2.1, e.2.2.2.2]
    clear e
    have hst := HS.out (w.alloc (.cells #[.int .i64 4, .int .i64 a, .int .i64 b, .int .i64 c, .int .i64 d] 27)) #[.int .i64 4, .int .i64 0, .int .i64 0, .int .i64 0, .int .i64 0] rfl (by simp [Value.oneCell'])
    go_enter Try.func43, Try.ntmps43
    go_wp2_with fail
    refine bodyPost_ret (results_struct1 (k := w.heap.size + 1) rfl rfl (blk_at (by simp)) (by kernel_rfl) (by kernel_rfl)) rfl ?_
    exact ⟨rfl, HE.out _ _⟩
  by_cases h5 : k = 5
  · subst h5
    have e : bareF (five 5 a b c d) 0 = 5 ∧ bareF (five 5 a b c d) 1 = 0 ∧ bareF (five 5 a b c d) 2 = 0 ∧ bareF (five 5 a b c d) 3 = 0 ∧ bareF (five 5 a b c d) 4 = 0 := ⟨rfl, rfl, rfl, rfl, rfl⟩
    rw [e.1, e.2.1, e.2.2.1, e.2.2.2.1, e.2.2.2.2]
    clear e
    have hst := HS.out (w.alloc (.cells #[.int .i64 5, .int .i64 a, .int .i64 b, .int .i64 c, .int .i64 d] 27)) #[.int .i64 5, .int .i64 0, .int .i64 0, .int .i64 0, .int .i64 0] rfl (by simp [Value.oneCell'])
    go_enter Try.func43, Try.ntmps43
    go_wp2_with fail
    refine bodyPost_ret (results_struct1 (k := w.heap.size + 1) rfl rfl (blk_at (by simp)) (by kernel_rfl) (by kernel_rfl)) rfl ?_
    exact ⟨rfl, HE.out _ _⟩
  by_cases h6 : k = 6
  · subst h6
    have e : bareF (five 6 a b c d) 0 = 6 ∧ bareF (five 6 a b c d) 1 = 0 ∧ bareF (five 6 a b c d) 2 = 0 ∧ bareF (five 6 a b c d) 3 = 0 ∧ bareF (five 6 a b c d) 4 = 0 := ⟨rfl, rfl, rfl, rfl, rfl⟩
    rw [e.1, e.2.1, e.2.2.1, e.2.2.2.1, e.2.2.2.2]
    clear e
    have hst := HS.out (w.alloc (.cells #[.int .i64 6, .int .i64 a, .int .i64 b, .int .i64 c, .int .i64 d] 27)) #[.int .i64 6, .int .i64 0, .int .i64 0, .int .i64 0, .int .i64 0] rfl (by simp [Value.oneCell'])
    go_enter Try.func43, Try.ntmps43
    go_wp2_with fail
    refine bodyPost_ret (results_struct1 (k := w.heap.size + 1) rfl rfl (blk_at (by simp)) (by kernel_rfl) (by kernel_rfl)) rfl ?_
    exact ⟨rfl, HE.out _ _⟩
  by_cases h7 : k = 7
  · subst h7
    have e : bareF (five 7 a b c d) 0 = 7 ∧ bareF (five 7 a b c d) 1 = 0 ∧ bareF (five 7 a b c d) 2 = 0 ∧ bareF (five 7 a b c d) 3 = c ∧ bareF (five 7 a b c d) 4 = 0 := ⟨rfl, rfl, rfl, rfl, rfl⟩
    rw [e.1, e.2.1, e.2.2.1, e.2.2.2.1, e.2.2.2.2]
    clear e
    have hst := HS.out (w.alloc (.cells #[.int .i64 7, .int .i64 a, .int .i64 b, .int .i64 c, .int .i64 d] 27)) #[.int .i64 7, .int .i64 0, .int .i64 0, .int .i64 c, .int .i64 0] rfl (by simp [Value.oneCell'])
    go_enter Try.func43, Try.ntmps43
    go_wp2_with fail
    refine bodyPost_ret (results_struct1 (k := w.heap.size + 1) rfl rfl (blk_at (by simp)) (by kernel_rfl) (by kernel_rfl)) rfl ?_
    exact ⟨rfl, HE.out _ _⟩
  have e : ∀ j, bareF (five k a b c d) j = 0 := fun j => by
    unfold bareF ownL
    show (if 0 ≤ k ∧ k ≤ 7 then (if j = 0 ∨ j ∈ (if k = 1 ∨ k = 3 then [1] else if k = 2 then [1, 2, 3, 4] else if k = 7 then [3] else []) then five k a b c d j else 0) else 0) = 0
    rw [if_neg (show ¬ (k = 1 ∨ k = 3) by omega), if_neg h2, if_neg h7]
    split
    · split
      · rename_i h8 h9
        obtain rfl : j = 0 := by simpa using h9
        show k = 0
        omega
      · rfl
    · rfl
  rw [e 0, e 1, e 2, e 3, e 4]
  clear e
  have d1 : (k == 1) = false := by simpa using h1
  have d3 : (k == 3) = false := by simpa using h3
  have d2 : (k == 2) = false := by simpa using h2
  have d4 : (k == 4) = false := by simpa using h4
  have d5 : (k == 5) = false := by simpa using h5
  have d6 : (k == 6) = false := by simpa using h6
  have d7 : (k == 7) = false := by simpa using h7
  clear h1 h2 h3 h4 h5 h6 h7
  have hst := HS.out (w.alloc (.cells #[.int .i64 k, .int .i64 a, .int .i64 b, .int .i64 c, .int .i64 d] 27)) #[.int .i64 0, .int .i64 0, .int .i64 0, .int .i64 0, .int .i64 0] rfl (by simp [Value.oneCell'])
  go_enter Try.func43, Try.ntmps43
  go_wp2_with fail
  refine bodyPost_ret (results_struct1 (k := w.heap.size + 1) rfl rfl (blk_at (by simp)) (by kernel_rfl) (by kernel_rfl)) rfl ?_
  exact ⟨rfl, HE.out _ _⟩
theorem rBare (f : Nat → Int) (w : World) : Calls Try.prog 43 #[.agg #[.int .i64 (f 0), .int .i64 (f 1), .int .i64 (f 2), .int .i64 (f 3), .int .i64 (f 4)]] w fun e w' => e = .returned (.agg #[.int .i64 ((bareF f) 0), .int .i64 ((bareF f) 1), .int .i64 ((bareF f) 2), .int .i64 ((bareF f) 3), .int .i64 ((bareF f) 4)]) ∧ Ext w w' := by
  have h := rBare5 (f 0) (f 1) (f 2) (f 3) (f 4) w
  rw [bare_five f 0 (by decide), bare_five f 1 (by decide), bare_five f 2 (by decide), bare_five f 3 (by decide), bare_five f 4 (by decide)] at h
  exact h
/-- The document's and the program's agree. -/
theorem rRight (f : Nat → Int) (w : World) : Calls Try.prog 26 #[.agg #[.int .i64 (f 0), .int .i64 (f 1), .int .i64 (f 2), .int .i64 (f 3), .int .i64 (f 4)]] w fun e w' => e = .returned (.bool (rightB f)) ∧ Ext w w' := by
  have hB : Blk (w.alloc (.cells (#[.int .i64 (f 0), .int .i64 (f 1), .int .i64 (f 2), .int .i64 (f 3), .int .i64 (f 4)]) 27)) w.heap.size (#[.int .i64 (f 0), .int .i64 (f 1), .int .i64 (f 2), .int .i64 (f 3), .int .i64 (f 4)]) 27 := Blk.new _ _ _
  have hE : Ext w (w.alloc (.cells (#[.int .i64 (f 0), .int .i64 (f 1), .int .i64 (f 2), .int .i64 (f 3), .int .i64 (f 4)]) 27)) := (Below.refl _ _).alloc (Nat.le_refl _) _
  have HB := Lib.hid (And.intro hB hE)
  clear hB hE
  unfold rightB
  by_cases h0 : 0 ≤ f 0
  · by_cases h7 : f 0 ≤ 7
    · rw [decide_eq_true (show 0 ≤ f 0 ∧ f 0 ≤ 7 from ⟨h0, h7⟩), Bool.true_and]
      have d0 : decide (0 ≤ f 0) = true := decide_eq_true h0
      have d7 : decide (f 0 ≤ 7) = true := decide_eq_true h7
      clear h0 h7
      go_enter Try.func26, Try.ntmps26
      go_wp2_with fail
      obtain ⟨W0, hW0⟩ : ∃ W, w.alloc (.cells (#[.int .i64 (f 0), .int .i64 (f 1), .int .i64 (f 2), .int .i64 (f 3), .int .i64 (f 4)]) 27) = W := ⟨_, rfl⟩
      rw [hW0] at HB ⊢
      clear hW0
      refine wp_region_segs 15 [([10, 1, 1, 3], false), ([0, 3], false), ([2], false)] (by kernel_rfl) (by kernel_rfl) ?_
      apply segs_cons
      · intro W hW
        have hc : ∀ i, W.cell? ⟨w.heap.size, i, none⟩ = (#[.int .i64 (f 0), .int .i64 (f 1), .int .i64 (f 2), .int .i64 (f 3), .int .i64 (f 4)] : Array Value)[i]? := fun i => ((HB.out.1.ext (Ext.drew _)).ext hW).cells i
        simp only [runsT, runsF, rep, pick]
        go_wp2_with fail
        exact ⟨rfl, rfl⟩
      simp only [runsT, runsF, rep, left]
      go_wp2_with fail
      refine (rBare f _).mono ?_
      rintro e w1 ⟨rfl, hE1⟩
      have HE1 := Lib.hid hE1
      clear hE1
      go_wp2_with fail
      refine ⟨fun _ => HE1.out, ?_⟩
      apply segs_cons
      · intro W hW
        exact ⟨rfl, rfl⟩
      simp only [runsT, runsF, rep, left]
      go_wp2_with fail
      all_goals (
        refine ⟨fun _ => Ext.refl _, ?_⟩
        apply segs_cons
        · intro W hW
          simp only [runsT, runsF, rep, pick]
          go_wp2_with fail
          exact ⟨rfl, rfl⟩
        simp only [runsT, runsF, rep, left]
        go_wp2_with fail
        go_ret
        exact ⟨by simp [sameO, *], HB.out.2.trans (Ext.trans (Ext.drew _) HE1.out)⟩)
    · rw [decide_eq_false (show ¬ (0 ≤ f 0 ∧ f 0 ≤ 7) from fun h => h7 h.2), Bool.false_and]
      have d0 : decide (0 ≤ f 0) = true := decide_eq_true h0
      have d7 : decide (f 0 ≤ 7) = false := decide_eq_false h7
      clear h0 h7
      go_enter Try.func26, Try.ntmps26
      go_wp2_with fail
      obtain ⟨W0, hW0⟩ : ∃ W, w.alloc (.cells (#[.int .i64 (f 0), .int .i64 (f 1), .int .i64 (f 2), .int .i64 (f 3), .int .i64 (f 4)]) 27) = W := ⟨_, rfl⟩
      rw [hW0] at HB ⊢
      clear hW0
      refine wp_region_segs 15 [([10, 1, 1, 3], false), ([0, 3], false), ([2], false)] (by kernel_rfl) (by kernel_rfl) ?_
      apply segs_cons
      · intro W hW
        have hc : ∀ i, W.cell? ⟨w.heap.size, i, none⟩ = (#[.int .i64 (f 0), .int .i64 (f 1), .int .i64 (f 2), .int .i64 (f 3), .int .i64 (f 4)] : Array Value)[i]? := fun i => ((HB.out.1.ext (Ext.drew _)).ext hW).cells i
        simp only [runsT, runsF, rep, pick]
        go_wp2_with fail
        exact ⟨rfl, rfl⟩
      simp only [runsT, runsF, rep, left]
      go_wp2_with fail
      refine ⟨fun _ => Ext.refl _, ?_⟩
      apply segs_cons
      · intro W hW
        exact ⟨rfl, rfl⟩
      simp only [runsT, runsF, rep, left]
      go_wp2_with fail
      refine ⟨fun _ => Ext.refl _, ?_⟩
      apply segs_cons
      · intro W hW
        simp only [runsT, runsF, rep, pick]
        go_wp2_with fail
        exact ⟨rfl, rfl⟩
      simp only [runsT, runsF, rep, left]
      go_wp2_with fail
      go_ret
      exact ⟨rfl, HB.out.2.trans (Ext.drew _)⟩
  · rw [decide_eq_false (show ¬ (0 ≤ f 0 ∧ f 0 ≤ 7) from fun h => h0 h.1), Bool.false_and]
    have d0 : decide (0 ≤ f 0) = false := decide_eq_false h0
    clear h0
    go_enter Try.func26, Try.ntmps26
    go_wp2_with fail
    obtain ⟨W0, hW0⟩ : ∃ W, w.alloc (.cells (#[.int .i64 (f 0), .int .i64 (f 1), .int .i64 (f 2), .int .i64 (f 3), .int .i64 (f 4)]) 27) = W := ⟨_, rfl⟩
    rw [hW0] at HB ⊢
    clear hW0
    refine wp_region_segs 15 [([10, 1, 1, 3], false), ([0, 3], false), ([2], false)] (by kernel_rfl) (by kernel_rfl) ?_
    apply segs_cons
    · intro W hW
      have hc : ∀ i, W.cell? ⟨w.heap.size, i, none⟩ = (#[.int .i64 (f 0), .int .i64 (f 1), .int .i64 (f 2), .int .i64 (f 3), .int .i64 (f 4)] : Array Value)[i]? := fun i => ((HB.out.1.ext (Ext.drew _)).ext hW).cells i
      simp only [runsT, runsF, rep, pick]
      go_wp2_with fail
      exact ⟨rfl, rfl⟩
    simp only [runsT, runsF, rep, left]
    go_wp2_with fail
    refine ⟨fun _ => Ext.refl _, ?_⟩
    apply segs_cons
    · intro W hW
      exact ⟨rfl, rfl⟩
    simp only [runsT, runsF, rep, left]
    go_wp2_with fail
    refine ⟨fun _ => Ext.refl _, ?_⟩
    apply segs_cons
    · intro W hW
      simp only [runsT, runsF, rep, pick]
      go_wp2_with fail
      exact ⟨rfl, rfl⟩
    simp only [runsT, runsF, rep, left]
    go_wp2_with fail
    go_ret
    exact ⟨rfl, HB.out.2.trans (Ext.drew _)⟩
end Go.Proofs.Ytbjkpiobfiebhaa.Prg
