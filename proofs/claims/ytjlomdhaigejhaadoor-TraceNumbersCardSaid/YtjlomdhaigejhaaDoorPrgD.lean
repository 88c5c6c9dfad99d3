/-
  The document's answer for which calls are right; the names of the kinds; a call's own numbers.
  No condition.
-/
import Derived.Test.YtjlomdhaigejhaaDoorPrgC
namespace Go.Proofs.YtjlomdhaigejhaaDoor.Prg
open Go.RowKit Go.Shelf Go.Seg Go.Open Go.Lib

def five (k a b c d : Int) : Nat → Int
  | 0 => k
  | 1 => a
  | 2 => b
  | 3 => c
  | _ => d
theorem bare_five (f : Nat → Int) (j : Nat) (h : j < 5) : bareF (five (f 0) (f 1) (f 2) (f 3) (f 4)) j = bareF f j := by
  unfold bareF
  match j, h with
  | 0, _ => rfl
  | 1, _ => rfl
  | 2, _ => rfl
  | 3, _ => rfl
  | 4, _ => rfl
set_option maxHeartbeats 2000000 in
theorem rBare5 (k a b c d : Int) (w : World) : Calls Tryd.prog 35 #[.agg #[.int .i64 k, .int .i64 a, .int .i64 b, .int .i64 c, .int .i64 d]] w fun e w' => e = .returned (.agg #[.int .i64 ((bareF (five k a b c d)) 0), .int .i64 ((bareF (five k a b c d)) 1), .int .i64 ((bareF (five k a b c d)) 2), .int .i64 ((bareF (five k a b c d)) 3), .int .i64 ((bareF (five k a b c d)) 4)]) ∧ Ext w w' := by
  have hE : ∀ cs cs', Ext w ((w.alloc (.cells cs 23)).alloc (.cells cs' 23)) := fun cs cs' => ((Below.refl _ _).alloc (Nat.le_refl _) _).alloc (by simp) _
  have HE := Lib.hid hE
  clear hE
  have hst := fun W cs (h : cs.size = 5) (h1 : cs.all (·.oneCell') = true) => Go.run_storeCells_new (P := Tryd.prog) W 23 #[.int .i64 0, .int .i64 0, .int .i64 0, .int .i64 0, .int .i64 0] cs (by rw [h]; kernel_rfl) (by rw [h]; rfl) h1
  have HS := Lib.hid hst
  clear hst
  by_cases h1 : k = 1
  · subst h1
    have e : bareF (five 1 a b c d) 0 = 1 ∧ bareF (five 1 a b c d) 1 = a ∧ bareF (five 1 a b c d) 2 = 0 ∧ bareF (five 1 a b c d) 3 = 0 ∧ bareF (five 1 a b c d) 4 = 0 := ⟨rfl, rfl, rfl, rfl, rfl⟩
    rw [e.1, e.2.1, e.2.2.1, e.2.2.2.1, e.2.2.2.2]
    clear e
    have hst := HS.out (w.alloc (.cells #[.int .i64 1, .int .i64 a, .int .i64 b, .int .i64 c, .int .i64 d] 23)) #[.int .i64 1, .int .i64 a, .int .i64 0, .int .i64 0, .int .i64 0] rfl (by simp [Value.oneCell'])
    go_enter Tryd.func35, Tryd.ntmps35
    go_wp2_with fail
    refine bodyPost_ret (results_struct1 (k := w.heap.size + 1) rfl rfl (blk_at (by simp)) (by kernel_rfl) (by kernel_rfl)) rfl ?_
    exact ⟨rfl, HE.out _ _⟩
  by_cases h3 : k = 3
  · subst h3
    have e : bareF (five 3 a b c d) 0 = 3 ∧ bareF (five 3 a b c d) 1 = a ∧ bareF (five 3 a b c d) 2 = 0 ∧ bareF (five 3 a b c d) 3 = 0 ∧ bareF (five 3 a b c d) 4 = 0 := ⟨rfl, rfl, rfl, rfl, rfl⟩
    rw [e.1, e.2.1, e.2.2.1, e.2.2.2.1, e.2.2.2.2]
    clear e
    have hst := HS.out (w.alloc (.cells #[.int .i64 3, .int .i64 a, .int .i64 b, .int .i64 c, .int .i64 d] 23)) #[.int .i64 3, .int .i64 a, .int .i64 0, .int .i64 0, .int .i64 0] rfl (by simp [Value.oneCell'])
    go_enter Tryd.func35, Tryd.ntmps35
    go_wp2_with fail
    refine bodyPost_ret (results_struct1 (k := w.heap.size + 1) rfl rfl (blk_at (by simp)) (by kernel_rfl) (by kernel_rfl)) rfl ?_
    exact ⟨rfl, HE.out _ _⟩
  by_cases h2 : k = 2
  · subst h2
    have e : bareF (five 2 a b c d) 0 = 2 ∧ bareF (five 2 a b c d) 1 = a ∧ bareF (five 2 a b c d) 2 = b ∧ bareF (five 2 a b c d) 3 = c ∧ bareF (five 2 a b c d) 4 = d := ⟨rfl, rfl, rfl, rfl, rfl⟩
    rw [e.1, e.2.1, e.2.2.1, e.2.2.2.1, e.2.2.2.2]
    clear e
    have hst := HS.out (w.alloc (.cells #[.int .i64 2, .int .i64 a, .int .i64 b, .int .i64 c, .int .i64 d] 23)) #[.int .i64 2, .int .i64 a, .int .i64 b, .int .i64 c, .int .i64 d] rfl (by simp [Value.oneCell'])
    go_enter Tryd.func35, Tryd.ntmps35
    go_wp2_with fail
    refine bodyPost_ret (results_struct1 (k := w.heap.size + 1) rfl rfl (blk_at (by simp)) (by kernel_rfl) (by kernel_rfl)) rfl ?_
    exact ⟨rfl, HE.out _ _⟩
  by_cases h4 : k = 4
  · subst h4
    have e : bareF (five 4 a b c d) 0 = 4 ∧ bareF (five 4 a b c d) 1 = 0 ∧ bareF (five 4 a b c d) 2 = 0 ∧ bareF (five 4 a b c d) 3 = 0 ∧ bareF (five 4 a b c d) 4 = 0 := ⟨rfl, rfl, rfl, rfl, rfl⟩
    rw [e.1, e.2.1, e.2.2.1, e.2.2.2.1, e.2.2.2.2]
    clear e
    have hst := HS.out (w.alloc (.cells #[.int .i64 4, .int .i64 a, .int .i64 b, .int .i64 c, .int .i64 d] 23)) #[.int .i64 4, .int .i64 0, .int .i64 0, .int .i64 0, .int .i64 0] rfl (by simp [Value.oneCell'])
    go_enter Tryd.func35, Tryd.ntmps35
    go_wp2_with fail
    refine bodyPost_ret (results_struct1 (k := w.heap.size + 1) rfl rfl (blk_at (by simp)) (by kernel_rfl) (by kernel_rfl)) rfl ?_
    exact ⟨rfl, HE.out _ _⟩
  by_cases h5 : k = 5
  · subst h5
    have e : bareF (five 5 a b c d) 0 = 5 ∧ bareF (five 5 a b c d) 1 = 0 ∧ bareF (five 5 a b c d) 2 = 0 ∧ bareF (five 5 a b c d) 3 = 0 ∧ bareF (five 5 a b c d) 4 = 0 := ⟨rfl, rfl, rfl, rfl, rfl⟩
    rw [e.1, e.2.1, e.2.2.1, e.2.2.2.1, e.2.2.2.2]
    clear e
    have hst := HS.out (w.alloc (.cells #[.int .i64 5, .int .i64 a, .int .i64 b, .int .i64 c, .int .i64 d] 23)) #[.int .i64 5, .int .i64 0, .int .i64 0, .int .i64 0, .int .i64 0] rfl (by simp [Value.oneCell'])
    go_enter Tryd.func35, Tryd.ntmps35
    go_wp2_with fail
    refine bodyPost_ret (results_struct1 (k := w.heap.size + 1) rfl rfl (blk_at (by simp)) (by kernel_rfl) (by kernel_rfl)) rfl ?_
    exact ⟨rfl, HE.out _ _⟩
  by_cases h6 : k = 6
  · subst h6
    have e : bareF (five 6 a b c d) 0 = 6 ∧ bareF (five 6 a b c d) 1 = 0 ∧ bareF (five 6 a b c d) 2 = 0 ∧ bareF (five 6 a b c d) 3 = 0 ∧ bareF (five 6 a b c d) 4 = 0 := ⟨rfl, rfl, rfl, rfl, rfl⟩
    rw [e.1, e.2.1, e.2.2.1, e.2.2.2.1, e.2.2.2.2]
    clear e
    have hst := HS.out (w.alloc (.cells #[.int .i64 6, .int .i64 a, .int .i64 b, .int .i64 c, .int .i64 d] 23)) #[.int .i64 6, .int .i64 0, .int .i64 0, .int .i64 0, .int .i64 0] rfl (by simp [Value.oneCell'])
    go_enter Tryd.func35, Tryd.ntmps35
    go_wp2_with fail
    refine bodyPost_ret (results_struct1 (k := w.heap.size + 1) rfl rfl (blk_at (by simp)) (by kernel_rfl) (by kernel_rfl)) rfl ?_
    exact ⟨rfl, HE.out _ _⟩
  by_cases h7 : k = 7
  · subst h7
    have e : bareF (five 7 a b c d) 0 = 7 ∧ bareF (five 7 a b c d) 1 = 0 ∧ bareF (five 7 a b c d) 2 = 0 ∧ bareF (five 7 a b c d) 3 = c ∧ bareF (five 7 a b c d) 4 = 0 := ⟨rfl, rfl, rfl, rfl, rfl⟩
    rw [e.1, e.2.1, e.2.2.1, e.2.2.2.1, e.2.2.2.2]
    clear e
    have hst := HS.out (w.alloc (.cells #[.int .i64 7, .int .i64 a, .int .i64 b, .int .i64 c, .int .i64 d] 23)) #[.int .i64 7, .int .i64 0, .int .i64 0, .int .i64 c, .int .i64 0] rfl (by simp [Value.oneCell'])
    go_enter Tryd.func35, Tryd.ntmps35
    go_wp2_with fail
    refine bodyPost_ret (results_struct1 (k := w.heap.size + 1) rfl rfl (blk_at (by simp)) (by kernel_rfl) (by kernel_rfl)) rfl ?_
    exact ⟨rfl, HE.out _ _⟩
  have e : ∀ j, bareF (five k a b c d) j = 0 := fun j => by
    unfold bareF ownL
    show (if 0 ≤ k ∧ k ≤ 7 then (if j = 0 ∨ j ∈ (if k = 1 ∨ k = 3 then [1] else if k = 2 then [1, 2, 3, 4] else if k = 7 then [3] else []) then five k a b c d j else 0) else 0) = 0
    rw [if_neg (show ¬ (k = 1 ∨ k = 3) by omega), if_neg h2, if_neg h7]
    split
    · split
      · rename_i h8 h9
        obtain rfl : j = 0 := by simpa using h9
        show k = 0
        omega
      · rfl
    · rfl
  rw [e 0, e 1, e 2, e 3, e 4]
  clear e
  have d1 : (k == 1) = false := by simpa using h1
  have d3 : (k == 3) = false := by simpa using h3
  have d2 : (k == 2) = false := by simpa using h2
  have d4 : (k == 4) = false := by simpa using h4
  have d5 : (k == 5) = false := by simpa using h5
  have d6 : (k == 6) = false := by simpa using h6
  have d7 : (k == 7) = false := by simpa using h7
  clear h1 h2 h3 h4 h5 h6 h7
  have hst := HS.out (w.alloc (.cells #[.int .i64 k, .int .i64 a, .int .i64 b, .int .i64 c, .int .i64 d] 23)) #[.int .i64 0, .int .i64 0, .int .i64 0, .int .i64 0, .int .i64 0] rfl (by simp [Value.oneCell'])
  go_enter Tryd.func35, Tryd.ntmps35
  go_wp2_with fail
  refine bodyPost_ret (results_struct1 (k := w.heap.size + 1) rfl rfl (blk_at (by simp)) (by kernel_rfl) (by kernel_rfl)) rfl ?_
  exact ⟨rfl, HE.out _ _⟩
theorem rBare (f : Nat → Int) (w : World) : Calls Tryd.prog 35 #[.agg #[.int .i64 (f 0), .int .i64 (f 1), .int .i64 (f 2), .int .i64 (f 3), .int .i64 (f 4)]] w fun e w' => e = .returned (.agg #[.int .i64 ((bareF f) 0), .int .i64 ((bareF f) 1), .int .i64 ((bareF f) 2), .int .i64 ((bareF f) 3), .int .i64 ((bareF f) 4)]) ∧ Ext w w' := by
  have h := rBare5 (f 0) (f 1) (f 2) (f 3) (f 4) w
  rw [bare_five f 0 (by decide), bare_five f 1 (by decide), bare_five f 2 (by decide), bare_five f 3 (by decide), bare_five f 4 (by decide)] at h
  exact h
/-- The document's and the program's agree. -/
theorem rRight (f : Nat → Int) (w : World) : Calls Tryd.prog 21 #[.agg #[.int .i64 (f 0), .int .i64 (f 1), .int .i64 (f 2), .int .i64 (f 3), .int .i64 (f 4)]] w fun e w' => e = .returned (.bool (rightB f)) ∧ Ext w w' := by
  have hB : Blk (w.alloc (.cells (#[.int .i64 (f 0), .int .i64 (f 1), .int .i64 (f 2), .int .i64 (f 3), .int .i64 (f 4)]) 23)) w.heap.size (#[.int .i64 (f 0), .int .i64 (f 1), .int .i64 (f 2), .int .i64 (f 3), .int .i64 (f 4)]) 23 := Blk.new _ _ _
  have hE : Ext w (w.alloc (.cells (#[.int .i64 (f 0), .int .i64 (f 1), .int .i64 (f 2), .int .i64 (f 3), .int .i64 (f 4)]) 23)) := (Below.refl _ _).alloc (Nat.le_refl _) _
  have HB := Lib.hid (And.intro hB hE)
  clear hB hE
  unfold rightB
  by_cases h0 : 0 ≤ f 0
  · by_cases h7 : f 0 ≤ 7
    · rw [decide_eq_true (show 0 ≤ f 0 ∧ f 0 ≤ 7 from ⟨h0, h7⟩), Bool.true_and]
      have d0 : decide (0 ≤ f 0) = true := decide_eq_true h0
      have d7 : decide (f 0 ≤ 7) = true := decide_eq_true h7
      clear h0 h7
      go_enter Tryd.func21, Tryd.ntmps21
      go_wp2_with fail
      obtain ⟨W0, hW0⟩ : ∃ W, w.alloc (.cells (#[.int .i64 (f 0), .int .i64 (f 1), .int .i64 (f 2), .int .i64 (f 3), .int .i64 (f 4)]) 23) = W := ⟨_, rfl⟩
      rw [hW0] at HB ⊢
      clear hW0
      refine wp_region_segs 15 [([10, 1, 1, 3], false), ([0, 3], false), ([2], false)] (by kernel_rfl) (by kernel_rfl) ?_
      apply segs_cons
      · intro W hW
        have hc : ∀ i, W.cell? ⟨w.heap.size, i, none⟩ = (#[.int .i64 (f 0), .int .i64 (f 1), .int .i64 (f 2), .int .i64 (f 3), .int .i64 (f 4)] : Array Value)[i]? := fun i => ((HB.out.1.ext (Ext.drew _)).ext hW).cells i
        simp only [runsT, runsF, rep, pick]
        go_wp2_with fail
        exact ⟨rfl, rfl⟩
      simp only [runsT, runsF, rep, left]
      go_wp2_with fail
      refine (rBare f _).mono ?_
      rintro e w1 ⟨rfl, hE1⟩
      have HE1 := Lib.hid hE1
      clear hE1
      go_wp2_with fail
      refine ⟨fun _ => HE1.out, ?_⟩
      apply segs_cons
      · intro W hW
        exact ⟨rfl, rfl⟩
      simp only [runsT, runsF, rep, left]
      go_wp2_with fail
      all_goals (
        refine ⟨fun _ => Ext.refl _, ?_⟩
        apply segs_cons
        · intro W hW
          simp only [runsT, runsF, rep, pick]
          go_wp2_with fail
          exact ⟨rfl, rfl⟩
        simp only [runsT, runsF, rep, left]
        go_wp2_with fail
        go_ret
        exact ⟨by simp [sameO, *], HB.out.2.trans (Ext.trans (Ext.drew _) HE1.out)⟩)
    · rw [decide_eq_false (show ¬ (0 ≤ f 0 ∧ f 0 ≤ 7) from fun h => h7 h.2), Bool.false_and]
      have d0 : decide (0 ≤ f 0) = true := decide_eq_true h0
      have d7 : decide (f 0 ≤ 7) = false := decide_eq_false h7
      clear h0 h7
      go_enter Tryd.func21, Tryd.ntmps21
      go_wp2_with fail
      obtain ⟨W0, hW0⟩ : ∃ W, w.alloc (.cells (#[.int .i64 (f 0), .int .i64 (f 1), .int .i64 (f 2), .int .i64 (f 3), .int .i64 (f 4)]) 23) = W := ⟨_, rfl⟩
      rw [hW0] at HB ⊢
      clear hW0
      refine wp_region_segs 15 [([10, 1, 1, 3], false), ([0, 3], false), ([2], false)] (by kernel_rfl) (by kernel_rfl) ?_
      apply segs_cons
      · intro W hW
        have hc : ∀ i, W.cell? ⟨w.heap.size, i, none⟩ = (#[.int .i64 (f 0), .int .i64 (f 1), .int .i64 (f 2), .int .i64 (f 3), .int .i64 (f 4)] : Array Value)[i]? := fun i => ((HB.out.1.ext (Ext.drew _)).ext hW).cells i
        simp only [runsT, runsF, rep, pick]
        go_wp2_with fail
        exact ⟨rfl, rfl⟩
      simp only [runsT, runsF, rep, left]
      go_wp2_with fail
      refine ⟨fun _ => Ext.refl _, ?_⟩
      apply segs_cons
      · intro W hW
        exact ⟨rfl, rfl⟩
      simp only [runsT, runsF, rep, left]
      go_wp2_with fail
      refine ⟨fun _ => Ext.refl _, ?_⟩
      apply segs_cons
      · intro W hW
        simp only [runsT, runsF, rep, pick]
        go_wp2_with fail
        exact ⟨rfl, rfl⟩
      simp only [runsT, runsF, rep, left]
      go_wp2_with fail
      go_ret
      exact ⟨rfl, HB.out.2.trans (Ext.drew _)⟩
  · rw [decide_eq_false (show ¬ (0 ≤ f 0 ∧ f 0 ≤ 7) from fun h => h0 h.1), Bool.false_and]
    have d0 : decide (0 ≤ f 0) = false := decide_eq_false h0
    clear h0
    go_enter Tryd.func21, Tryd.ntmps21
    go_wp2_with fail
    obtain ⟨W0, hW0⟩ : ∃ W, w.alloc (.cells (#[.int .i64 (f 0), .int .i64 (f 1), .int .i64 (f 2), .int .i64 (f 3), .int .i64 (f 4)]) 23) = W := ⟨_, rfl⟩
    rw [hW0] at HB ⊢
    clear hW0
    refine wp_region_segs 15 [([10, 1, 1, 3], false), ([0, 3], false), ([2], false)] (by kernel_rfl) (by kernel_rfl) ?_
    apply segs_cons
    · intro W hW
      have hc : ∀ i, W.cell? ⟨w.heap.size, i, none⟩ = (#[.int .i64 (f 0), .int .i64 (f 1), .int .i64 (f 2), .int .i64 (f 3), .int .i64 (f 4)] : Array Value)[i]? := fun i => ((HB.out.1.ext (Ext.drew _)).ext hW).cells i
      simp only [runsT, runsF, rep, pick]
      go_wp2_with fail
      exact ⟨rfl, rfl⟩
    simp only [runsT, runsF, rep, left]
    go_wp2_with fail
    refine ⟨fun _ => Ext.refl _, ?_⟩
    apply segs_cons
    · intro W hW
      exact ⟨rfl, rfl⟩
    simp only [runsT, runsF, rep, left]
    go_wp2_with fail
    refine ⟨fun _ => Ext.refl _, ?_⟩
    apply segs_cons
    · intro W hW
      simp only [runsT, runsF, rep, pick]
      go_wp2_with fail
      exact ⟨rfl, rfl⟩
    simp only [runsT, runsF, rep, left]
    go_wp2_with fail
    go_ret
    exact ⟨rfl, HB.out.2.trans (Ext.drew _)⟩
/-- A new block of numbers. -/
theorem own_lits (w : World) (cs : Array Value) (n : Nat) (hn : cs.size = n) (hm : n ≤ 1000) : Row.Own RI (w.alloc (.cells cs 3)) w.heap.size (.slice (some ⟨w.heap.size, 0, none⟩) n n) n cs.toList := by
  subst hn
  exact ⟨by simp [RI], .inr ⟨w.heap.size, cs.size, cs, rfl, Nat.le_refl _, World.alloc_heap_new w _, Nat.le_refl _, by unfold maxLen; omega, by simp [RI], by rw [show cs.size * RI.size = cs.toList.length by simp [RI]]; exact List.take_length⟩⟩
/-- What is read where a call's own numbers are asked for. -/
theorem rNumbers5 (k a b c d : Int) (w : World) : Calls Tryd.prog 22 #[.agg #[.int .i64 k, .int .i64 a, .int .i64 b, .int .i64 c, .int .i64 d]] w fun e w' => ∃ v, e = .returned v ∧ Row.Own RI w' w.heap.size v (ownL k).length ((ownL k).map fun j => .int .i64 (five k a b c d j)) ∧ Ext w w' := by
  have hE : ∀ cs cs', Ext w ((w.alloc (.cells cs 23)).alloc (.cells cs' 3)) := fun cs cs' => ((Below.refl _ _).alloc (Nat.le_refl _) _).alloc (by simp) _
  have hE1 : ∀ cs, Ext w (w.alloc (.cells cs 23)) := fun cs => (Below.refl _ _).alloc (Nat.le_refl _) _
  have HE := Lib.hid (And.intro hE hE1)
  clear hE hE1
  by_cases h1 : k = 1
  · subst h1
    have HO := Lib.hid (own_lits (w.alloc (.cells #[.int .i64 1, .int .i64 a, .int .i64 b, .int .i64 c, .int .i64 d] 23)) #[.int .i64 a] 1 rfl (by decide))
    go_enter Tryd.func22, Tryd.ntmps22
    go_wp2_with fail
    go_ret
    exact ⟨_, rfl, by have h := HO.out.base (B' := w.heap.size) (by simp); rw [World.size_alloc] at h; exact h, HE.out.1 _ _⟩
  by_cases h3 : k = 3
  · subst h3
    have HO := Lib.hid (own_lits (w.alloc (.cells #[.int .i64 3, .int .i64 a, .int .i64 b, .int .i64 c, .int .i64 d] 23)) #[.int .i64 a] 1 rfl (by decide))
    go_enter Tryd.func22, Tryd.ntmps22
    go_wp2_with fail
    go_ret
    exact ⟨_, rfl, by have h := HO.out.base (B' := w.heap.size) (by simp); rw [World.size_alloc] at h; exact h, HE.out.1 _ _⟩
  by_cases h2 : k = 2
  · subst h2
    have HO := Lib.hid (own_lits (w.alloc (.cells #[.int .i64 2, .int .i64 a, .int .i64 b, .int .i64 c, .int .i64 d] 23)) #[.int .i64 a, .int .i64 b, .int .i64 c, .int .i64 d] 4 rfl (by decide))
    go_enter Tryd.func22, Tryd.ntmps22
    go_wp2_with fail
    go_ret
    exact ⟨_, rfl, by have h := HO.out.base (B' := w.heap.size) (by simp); rw [World.size_alloc] at h; exact h, HE.out.1 _ _⟩
  by_cases h7 : k = 7
  · subst h7
    have HO := Lib.hid (own_lits (w.alloc (.cells #[.int .i64 7, .int .i64 a, .int .i64 b, .int .i64 c, .int .i64 d] 23)) #[.int .i64 c] 1 rfl (by decide))
    go_enter Tryd.func22, Tryd.ntmps22
    go_wp2_with fail
    go_ret
    exact ⟨_, rfl, by have h := HO.out.base (B' := w.heap.size) (by simp); rw [World.size_alloc] at h; exact h, HE.out.1 _ _⟩
  have e : ownL k = [] := by unfold ownL; rw [if_neg (by omega), if_neg h2, if_neg h7]
  rw [e]
  clear e
  have d1 : (k == 1) = false := by simpa using h1
  have d3 : (k == 3) = false := by simpa using h3
  have d2 : (k == 2) = false := by simpa using h2
  have d7 : (k == 7) = false := by simpa using h7
  clear h1 h2 h3 h7
  skip
  go_enter Tryd.func22, Tryd.ntmps22
  go_wp2_with fail
  go_ret
  exact ⟨_, rfl, Row.Own.nil _ _, HE.out.2 _⟩
theorem rNumbers (f : Nat → Int) (w : World) : Calls Tryd.prog 22 #[.agg #[.int .i64 (f 0), .int .i64 (f 1), .int .i64 (f 2), .int .i64 (f 3), .int .i64 (f 4)]] w fun e w' => ∃ v, e = .returned v ∧ Row.Own RI w' w.heap.size v (ownL (f 0)).length ((ownL (f 0)).map fun j => .int .i64 (f j)) ∧ Ext w w' := by
  have h := rNumbers5 (f 0) (f 1) (f 2) (f 3) (f 4) w
  have e : ((ownL (f 0)).map fun j => Value.int .i64 (five (f 0) (f 1) (f 2) (f 3) (f 4) j)) = (ownL (f 0)).map fun j => Value.int .i64 (f j) := List.map_congr_left fun j hj => by
    have h5 := ownL_lt hj
    match j, h5 with
    | 0, _ => rfl
    | 1, _ => rfl
    | 2, _ => rfl
    | 3, _ => rfl
    | 4, _ => rfl
  rw [e] at h
  exact h
end Go.Proofs.YtjlomdhaigejhaaDoor.Prg
