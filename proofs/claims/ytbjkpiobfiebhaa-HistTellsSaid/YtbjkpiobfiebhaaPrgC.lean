/-
  Package prog: which calls are right; the document's answer for it.
  No condition.
-/
import Derived.Test.YtbjkpiobfiebhaaPrgB
namespace Go.Proofs.Ytbjkpiobfiebhaa.Prg
open Go.RowKit Go.Shelf Go.Seg Go.Open Go.Lib

def sameO (x y : Nat → Int) : Bool := x 0 == y 0 && (x 1 == y 1 && (x 2 == y 2 && (x 3 == y 3 && x 4 == y 4)))
theorem eql_op (x y : Nat → Int) (W : World) : (binOp .eql 27 (.agg (#[.int .i64 (x 0), .int .i64 (x 1), .int .i64 (x 2), .int .i64 (x 3), .int .i64 (x 4)])) (.agg (#[.int .i64 (y 0), .int .i64 (y 1), .int .i64 (y 2), .int .i64 (y 3), .int .i64 (y 4)]))).run Try.prog W = .ok (.bool (sameO x y)) W := by
  unfold sameO
  by_cases h0 : x 0 = y 0 <;> by_cases h1 : x 1 = y 1 <;> by_cases h2 : x 2 = y 2 <;> by_cases h3 : x 3 = y 3 <;> by_cases h4 : x 4 = y 4 <;> go_simp
theorem Bare_none (f : Nat → Int) (w : World) (h : ¬ (0 ≤ f 0 ∧ f 0 ≤ 7)) :
    Calls Try.prog 48 #[.agg #[.int .i64 (f 0), .int .i64 (f 1), .int .i64 (f 2), .int .i64 (f 3), .int .i64 (f 4)]] w fun e w' => e = .returned (.agg #[.int .i64 ((bareF f) 0), .int .i64 ((bareF f) 1), .int .i64 ((bareF f) 2), .int .i64 ((bareF f) 3), .int .i64 ((bareF f) 4)]) ∧ Ext w w' := by
  have hb : bareF f = fun _ => 0 := by funext j; unfold bareF; rw [if_neg h]
  rw [hb]
  have HK := Lib.hid h
  clear h hb
  have hE : Ext w ((w.alloc (.cells (#[.int .i64 (f 0), .int .i64 (f 1), .int .i64 (f 2), .int .i64 (f 3), .int .i64 (f 4)]) 27)).alloc (.cells #[.int .i64 0, .int .i64 0, .int .i64 0, .int .i64 0, .int .i64 0] 27)) := ((Below.refl _ _).alloc (Nat.le_refl _) _).alloc (by simp) _
  have HE := Lib.hid hE
  clear hE
  go_enter Try.func48, Try.ntmps48
  go_wp2_with fail
  refine (known_no HK.out _).mono ?_
  rintro e w' ⟨rfl, rfl⟩
  have hst := Go.run_storeCells_new (P := Try.prog) (w.alloc (.cells (#[.int .i64 (f 0), .int .i64 (f 1), .int .i64 (f 2), .int .i64 (f 3), .int .i64 (f 4)]) 27)) 27 #[.int .i64 0, .int .i64 0, .int .i64 0, .int .i64 0, .int .i64 0] #[.int .i64 0, .int .i64 0, .int .i64 0, .int .i64 0, .int .i64 0] (by kernel_rfl) rfl (by simp [Value.oneCell'])
  go_wp2_with fail
  refine bodyPost_ret (results_struct1 (k := w.heap.size + 1) rfl rfl (blk_at (by simp)) (by kernel_rfl) (by kernel_rfl)) rfl ?_
  exact ⟨rfl, HE.out⟩
theorem Bare_any (f : Nat → Int) (w : World) : Calls Try.prog 48 #[.agg #[.int .i64 (f 0), .int .i64 (f 1), .int .i64 (f 2), .int .i64 (f 3), .int .i64 (f 4)]] w fun e w' => e = .returned (.agg #[.int .i64 ((bareF f) 0), .int .i64 ((bareF f) 1), .int .i64 ((bareF f) 2), .int .i64 ((bareF f) 3), .int .i64 ((bareF f) 4)]) ∧ Ext w w' := by
  by_cases h : 0 ≤ f 0 ∧ f 0 ≤ 7
  · exact Bare_known f w h
  · exact Bare_none f w h
/-- Is a call right? -/
def rightB (f : Nat → Int) : Bool := decide (0 ≤ f 0 ∧ f 0 ≤ 7) && sameO (bareF f) f
set_option maxHeartbeats 2000000 in
theorem Right_any (f : Nat → Int) (w : World) : Calls Try.prog 30 #[.agg #[.int .i64 (f 0), .int .i64 (f 1), .int .i64 (f 2), .int .i64 (f 3), .int .i64 (f 4)]] w fun e w' => e = .returned (.bool (rightB f)) ∧ Ext w w' := by
  have hB : Blk (w.alloc (.cells (#[.int .i64 (f 0), .int .i64 (f 1), .int .i64 (f 2), .int .i64 (f 3), .int .i64 (f 4)]) 27)) w.heap.size (#[.int .i64 (f 0), .int .i64 (f 1), .int .i64 (f 2), .int .i64 (f 3), .int .i64 (f 4)]) 27 := Blk.new _ _ _
  have hE : Ext w (w.alloc (.cells (#[.int .i64 (f 0), .int .i64 (f 1), .int .i64 (f 2), .int .i64 (f 3), .int .i64 (f 4)]) 27)) := (Below.refl _ _).alloc (Nat.le_refl _) _
  have HB := Lib.hid (And.intro hB hE)
  clear hB hE
  unfold rightB
  by_cases h : 0 ≤ f 0 ∧ f 0 ≤ 7
  · rw [decide_eq_true h, Bool.true_and]
    have HK := Lib.hid h
    clear h
    go_enter Try.func30, Try.ntmps30
    go_wp2_with fail
    obtain ⟨W0, hW0⟩ : ∃ W, w.alloc (.cells (#[.int .i64 (f 0), .int .i64 (f 1), .int .i64 (f 2), .int .i64 (f 3), .int .i64 (f 4)]) 27) = W := ⟨_, rfl⟩
    rw [hW0] at HB ⊢
    clear hW0
    refine wp_region_segs 10 [([2, 8], false), ([2, 1, 1, 3], false), ([0, 3], false), ([2], false)] (by kernel_rfl) (by kernel_rfl) ?_
    apply segs_cons
    · intro W hW
      have hc : ∀ i, W.cell? ⟨w.heap.size, i, none⟩ = (#[.int .i64 (f 0), .int .i64 (f 1), .int .i64 (f 2), .int .i64 (f 3), .int .i64 (f 4)] : Array Value)[i]? := fun i => ((HB.out.1.ext (Ext.drew _)).ext hW).cells i
      simp only [runsT, runsF, rep, pick]
      go_wp2_with fail
      exact ⟨rfl, rfl⟩
    simp only [runsT, runsF, rep, left]
    go_wp2_with fail
    refine (known_yes HK.out _).mono ?_
    rintro e w' ⟨rfl, rfl⟩
    go_wp2_with fail
    refine ⟨fun _ => Ext.refl _, ?_⟩
    apply segs_cons
    · intro W hW
      have hc : ∀ i, W.cell? ⟨w.heap.size, i, none⟩ = (#[.int .i64 (f 0), .int .i64 (f 1), .int .i64 (f 2), .int .i64 (f 3), .int .i64 (f 4)] : Array Value)[i]? := fun i => ((HB.out.1.ext (Ext.drew _)).ext hW).cells i
      simp only [runsT, runsF, rep, pick]
      go_wp2_with fail
      exact ⟨rfl, rfl⟩
    simp only [runsT, runsF, rep, left]
    go_wp2_with fail
    refine (Bare_any f _).mono ?_
    rintro e w1 ⟨rfl, hE1⟩
    have HE1 := Lib.hid hE1
    clear hE1
    go_wp2_with fail
    refine ⟨fun _ => HE1.out, ?_⟩
    apply segs_cons
    · intro W hW
      exact ⟨rfl, rfl⟩
    simp only [runsT, runsF, rep, left]
    go_wp2_with fail
    all_goals (
      refine ⟨fun _ => Ext.refl _, ?_⟩
      apply segs_cons
      · intro W hW
        simp only [runsT, runsF, rep, pick]
        go_wp2_with fail
        exact ⟨rfl, rfl⟩
      simp only [runsT, runsF, rep, left]
      go_wp2_with fail
      go_ret
      exact ⟨by simp [sameO, *], HB.out.2.trans (Ext.trans (Ext.drew _) HE1.out)⟩)
  · rw [decide_eq_false h, Bool.false_and]
    have HK := Lib.hid h
    clear h
    go_enter Try.func30, Try.ntmps30
    go_wp2_with fail
    obtain ⟨W0, hW0⟩ : ∃ W, w.alloc (.cells (#[.int .i64 (f 0), .int .i64 (f 1), .int .i64 (f 2), .int .i64 (f 3), .int .i64 (f 4)]) 27) = W := ⟨_, rfl⟩
    rw [hW0] at HB ⊢
    clear hW0
    refine wp_region_segs 10 [([2, 8], false), ([2, 1, 1, 3], false), ([0, 3], false), ([2], false)] (by kernel_rfl) (by kernel_rfl) ?_
    apply segs_cons
    · intro W hW
      have hc : ∀ i, W.cell? ⟨w.heap.size, i, none⟩ = (#[.int .i64 (f 0), .int .i64 (f 1), .int .i64 (f 2), .int .i64 (f 3), .int .i64 (f 4)] : Array Value)[i]? := fun i => ((HB.out.1.ext (Ext.drew _)).ext hW).cells i
      simp only [runsT, runsF, rep, pick]
      go_wp2_with fail
      exact ⟨rfl, rfl⟩
    simp only [runsT, runsF, rep, left]
    go_wp2_with fail
    refine (known_no HK.out _).mono ?_
    rintro e w' ⟨rfl, rfl⟩
    go_wp2_with fail
    refine ⟨fun _ => Ext.refl _, ?_⟩
    apply segs_cons
    · intro W hW
      have hc : ∀ i, W.cell? ⟨w.heap.size, i, none⟩ = (#[.int .i64 (f 0), .int .i64 (f 1), .int .i64 (f 2), .int .i64 (f 3), .int .i64 (f 4)] : Array Value)[i]? := fun i => ((HB.out.1.ext (Ext.drew _)).ext hW).cells i
      simp only [runsT, runsF, rep, pick]
      go_wp2_with fail
      exact ⟨rfl, rfl⟩
    simp only [runsT, runsF, rep, left]
    go_wp2_with fail
    refine ⟨fun _ => Ext.refl _, ?_⟩
    apply segs_cons
    · intro W hW
      exact ⟨rfl, rfl⟩
    simp only [runsT, runsF, rep, left]
    go_wp2_with fail
    refine ⟨fun _ => Ext.refl _, ?_⟩
    apply segs_cons
    · intro W hW
      simp only [runsT, runsF, rep, pick]
      go_wp2_with fail
      exact ⟨rfl, rfl⟩
    simp only [runsT, runsF, rep, left]
    go_wp2_with fail
    go_ret
    exact ⟨rfl, HB.out.2.trans (Ext.drew _)⟩
end Go.Proofs.Ytbjkpiobfiebhaa.Prg
