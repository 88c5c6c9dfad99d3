/-
  ShardPlays: any steps on a shard tell what the document tells, and all that is there then. At most 40 steps (the law's own guard).
-/
import Derived.Test.YtnpfikabcmngpaaRows
import Derived.WalkKit
import Derived.ProofKit
import Derived.OpenShut
import Derived.ShutString
import Derived.ChangeOld
import Derived.Below
import Derived.Test.YtnpfikabcmngpaaShPlays
import Derived.Test.YtnpfikabcmngpaaOpen
namespace Go.Proofs.Ytnpfikabcmngpaa.shardPlaysDone
open Go.ChangeShapes Go.WideShapes Go.ChangeAt Go.RowKit Go.Open
open Go.ChangeMaps (open_string shut_string)

/-- A slice of steps of law 22. -/
theorem stepsU {w : World} {v : Value} {a : Option Addr} {len cap : Nat} (h : IsSl w v [.i .u64, .i .u64, .i .u64, .i .i64, .i .i64, .i .i64, .i .i64, .i .i64] a len cap) : ∃ (b off : Nat) (F : Nat → Int × Int × Int × Int × Int × Int × Int × Int), (0 < len → a = some ⟨b, off, none⟩) ∧ (∀ i, i < len → 0 ≤ (F i).1 ∧ (F i).1 ≤ 18446744073709551615) ∧ ∀ W, Below w.heap.size w W → ∀ i, i < len → W.cell? ⟨b, off + i * 8, none⟩ = some (.int .u64 (F i).1) ∧ W.cell? ⟨b, off + i * 8 + 1, none⟩ = some (.int .u64 (F i).2.1) ∧ W.cell? ⟨b, off + i * 8 + 2, none⟩ = some (.int .u64 (F i).2.2.1) ∧ W.cell? ⟨b, off + i * 8 + 3, none⟩ = some (.int .i64 (F i).2.2.2.1) ∧ W.cell? ⟨b, off + i * 8 + 4, none⟩ = some (.int .i64 (F i).2.2.2.2.1) ∧ W.cell? ⟨b, off + i * 8 + 5, none⟩ = some (.int .i64 (F i).2.2.2.2.2.1) ∧ W.cell? ⟨b, off + i * 8 + 6, none⟩ = some (.int .i64 (F i).2.2.2.2.2.2.1) ∧ W.cell? ⟨b, off + i * 8 + 7, none⟩ = some (.int .i64 (F i).2.2.2.2.2.2.2) := by
  by_cases h0 : 0 < len
  · obtain ⟨b, off, ha, hc⟩ := h.cells h0
    have key : ∀ i, i < len → ∃ f : Int × Int × Int × Int × Int × Int × Int × Int, (0 ≤ f.1 ∧ f.1 ≤ 18446744073709551615) ∧ w.cell? ⟨b, off + i * 8, none⟩ = some (.int .u64 f.1) ∧ w.cell? ⟨b, off + i * 8 + 1, none⟩ = some (.int .u64 f.2.1) ∧ w.cell? ⟨b, off + i * 8 + 2, none⟩ = some (.int .u64 f.2.2.1) ∧ w.cell? ⟨b, off + i * 8 + 3, none⟩ = some (.int .i64 f.2.2.2.1) ∧ w.cell? ⟨b, off + i * 8 + 4, none⟩ = some (.int .i64 f.2.2.2.2.1) ∧ w.cell? ⟨b, off + i * 8 + 5, none⟩ = some (.int .i64 f.2.2.2.2.2.1) ∧ w.cell? ⟨b, off + i * 8 + 6, none⟩ = some (.int .i64 f.2.2.2.2.2.2.1) ∧ w.cell? ⟨b, off + i * 8 + 7, none⟩ = some (.int .i64 f.2.2.2.2.2.2.2) := fun i hi => by
      obtain ⟨cs, hf, hcell⟩ := hc i hi
      obtain ⟨v0, r0, rfl, ⟨x0, rfl, g0⟩, hr0⟩ := fitsAll_cons hf
      obtain ⟨v1, r1, rfl, ⟨x1, rfl, g1⟩, hr1⟩ := fitsAll_cons hr0
      obtain ⟨v2, r2, rfl, ⟨x2, rfl, g2⟩, hr2⟩ := fitsAll_cons hr1
      obtain ⟨v3, r3, rfl, ⟨x3, rfl, g3⟩, hr3⟩ := fitsAll_cons hr2
      obtain ⟨v4, r4, rfl, ⟨x4, rfl, g4⟩, hr4⟩ := fitsAll_cons hr3
      obtain ⟨v5, r5, rfl, ⟨x5, rfl, g5⟩, hr5⟩ := fitsAll_cons hr4
      obtain ⟨v6, r6, rfl, ⟨x6, rfl, g6⟩, hr6⟩ := fitsAll_cons hr5
      obtain ⟨v7, r7, rfl, ⟨x7, rfl, g7⟩, hr7⟩ := fitsAll_cons hr6
      have h0 := hcell 0 (by simp)
      have h1 := hcell 1 (by simp)
      have h2 := hcell 2 (by simp)
      have h3 := hcell 3 (by simp)
      have h4 := hcell 4 (by simp)
      have h5 := hcell 5 (by simp)
      have h6 := hcell 6 (by simp)
      have h7 := hcell 7 (by simp)
      simp at h0 h1 h2 h3 h4 h5 h6 h7
      refine ⟨(x0, x1, x2, x3, x4, x5, x6, x7), ?_, h0, by rw [Nat.add_assoc]; exact h1, by rw [Nat.add_assoc]; exact h2, by rw [Nat.add_assoc]; exact h3, by rw [Nat.add_assoc]; exact h4, by rw [Nat.add_assoc]; exact h5, by rw [Nat.add_assoc]; exact h6, by rw [Nat.add_assoc]; exact h7⟩
      unfold Lit.wf at g0
      simp only [Bool.and_eq_true, decide_eq_true_eq] at g0
      exact g0
    obtain ⟨F, hF⟩ := Go.Deep.choose_lt key
    have hlt : b < w.heap.size := World.block_lt_of_cell? w _ (hF 0 h0).2.1
    refine ⟨b, off, F, fun _ => ha, fun i hi => (hF i hi).1, fun W hW i hi => ?_⟩
    obtain ⟨_, k0, k1, k2, k3, k4, k5, k6, k7⟩ := hF i hi
    exact ⟨(hW.cell (p := ⟨b, off + i * 8, none⟩) hlt).trans k0, (hW.cell (p := ⟨b, off + i * 8 + 1, none⟩) hlt).trans k1, (hW.cell (p := ⟨b, off + i * 8 + 2, none⟩) hlt).trans k2, (hW.cell (p := ⟨b, off + i * 8 + 3, none⟩) hlt).trans k3, (hW.cell (p := ⟨b, off + i * 8 + 4, none⟩) hlt).trans k4, (hW.cell (p := ⟨b, off + i * 8 + 5, none⟩) hlt).trans k5, (hW.cell (p := ⟨b, off + i * 8 + 6, none⟩) hlt).trans k6, (hW.cell (p := ⟨b, off + i * 8 + 7, none⟩) hlt).trans k7⟩
  · exact ⟨0, 0, fun _ => (0, 0, 0, 0, 0, 0, 0, 0), fun h => absurd h h0, fun i hi => absurd hi (by omega), fun W hW i hi => absurd hi (by omega)⟩
theorem own : ownKnob Try.prog.godebug = none := by kernel_rfl
theorem laidOut : laidOutB Try.prog = true := by kernel_rfl
set_option maxRecDepth 100000 in
theorem lifted (os : Os) (started : os.Started) (H : Type) (enc : TypeId × Value → H) :
    ReturnsInHanded {} Try.checked os 3 .any (Rows.shardPlaysSpec.pre6 enc Try.prog Try.f3 Rows.shardPlaysRow.domain false) (Rows.shardPlaysSpec.post enc Try.prog Try.f3 false true false false) := by
  refine returnsInHanded_of_change (C := Try.checked) own started (by kernel_rfl) Try.func3
    (ChangeSpec.witness6 (enc := enc) (C := Try.checked) false ⟨#[], #[.slice none 0 0, .int .u64 0], []⟩ 8 (by kernel_rfl) (by kernel_rfl) (by kernel_rfl) (by kernel_rfl)) ?_
  intro W base args ds gs before hval0 hW hcnd _
  have hval : ∀ (j : Nat) t v, Try.f3.params[j]? = some t → args[j]? = some v → Value.okWide Try.prog W .any base t v := hval0
  have hW' := hW
  obtain ⟨p, q, hA0, hV, rfl, hfz, hnd⟩ := hW
  have hA : DataW.TrodAll enc Try.prog W 0 (fun _ => true) true Try.f3.params.toList args.toList ds p := hA0
  rw [Try.params3] at hA hval
  obtain ⟨v0, vs0, d0, ds0, p0, q0, hargs, rfl, rfl, h0, r0⟩ := trodAll_cons hA
  obtain ⟨v1, vs1, d1, ds1, p1, q1, rfl, rfl, rfl, h1, r1⟩ := trodAll_cons r0
  obtain ⟨rfl, rfl, rfl⟩ := trodAll_nil r1
  obtain rfl : args = #[v0, v1] := by cases args; simp_all
  obtain ⟨rfl, rfl⟩ := trodVars_none hV
  have k0 := h0
  have lt0 : ∀ x ∈ p0, x.block < W.heap.size := by obtain ⟨m, hm⟩ := k0; exact DataW.trod_lt m _ _ _ hm
  have k1 := h1
  have lt1 : ∀ x ∈ p1, x.block < W.heap.size := by obtain ⟨m, hm⟩ := k1; exact DataW.trod_lt m _ _ _ hm
  obtain ⟨a, len, cap, rfl⟩ : ∃ a len cap, v0 = .slice a len cap := okWide_slice Try.underlying22 (hval 0 22 v0 rfl rfl)
  obtain ⟨f0, t0⟩ := h0
  simp only [Value.cells] at t0
  obtain ⟨a', len', cap', hsl0⟩ := sl_open (d := 3) (ks := [.i .u64, .i .u64, .i .u64, .i .i64, .i .i64, .i .i64, .i .i64, .i .i64]) Try.underlying22 (show flat Try.prog 3 37 = some [.i .u64, .i .u64, .i .u64, .i .i64, .i .i64, .i .i64, .i .i64, .i .i64] by kernel_rfl) (by kernel_rfl) (by decide) t0
  obtain ⟨rfl, rfl, rfl⟩ : a = a' ∧ len = len' ∧ cap = cap' := by have := hsl0.val; simp at this; exact this
  obtain ⟨b, off, F, hb0, hF00, hF0⟩ := stepsU hsl0
  obtain ⟨most, rfl⟩ : ∃ n, v1 = .int _ n := okWide_int Try.underlying23 (hval 1 23 v1 rfl rfl)
  obtain ⟨f1, t1⟩ := h1
  simp only [Value.cells] at t1
  obtain ⟨most', hv1, _, hw1⟩ := DataW.trod_int Try.underlying23 t1
  obtain rfl : most = most' := by simpa using hv1
  have hw1' : 0 ≤ most ∧ most ≤ 18446744073709551615 := by
    unfold Lit.wf at hw1
    simp only [Bool.and_eq_true, decide_eq_true_eq] at hw1
    exact hw1
  refine (ShP.plays_walk a len cap b off F most W hb0 hsl0.le hw1'.1 hw1'.2 hF00 hF0).mono fun e W' ⟨he, bel⟩ => ?_
  subst he
  exact ⟨_, rfl, _, _, _, [], _, [], hW', trodAll_mk1 (shut_bool Try.underlying4 _), (trodAll_cons_mk (Below.trod laidOut (by kernel_rfl) (of_decide_eq_true (by kernel_rfl)) k0 bel lt0) (trodAll_cons_mk (Below.trod laidOut (by kernel_rfl) (of_decide_eq_true (by kernel_rfl)) k1 bel lt1) trodAll_mk0)), rfl, bel.frame _, fun h => by cases h⟩
theorem over : Rows.shardPlaysRow.holds Try.pinned (OpenSpec.ofChange Rows.shardPlaysSpec) :=
  OpenClaim.holds_of_wide 3 Try.f3 rfl rfl rfl rfl rfl rfl rfl ⟨rfl, rfl, rfl, rfl, rfl⟩ rfl rfl rfl rfl rfl (by kernel_rfl) Try.func3 (by kernel_rfl)
    (of_decide_eq_true (by kernel_rfl)) (by unfold Func.isWrapper; first | (rw [if_pos (by decide +kernel)]; kernel_rfl) | (rw [if_neg (by decide +kernel)]; exact ⟨rfl, rfl⟩))
    (fun os started H enc _ => lifted os started H enc)
theorem proved : Rows.ShardPlaysSaid := over
end Go.Proofs.Ytnpfikabcmngpaa.shardPlaysDone
