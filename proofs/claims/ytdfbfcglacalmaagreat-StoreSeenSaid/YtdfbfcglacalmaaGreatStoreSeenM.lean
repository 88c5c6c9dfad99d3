/-
  StoreSeen: what isn't seen is never got; what is due is over; locks and items of hashes of unlike shards are apart; of no store there is nothing. At most 30 entries (the law's own guard).
-/
import Derived.Test.YtdfbfcglacalmaaGreatRows
import Derived.WalkKit
import Derived.ProofKit
import Derived.OpenShut
import Derived.ShutString
import Derived.ChangeOld
import Derived.Below
import Derived.Test.YtdfbfcglacalmaaGreatM10
import Derived.Test.YtdfbfcglacalmaaGreatM1
namespace Go.Proofs.YtdfbfcglacalmaaGreat.storeSeenDone
open Go.ChangeShapes Go.WideShapes Go.ChangeAt Go.RowKit Go.Open
open Go.ChangeMaps (open_string shut_string)

/-- A slice of entries of law 23. -/
theorem stepsU {w : World} {v : Value} {a : Option Addr} {len cap : Nat} (h : IsSl w v [.i .u64, .i .u64, .i .i64, .i .i64, .i .i64, .i .i64, .i .i64] a len cap) : ∃ (b off : Nat) (F : Nat → Int × Int × Int × Int × Int × Int × Int), (0 < len → a = some ⟨b, off, none⟩) ∧ (∀ i, i < len → 0 ≤ (F i).1 ∧ (F i).1 ≤ 18446744073709551615) ∧ ∀ W, Below w.heap.size w W → ∀ i, i < len → W.cell? ⟨b, off + i * 7, none⟩ = some (.int .u64 (F i).1) ∧ W.cell? ⟨b, off + i * 7 + 1, none⟩ = some (.int .u64 (F i).2.1) ∧ W.cell? ⟨b, off + i * 7 + 2, none⟩ = some (.int .i64 (F i).2.2.1) ∧ W.cell? ⟨b, off + i * 7 + 3, none⟩ = some (.int .i64 (F i).2.2.2.1) ∧ W.cell? ⟨b, off + i * 7 + 4, none⟩ = some (.int .i64 (F i).2.2.2.2.1) ∧ W.cell? ⟨b, off + i * 7 + 5, none⟩ = some (.int .i64 (F i).2.2.2.2.2.1) ∧ W.cell? ⟨b, off + i * 7 + 6, none⟩ = some (.int .i64 (F i).2.2.2.2.2.2) := by
  by_cases h0 : 0 < len
  · obtain ⟨b, off, ha, hc⟩ := h.cells h0
    have key : ∀ i, i < len → ∃ f : Int × Int × Int × Int × Int × Int × Int, (0 ≤ f.1 ∧ f.1 ≤ 18446744073709551615) ∧ w.cell? ⟨b, off + i * 7, none⟩ = some (.int .u64 f.1) ∧ w.cell? ⟨b, off + i * 7 + 1, none⟩ = some (.int .u64 f.2.1) ∧ w.cell? ⟨b, off + i * 7 + 2, none⟩ = some (.int .i64 f.2.2.1) ∧ w.cell? ⟨b, off + i * 7 + 3, none⟩ = some (.int .i64 f.2.2.2.1) ∧ w.cell? ⟨b, off + i * 7 + 4, none⟩ = some (.int .i64 f.2.2.2.2.1) ∧ w.cell? ⟨b, off + i * 7 + 5, none⟩ = some (.int .i64 f.2.2.2.2.2.1) ∧ w.cell? ⟨b, off + i * 7 + 6, none⟩ = some (.int .i64 f.2.2.2.2.2.2) := fun i hi => by
      obtain ⟨cs, hf, hcell⟩ := hc i hi
      obtain ⟨v0, r0, rfl, ⟨x0, rfl, g0⟩, hr0⟩ := fitsAll_cons hf
      obtain ⟨v1, r1, rfl, ⟨x1, rfl, g1⟩, hr1⟩ := fitsAll_cons hr0
      obtain ⟨v2, r2, rfl, ⟨x2, rfl, g2⟩, hr2⟩ := fitsAll_cons hr1
      obtain ⟨v3, r3, rfl, ⟨x3, rfl, g3⟩, hr3⟩ := fitsAll_cons hr2
      obtain ⟨v4, r4, rfl, ⟨x4, rfl, g4⟩, hr4⟩ := fitsAll_cons hr3
      obtain ⟨v5, r5, rfl, ⟨x5, rfl, g5⟩, hr5⟩ := fitsAll_cons hr4
      obtain ⟨v6, r6, rfl, ⟨x6, rfl, g6⟩, hr6⟩ := fitsAll_cons hr5
      have h0 := hcell 0 (by simp)
      have h1 := hcell 1 (by simp)
      have h2 := hcell 2 (by simp)
      have h3 := hcell 3 (by simp)
      have h4 := hcell 4 (by simp)
      have h5 := hcell 5 (by simp)
      have h6 := hcell 6 (by simp)
      simp at h0 h1 h2 h3 h4 h5 h6
      refine ⟨(x0, x1, x2, x3, x4, x5, x6), ?_, h0, by rw [Nat.add_assoc]; exact h1, by rw [Nat.add_assoc]; exact h2, by rw [Nat.add_assoc]; exact h3, by rw [Nat.add_assoc]; exact h4, by rw [Nat.add_assoc]; exact h5, by rw [Nat.add_assoc]; exact h6⟩
      unfold Lit.wf at g0
      simp only [Bool.and_eq_true, decide_eq_true_eq] at g0
      exact g0
    obtain ⟨F, hF⟩ := Go.Deep.choose_lt key
    have hlt : b < w.heap.size := World.block_lt_of_cell? w _ (hF 0 h0).2.1
    refine ⟨b, off, F, fun _ => ha, fun i hi => (hF i hi).1, fun W hW i hi => ?_⟩
    obtain ⟨_, k0, k1, k2, k3, k4, k5, k6⟩ := hF i hi
    exact ⟨(hW.cell (p := ⟨b, off + i * 7, none⟩) hlt).trans k0, (hW.cell (p := ⟨b, off + i * 7 + 1, none⟩) hlt).trans k1, (hW.cell (p := ⟨b, off + i * 7 + 2, none⟩) hlt).trans k2, (hW.cell (p := ⟨b, off + i * 7 + 3, none⟩) hlt).trans k3, (hW.cell (p := ⟨b, off + i * 7 + 4, none⟩) hlt).trans k4, (hW.cell (p := ⟨b, off + i * 7 + 5, none⟩) hlt).trans k5, (hW.cell (p := ⟨b, off + i * 7 + 6, none⟩) hlt).trans k6⟩
  · exact ⟨0, 0, fun _ => (0, 0, 0, 0, 0, 0, 0), fun h => absurd h h0, fun i hi => absurd hi (by omega), fun W hW i hi => absurd hi (by omega)⟩
theorem own : ownKnob Tryz.prog.godebug = none := by kernel_rfl
theorem laidOut : laidOutB Tryz.prog = true := by kernel_rfl
set_option maxRecDepth 100000 in
theorem lifted (os : Os) (started : os.Started) (H : Type) (enc : TypeId × Value → H) :
    ReturnsInHanded {} Tryz.checked os 4 .any (Rows.storeSeenSpec.pre6 enc Tryz.prog Tryz.f4 Rows.storeSeenRow.domain false) (Rows.storeSeenSpec.post enc Tryz.prog Tryz.f4 false true false false) := by
  refine returnsInHanded_of_change (C := Tryz.checked) own started (by kernel_rfl) Tryz.func4
    (ChangeSpec.witness6 (enc := enc) (C := Tryz.checked) false ⟨#[], #[.slice none 0 0, .int .i64 0, .int .i64 0], []⟩ 8 (by kernel_rfl) (by kernel_rfl) (by kernel_rfl) (by kernel_rfl)) ?_
  intro W base args ds gs before hval0 hW hcnd _
  have hval : ∀ (j : Nat) t v, Tryz.f4.params[j]? = some t → args[j]? = some v → Value.okWide Tryz.prog W .any base t v := hval0
  have hW' := hW
  obtain ⟨p, q, hA0, hV, rfl, hfz, hnd⟩ := hW
  have hA : DataW.TrodAll enc Tryz.prog W 0 (fun _ => true) true Tryz.f4.params.toList args.toList ds p := hA0
  rw [Tryz.params4] at hA hval
  obtain ⟨v0, vs0, d0, ds0, p0, q0, hargs, rfl, rfl, h0, r0⟩ := trodAll_cons hA
  obtain ⟨v1, vs1, d1, ds1, p1, q1, rfl, rfl, rfl, h1, r1⟩ := trodAll_cons r0
  obtain ⟨v2, vs2, d2, ds2, p2, q2, rfl, rfl, rfl, h2, r2⟩ := trodAll_cons r1
  obtain ⟨rfl, rfl, rfl⟩ := trodAll_nil r2
  obtain rfl : args = #[v0, v1, v2] := by cases args; simp_all
  obtain ⟨rfl, rfl⟩ := trodVars_none hV
  have k0 := h0
  have lt0 : ∀ x ∈ p0, x.block < W.heap.size := by obtain ⟨m, hm⟩ := k0; exact DataW.trod_lt m _ _ _ hm
  have k1 := h1
  have lt1 : ∀ x ∈ p1, x.block < W.heap.size := by obtain ⟨m, hm⟩ := k1; exact DataW.trod_lt m _ _ _ hm
  have k2 := h2
  have lt2 : ∀ x ∈ p2, x.block < W.heap.size := by obtain ⟨m, hm⟩ := k2; exact DataW.trod_lt m _ _ _ hm
  obtain ⟨a, len, cap, rfl⟩ : ∃ a len cap, v0 = .slice a len cap := okWide_slice Tryz.underlying26 (hval 0 26 v0 rfl rfl)
  obtain ⟨f0, t0⟩ := h0
  simp only [Value.cells] at t0
  obtain ⟨a', len', cap', hsl0⟩ := sl_open (d := 3) (ks := [.i .u64, .i .u64, .i .i64, .i .i64, .i .i64, .i .i64, .i .i64]) Tryz.underlying26 (show flat Tryz.prog 3 35 = some [.i .u64, .i .u64, .i .i64, .i .i64, .i .i64, .i .i64, .i .i64] by kernel_rfl) (by kernel_rfl) (by decide) t0
  obtain ⟨rfl, rfl, rfl⟩ : a = a' ∧ len = len' ∧ cap = cap' := by have := hsl0.val; simp at this; exact this
  obtain ⟨b, off, F, hb0, hF00, hF0⟩ := stepsU hsl0
  obtain ⟨ep, rfl⟩ : ∃ n, v1 = .int _ n := okWide_int Tryz.underlying3 (hval 1 3 v1 rfl rfl)
  obtain ⟨now, rfl⟩ : ∃ n, v2 = .int _ n := okWide_int Tryz.underlying3 (hval 2 3 v2 rfl rfl)
  refine (Sto.seen_walk a len cap b off F ep now W hb0 hsl0.le hF00 hF0).mono fun e W' ⟨he, bel⟩ => ?_
  subst he
  exact ⟨_, rfl, _, _, _, [], _, [], hW', trodAll_mk1 (shut_bool Tryz.underlying4 _), (trodAll_cons_mk (Below.trod laidOut (by kernel_rfl) (of_decide_eq_true (by kernel_rfl)) k0 bel lt0) (trodAll_cons_mk (Below.trod laidOut (by kernel_rfl) (of_decide_eq_true (by kernel_rfl)) k1 bel lt1) (trodAll_cons_mk (Below.trod laidOut (by kernel_rfl) (of_decide_eq_true (by kernel_rfl)) k2 bel lt2) trodAll_mk0))), rfl, bel.frame _, fun h => by cases h⟩
theorem over : Rows.storeSeenRow.holds Tryz.pinned (OpenSpec.ofChange Rows.storeSeenSpec) :=
  OpenClaim.holds_of_wide 4 Tryz.f4 rfl rfl rfl rfl rfl rfl rfl ⟨rfl, rfl, rfl, rfl, rfl⟩ rfl rfl rfl rfl rfl (by kernel_rfl) Tryz.func4 (by kernel_rfl)
    (of_decide_eq_true (by kernel_rfl)) (by unfold Func.isWrapper; first | (rw [if_pos (by decide +kernel)]; kernel_rfl) | (rw [if_neg (by decide +kernel)]; exact ⟨rfl, rfl⟩))
    (fun os started H enc _ => lifted os started H enc)
theorem proved : Rows.StoreSeenSaid := over
end Go.Proofs.YtdfbfcglacalmaaGreat.storeSeenDone
