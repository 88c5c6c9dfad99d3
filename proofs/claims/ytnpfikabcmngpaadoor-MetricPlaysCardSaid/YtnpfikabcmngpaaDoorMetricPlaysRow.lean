/-
  MetricPlays: the tied card.
-/
import Derived.Test.YtnpfikabcmngpaaDoorRows
import Derived.WalkKit
import Derived.ProofKit
import Derived.OpenShut
import Derived.ShutString
import Derived.ChangeOld
import Derived.Below
import Derived.Test.YtnpfikabcmngpaaDoorMetP
import Derived.Test.YtnpfikabcmngpaaDoorMetL
import Derived.Test.YtnpfikabcmngpaaDoorOpen
import Derived.Test.YtnpfikabcmngpaaDoorCards
import Derived.Test.YtnpfikabcmngpaaDoorTie
import Derived.SevenTiedAt
namespace Go.Proofs.YtnpfikabcmngpaaDoor.metricPlaysDone
open Go.ChangeShapes Go.WideShapes Go.ChangeAt Go.RowKit Go.Open
open Go.ChangeMaps (open_string shut_string)

/-- A slice of steps of law 29. -/
theorem stepsM {w : World} {v : Value} {a : Option Addr} {len cap : Nat} (h : IsSl w v [.i .i64, .i .i64, .i .i64] a len cap) : ∃ (b off : Nat) (F : Nat → Int × Int × Int), (0 < len → a = some ⟨b, off, none⟩) ∧ ∀ W, Below w.heap.size w W → ∀ i, i < len → W.cell? ⟨b, off + i * 3, none⟩ = some (.int .i64 (F i).1) ∧ W.cell? ⟨b, off + i * 3 + 1, none⟩ = some (.int .i64 (F i).2.1) ∧ W.cell? ⟨b, off + i * 3 + 2, none⟩ = some (.int .i64 (F i).2.2) := by
  by_cases h0 : 0 < len
  · obtain ⟨b, off, ha, hc⟩ := h.cells h0
    have key : ∀ i, i < len → ∃ f : Int × Int × Int, w.cell? ⟨b, off + i * 3, none⟩ = some (.int .i64 f.1) ∧ w.cell? ⟨b, off + i * 3 + 1, none⟩ = some (.int .i64 f.2.1) ∧ w.cell? ⟨b, off + i * 3 + 2, none⟩ = some (.int .i64 f.2.2) := fun i hi => by
      obtain ⟨cs, hf, hcell⟩ := hc i hi
      obtain ⟨v0, r0, rfl, ⟨x0, rfl, g0⟩, hr0⟩ := fitsAll_cons hf
      obtain ⟨v1, r1, rfl, ⟨x1, rfl, g1⟩, hr1⟩ := fitsAll_cons hr0
      obtain ⟨v2, r2, rfl, ⟨x2, rfl, g2⟩, hr2⟩ := fitsAll_cons hr1
      have h0 := hcell 0 (by simp)
      have h1 := hcell 1 (by simp)
      have h2 := hcell 2 (by simp)
      simp at h0 h1 h2
      exact ⟨(x0, x1, x2), h0, by rw [Nat.add_assoc]; exact h1, by rw [Nat.add_assoc]; exact h2⟩
    obtain ⟨F, hF⟩ := Go.Deep.choose_lt key
    have hlt : b < w.heap.size := World.block_lt_of_cell? w _ (hF 0 h0).1
    refine ⟨b, off, F, fun _ => ha, fun W hW i hi => ?_⟩
    obtain ⟨k0, k1, k2⟩ := hF i hi
    exact ⟨(hW.cell (p := ⟨b, off + i * 3, none⟩) hlt).trans k0, (hW.cell (p := ⟨b, off + i * 3 + 1, none⟩) hlt).trans k1, (hW.cell (p := ⟨b, off + i * 3 + 2, none⟩) hlt).trans k2⟩
  · exact ⟨0, 0, fun _ => (0, 0, 0), fun h => absurd h h0, fun W hW i hi => absurd hi (by omega)⟩
theorem own : ownKnob Tryd.prog.godebug = none := by kernel_rfl
theorem laidOut : laidOutB Tryd.prog = true := by kernel_rfl
set_option maxRecDepth 100000 in
theorem lifted (os : Os) (started : os.Started) (H : Type) (enc : TypeId × Value → H) :
    ReturnsInHanded {} Tryd.checked os 3 .any (fun w args => (Rows.metricPlaysSpec.pre enc Tryd.prog Tryd.f3 [] false w args ∧ laidMetH Tryd.prog Met.laidL w) ∧ sizedMet enc Tryd.prog Tryd.f3 (OpenSpec.ofChange Rows.metricPlaysSpec) false w args) (Rows.metricPlaysSpec.post enc Tryd.prog Tryd.f3 false true false false) := by
  refine returnsInHanded_of_change_and (C := Tryd.checked) (X := fun w _ => laidMetH Tryd.prog Met.laidL w) (fun _ _ _ hh h => h.of_heap hh) own started (by kernel_rfl) Tryd.func3
    (ChangeSpec.witness_shaped (enc := enc) (C := Tryd.checked) (os := os) (X := fun w _ => laidMetH Tryd.prog Met.laidL w) false (World.doorLaid Tryd.prog 72 os) #[.slice none 0 0, .int .u64 0] 8 rfl (World.shaped_of_RefB (by kernel_rfl) (by kernel_rfl)) (by kernel_rfl) (by kernel_rfl) (by kernel_rfl) (Met.door_met os _)) ?_
  intro W base args ds gs before hval0 hW _ _ hL _
  have hval : ∀ (j : Nat) t v, Tryd.f3.params[j]? = some t → args[j]? = some v → Value.okWide Tryd.prog W .any base t v := hval0
  have hW' := hW
  obtain ⟨p, q, hA0, hV, rfl, hfz, hnd⟩ := hW
  have hA : DataW.TrodAll enc Tryd.prog W 0 (fun _ => true) true Tryd.f3.params.toList args.toList ds p := hA0
  rw [Tryd.params3] at hA hval
  obtain ⟨v0, vs0, d0, ds0, p0, q0, hargs, rfl, rfl, h0, r0⟩ := trodAll_cons hA
  obtain ⟨v1, vs1, d1, ds1, p1, q1, rfl, rfl, rfl, h1, r1⟩ := trodAll_cons r0
  obtain ⟨rfl, rfl, rfl⟩ := trodAll_nil r1
  obtain rfl : args = #[v0, v1] := by cases args; simp_all
  obtain ⟨rfl, rfl⟩ := trodVars_none hV
  have k0 := h0
  have lt0 : ∀ x ∈ p0, x.block < W.heap.size := by obtain ⟨m, hm⟩ := k0; exact DataW.trod_lt m _ _ _ hm
  have k1 := h1
  have lt1 : ∀ x ∈ p1, x.block < W.heap.size := by obtain ⟨m, hm⟩ := k1; exact DataW.trod_lt m _ _ _ hm
  obtain ⟨a, len, cap, rfl⟩ : ∃ a len cap, v0 = .slice a len cap := okWide_slice Tryd.underlying22 (hval 0 22 v0 rfl rfl)
  obtain ⟨f0, t0⟩ := h0
  simp only [Value.cells] at t0
  obtain ⟨a', len', cap', hsl0⟩ := sl_open (d := 3) (ks := [.i .i64, .i .i64, .i .i64]) Tryd.underlying22 (show flat Tryd.prog 3 29 = some [.i .i64, .i .i64, .i .i64] by kernel_rfl) (by kernel_rfl) (by decide) t0
  obtain ⟨rfl, rfl, rfl⟩ : a = a' ∧ len = len' ∧ cap = cap' := by have := hsl0.val; simp at this; exact this
  obtain ⟨b, off, F, hb0, hF0⟩ := stepsM hsl0
  obtain ⟨most, rfl⟩ : ∃ n, v1 = .int _ n := okWide_int Tryd.underlying23 (hval 1 23 v1 rfl rfl)
  obtain ⟨f1, t1⟩ := h1
  simp only [Value.cells] at t1
  obtain ⟨most', hv1, _, hw1⟩ := DataW.trod_int Tryd.underlying23 t1
  obtain rfl : most = most' := by simpa using hv1
  have hw1' : 0 ≤ most ∧ most ≤ 18446744073709551615 := by
    unfold Lit.wf at hw1
    simp only [Bool.and_eq_true, decide_eq_true_eq] at hw1
    exact hw1
  obtain ⟨turn, rfl⟩ : ∃ n : Nat, most = n := ⟨most.toNat, by omega⟩
  obtain ⟨hTab, hNam⟩ := Met.of_laid hL
  refine (Met.plays_walk a len cap b off F turn W hb0 hsl0.le (by omega) hF0 hNam hTab).mono fun e W' ⟨he, bel⟩ => ?_
  subst he
  exact ⟨_, rfl, _, _, _, [], _, [], hW', trodAll_mk1 (shut_bool Tryd.underlying4 _), (trodAll_cons_mk (Below.trod laidOut (by kernel_rfl) (of_decide_eq_true (by kernel_rfl)) k0 bel lt0) (trodAll_cons_mk (Below.trod laidOut (by kernel_rfl) (of_decide_eq_true (by kernel_rfl)) k1 bel lt1) trodAll_mk0)), rfl, bel.frame _, fun h => by cases h⟩
theorem over : Rows.metricPlaysRow.holds Tryd.pinned (OpenSpec.ofChange Rows.metricPlaysSpec) :=
  OpenClaim.holds_of_wide 3 Tryd.f3 rfl rfl rfl rfl rfl rfl rfl ⟨rfl, rfl, rfl, rfl, rfl⟩ rfl rfl rfl rfl rfl (by kernel_rfl) Tryd.func3 (by kernel_rfl)
    (of_decide_eq_true (by kernel_rfl)) (by unfold Func.isWrapper; first | (rw [if_pos (by decide +kernel)]; kernel_rfl) | (rw [if_neg (by decide +kernel)]; exact ⟨rfl, rfl⟩))
    (fun os started H enc _ => lifted os started H enc)
theorem proved : Rows.MetricPlaysCardSaid :=
  Claim7.holds_tied_plain_at .later [] [.data, .data, .data, .data] true (true, "491c8873703c05f1ef602f3f9ab47d5090082ad8acd3805d03d96c022885ef29") true
    over (fun _ h => by cases h) (by kernel_rfl) (fun _ h => by cases h) metricPlays_row_tie rfl ⟨rfl, rfl⟩ (by kernel_rfl) rfl
    (fun f fn hf hfn => by
      obtain rfl : f = 3 := Option.some.inj ((show Tryd.prog.funcNamed "cortado/cortadolaw29.MetricPlays" = some 3 by kernel_rfl).symm.trans hf) |>.symm
      obtain rfl : fn = Tryd.f3 := (Option.some.inj (Tryd.func3.symm.trans hfn)).symm
      exact ⟨by kernel_rfl, fun j t ht => by
        rw [Tryd.params3] at ht
        have hm : t ∈ [22, 23] := by simpa using Array.mem_of_getElem? ht
        have hall : ([22, 23].all fun u => !Tryd.prog.wantsStandIn u) = true := by kernel_rfl
        exact (show Tryd.prog.wantsStandIn t = false by simpa using List.all_eq_true.1 hall t hm)⟩)
    (by kernel_rfl)
end Go.Proofs.YtnpfikabcmngpaaDoor.metricPlaysDone
