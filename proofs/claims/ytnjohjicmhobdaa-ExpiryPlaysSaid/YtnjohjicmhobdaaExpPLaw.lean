/-
  ExpiryPlays: any steps on an index tell what the document tells. At most 40 steps (the law's own guard).
-/
import Derived.Test.YtnjohjicmhobdaaRows
import Derived.WalkKit
import Derived.ProofKit
import Derived.OpenShut
import Derived.ShutString
import Derived.ChangeOld
import Derived.Below
import Derived.Test.YtnjohjicmhobdaaExpPlays
import Derived.Test.YtnjohjicmhobdaaOpen
namespace Go.Proofs.Ytnjohjicmhobdaa.expiryPlaysDone
open Go.Deep Go.Seg Go.ChangeShapes Go.WideShapes Go.ChangeAt Go.RowKit Go.Open
open Go.ChangeMaps (open_string shut_string)
/-- A slice of two natural numbers and a whole number. -/
theorem tripsU {w : World} {v : Value} {a : Option Addr} {len cap : Nat} (h : IsSl w v [.i .u64, .i .u64, .i .i64] a len cap) : ∃ (b off : Nat) (F : Nat → Int × Int × Int), (0 < len → a = some ⟨b, off, none⟩) ∧ (∀ i, i < len → 0 ≤ (F i).1) ∧ ∀ W, Below w.heap.size w W → ∀ i, i < len → W.cell? ⟨b, off + i * 3, none⟩ = some (.int .u64 (F i).1) ∧ W.cell? ⟨b, off + i * 3 + 1, none⟩ = some (.int .u64 (F i).2.1) ∧ W.cell? ⟨b, off + i * 3 + 2, none⟩ = some (.int .i64 (F i).2.2) := by
  by_cases h0 : 0 < len
  · obtain ⟨b, off, ha, hc⟩ := h.cells h0
    have key : ∀ i, i < len → ∃ f : Int × Int × Int, 0 ≤ f.1 ∧ w.cell? ⟨b, off + i * 3, none⟩ = some (.int .u64 f.1) ∧ w.cell? ⟨b, off + i * 3 + 1, none⟩ = some (.int .u64 f.2.1) ∧ w.cell? ⟨b, off + i * 3 + 2, none⟩ = some (.int .i64 f.2.2) := fun i hi => by
      obtain ⟨cs, hf, hcell⟩ := hc i hi
      obtain ⟨v, r, rfl, ⟨x, rfl, hx⟩, hr1⟩ := fitsAll_cons hf
      obtain ⟨v, r, rfl, ⟨y, rfl, _⟩, hr2⟩ := fitsAll_cons hr1
      obtain ⟨v, r, rfl, ⟨z, rfl, _⟩, hr3⟩ := fitsAll_cons hr2
      have h1 := hcell 0 (by simp)
      have h2 := hcell 1 (by simp)
      have h3 := hcell 2 (by simp)
      simp at h1 h2 h3
      refine ⟨(x, y, z), ?_, h1, by rw [Nat.add_assoc]; exact h2, by rw [Nat.add_assoc]; exact h3⟩
      unfold Lit.wf at hx
      simp only [Bool.and_eq_true, decide_eq_true_eq] at hx
      exact hx.1
    obtain ⟨F, hF⟩ := Go.Deep.choose_lt key
    have hlt : b < w.heap.size := World.block_lt_of_cell? w _ (hF 0 h0).2.1
    exact ⟨b, off, F, fun _ => ha, fun i hi => (hF i hi).1, fun W hW i hi => ⟨(hW.cell (p := ⟨b, off + i * 3, none⟩) hlt).trans (hF i hi).2.1, (hW.cell (p := ⟨b, off + i * 3 + 1, none⟩) hlt).trans (hF i hi).2.2.1, (hW.cell (p := ⟨b, off + i * 3 + 2, none⟩) hlt).trans (hF i hi).2.2.2⟩⟩
  · exact ⟨0, 0, fun _ => (0, 0, 0), fun h => absurd h h0, fun i hi => absurd hi (by omega), fun W hW i hi => absurd hi (by omega)⟩
theorem own : ownKnob Try.prog.godebug = none := by kernel_rfl
theorem laidOut : laidOutB Try.prog = true := by kernel_rfl
set_option maxRecDepth 100000 in
theorem lifted (os : Os) (started : os.Started) (H : Type) (enc : TypeId × Value → H) :
    ReturnsInHanded {} Try.checked os 7 .any (Rows.expiryPlaysSpec.pre6 enc Try.prog Try.f7 Rows.expiryPlaysRow.domain false) (Rows.expiryPlaysSpec.post enc Try.prog Try.f7 false true false false) := by
  refine returnsInHanded_of_change (C := Try.checked) own started (by kernel_rfl) Try.func7
    (ChangeSpec.witness6 (enc := enc) (C := Try.checked) false ⟨#[], #[.slice none 0 0, .int .i64 0, .int .u64 0], []⟩ 8 (by kernel_rfl) (by kernel_rfl) (by kernel_rfl) (by kernel_rfl)) ?_
  intro W base args ds gs before hval0 hW hcnd _
  have hval : ∀ (j : Nat) t v, Try.f7.params[j]? = some t → args[j]? = some v → Value.okWide Try.prog W .any base t v := hval0
  have hW' := hW
  obtain ⟨p, q, hA0, hV, rfl, hfz, hnd⟩ := hW
  have hA : DataW.TrodAll enc Try.prog W 0 (fun _ => true) true Try.f7.params.toList args.toList ds p := hA0
  rw [Try.params7] at hA hval
  obtain ⟨v0, vs0, d0, ds0, p0, q0, hargs, rfl, rfl, h0, r0⟩ := trodAll_cons hA
  obtain ⟨v1, vs1, d1, ds1, p1, q1, rfl, rfl, rfl, h1, r1⟩ := trodAll_cons r0
  obtain ⟨v2, vs2, d2, ds2, p2, q2, rfl, rfl, rfl, h2, r2⟩ := trodAll_cons r1
  obtain ⟨rfl, rfl, rfl⟩ := trodAll_nil r2
  obtain rfl : args = #[v0, v1, v2] := by cases args; simp_all
  obtain ⟨rfl, rfl⟩ := trodVars_none hV
  have k0 := h0
  have lt0 : ∀ x ∈ p0, x.block < W.heap.size := by obtain ⟨m, hm⟩ := k0; exact DataW.trod_lt m _ _ _ hm
  have k1 := h1
  have lt1 : ∀ x ∈ p1, x.block < W.heap.size := by obtain ⟨m, hm⟩ := k1; exact DataW.trod_lt m _ _ _ hm
  have k2 := h2
  have lt2 : ∀ x ∈ p2, x.block < W.heap.size := by obtain ⟨m, hm⟩ := k2; exact DataW.trod_lt m _ _ _ hm
  obtain ⟨a, len, cap, rfl⟩ : ∃ a len cap, v0 = .slice a len cap := okWide_slice Try.underlying68 (hval 0 68 v0 rfl rfl)
  obtain ⟨f0, t0⟩ := h0
  simp only [Value.cells] at t0
  obtain ⟨a', len', cap', hsl0⟩ := sl_open (d := 3) (ks := [.i .u64, .i .u64, .i .i64]) Try.underlying68 (show flat Try.prog 3 73 = some [.i .u64, .i .u64, .i .i64] by kernel_rfl) (by kernel_rfl) (by decide) t0
  obtain ⟨rfl, rfl, rfl⟩ : a = a' ∧ len = len' ∧ cap = cap' := by have := hsl0.val; simp at this; exact this
  obtain ⟨b, off, F, hb0, hF00, hF0⟩ := tripsU hsl0
  obtain ⟨now, rfl⟩ : ∃ n, v1 = .int _ n := okWide_int Try.underlying3 (hval 1 3 v1 rfl rfl)
  obtain ⟨f1, t1⟩ := h1
  simp only [Value.cells] at t1
  obtain ⟨now', hv1, _, hw1⟩ := DataW.trod_int Try.underlying3 t1
  obtain rfl : now = now' := by simpa using hv1
  obtain ⟨most, rfl⟩ : ∃ n, v2 = .int _ n := okWide_int Try.underlying33 (hval 2 33 v2 rfl rfl)
  obtain ⟨f2, t2⟩ := h2
  simp only [Value.cells] at t2
  obtain ⟨most', hv2, _, hw2⟩ := DataW.trod_int Try.underlying33 t2
  obtain rfl : most = most' := by simpa using hv2
  have hw2' : 0 ≤ most ∧ most < 18446744073709551616 := by
    unfold Lit.wf at hw2
    simp only [Bool.and_eq_true, decide_eq_true_eq] at hw2
    have e0 : IntKind.u64.min = 0 := by rfl
    have e1 : IntKind.u64.max = 18446744073709551615 := by rfl
    rw [e0, e1] at hw2
    omega
  refine (Exi.plays_walk a len cap b off F now most W hb0 hsl0.le hF00 hF0 hw2'.1 hw2'.2).mono fun e W' ⟨he, bel⟩ => ?_
  subst he
  exact ⟨_, rfl, _, _, _, [], _, [], hW', trodAll_mk1 (shut_bool Try.underlying4 _), (trodAll_cons_mk (Below.trod laidOut (by kernel_rfl) (of_decide_eq_true (by kernel_rfl)) k0 bel lt0) (trodAll_cons_mk (Below.trod laidOut (by kernel_rfl) (of_decide_eq_true (by kernel_rfl)) k1 bel lt1) (trodAll_cons_mk (Below.trod laidOut (by kernel_rfl) (of_decide_eq_true (by kernel_rfl)) k2 bel lt2) trodAll_mk0))), rfl, bel.frame _, fun h => by cases h⟩
theorem over : Rows.expiryPlaysRow.holds Try.pinned (OpenSpec.ofChange Rows.expiryPlaysSpec) :=
  OpenClaim.holds_of_wide 7 Try.f7 rfl rfl rfl rfl rfl rfl rfl ⟨rfl, rfl, rfl, rfl, rfl⟩ rfl rfl rfl rfl rfl (by kernel_rfl) Try.func7 (by kernel_rfl)
    (of_decide_eq_true (by kernel_rfl)) (by unfold Func.isWrapper; first | (rw [if_pos (by decide +kernel)]; kernel_rfl) | (rw [if_neg (by decide +kernel)]; exact ⟨rfl, rfl⟩))
    (fun os started H enc _ => lifted os started H enc)
theorem proved : Rows.ExpiryPlaysSaid := over
end Go.Proofs.Ytnjohjicmhobdaa.expiryPlaysDone
