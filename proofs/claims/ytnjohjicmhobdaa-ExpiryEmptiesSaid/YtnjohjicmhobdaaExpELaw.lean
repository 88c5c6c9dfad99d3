/-
  ExpiryEmpties: what is due is over, and dropped one by one nothing is due then; what ended four ticks ago is gone; of no index there is nothing. At most 40 hashes (the law's own guard).
-/
import Derived.Test.YtnjohjicmhobdaaRows
import Derived.WalkKit
import Derived.ProofKit
import Derived.OpenShut
import Derived.ShutString
import Derived.ChangeOld
import Derived.Below
import Derived.Test.YtnjohjicmhobdaaExpEmpt
import Derived.Test.YtnjohjicmhobdaaOpen
namespace Go.Proofs.Ytnjohjicmhobdaa.expiryEmptiesDone
open Go.Deep Go.Seg Go.ChangeShapes Go.WideShapes Go.ChangeAt Go.RowKit Go.Open
open Go.ChangeMaps (open_string shut_string)
/-- A slice of pairs of a natural number and a whole number. -/
theorem pairsU {w : World} {v : Value} {a : Option Addr} {len cap : Nat} (h : IsSl w v [.i .u64, .i .i64] a len cap) : ∃ (b off : Nat) (F : Nat → Int × Int), (0 < len → a = some ⟨b, off, none⟩) ∧ (∀ i, i < len → 0 ≤ (F i).1) ∧ ∀ W, Below w.heap.size w W → ∀ i, i < len → W.cell? ⟨b, off + i * 2, none⟩ = some (.int .u64 (F i).1) ∧ W.cell? ⟨b, off + i * 2 + 1, none⟩ = some (.int .i64 (F i).2) := by
  by_cases h0 : 0 < len
  · obtain ⟨b, off, ha, hc⟩ := h.cells h0
    have key : ∀ i, i < len → ∃ f : Int × Int, 0 ≤ f.1 ∧ w.cell? ⟨b, off + i * 2, none⟩ = some (.int .u64 f.1) ∧ w.cell? ⟨b, off + i * 2 + 1, none⟩ = some (.int .i64 f.2) := fun i hi => by
      obtain ⟨cs, hf, hcell⟩ := hc i hi
      obtain ⟨v, r, rfl, ⟨x, rfl, hx⟩, hr⟩ := fitsAll_cons hf
      obtain ⟨v, r, rfl, ⟨y, rfl, _⟩, hr⟩ := fitsAll_cons hr
      have h1 := hcell 0 (by simp)
      have h2 := hcell 1 (by simp)
      simp at h1 h2
      refine ⟨(x, y), ?_, h1, by rw [Nat.add_assoc]; exact h2⟩
      unfold Lit.wf at hx
      simp only [Bool.and_eq_true, decide_eq_true_eq] at hx
      exact hx.1
    obtain ⟨F, hF⟩ := Go.Deep.choose_lt key
    have hlt : b < w.heap.size := World.block_lt_of_cell? w _ (hF 0 h0).2.1
    exact ⟨b, off, F, fun _ => ha, fun i hi => (hF i hi).1, fun W hW i hi => ⟨(hW.cell (p := ⟨b, off + i * 2, none⟩) hlt).trans (hF i hi).2.1, (hW.cell (p := ⟨b, off + i * 2 + 1, none⟩) hlt).trans (hF i hi).2.2⟩⟩
  · exact ⟨0, 0, fun _ => (0, 0), fun h => absurd h h0, fun i hi => absurd hi (by omega), fun W hW i hi => absurd hi (by omega)⟩
theorem own : ownKnob Try.prog.godebug = none := by kernel_rfl
theorem laidOut : laidOutB Try.prog = true := by kernel_rfl
set_option maxRecDepth 100000 in
theorem lifted (os : Os) (started : os.Started) (H : Type) (enc : TypeId × Value → H) :
    ReturnsInHanded {} Try.checked os 8 .any (Rows.expiryEmptiesSpec.pre6 enc Try.prog Try.f8 Rows.expiryEmptiesRow.domain false) (Rows.expiryEmptiesSpec.post enc Try.prog Try.f8 false true false false) := by
  refine returnsInHanded_of_change (C := Try.checked) own started (by kernel_rfl) Try.func8
    (ChangeSpec.witness6 (enc := enc) (C := Try.checked) false ⟨#[], #[.slice none 0 0, .int .i64 0], []⟩ 8 (by kernel_rfl) (by kernel_rfl) (by kernel_rfl) (by kernel_rfl)) ?_
  intro W base args ds gs before hval0 hW hcnd _
  have hval : ∀ (j : Nat) t v, Try.f8.params[j]? = some t → args[j]? = some v → Value.okWide Try.prog W .any base t v := hval0
  have hW' := hW
  obtain ⟨p, q, hA0, hV, rfl, hfz, hnd⟩ := hW
  have hA : DataW.TrodAll enc Try.prog W 0 (fun _ => true) true Try.f8.params.toList args.toList ds p := hA0
  rw [Try.params8] at hA hval
  obtain ⟨v0, vs0, d0, ds0, p0, q0, hargs, rfl, rfl, h0, r0⟩ := trodAll_cons hA
  obtain ⟨v1, vs1, d1, ds1, p1, q1, rfl, rfl, rfl, h1, r1⟩ := trodAll_cons r0
  obtain ⟨rfl, rfl, rfl⟩ := trodAll_nil r1
  obtain rfl : args = #[v0, v1] := by cases args; simp_all
  obtain ⟨rfl, rfl⟩ := trodVars_none hV
  have k0 := h0
  have lt0 : ∀ x ∈ p0, x.block < W.heap.size := by obtain ⟨m, hm⟩ := k0; exact DataW.trod_lt m _ _ _ hm
  have k1 := h1
  have lt1 : ∀ x ∈ p1, x.block < W.heap.size := by obtain ⟨m, hm⟩ := k1; exact DataW.trod_lt m _ _ _ hm
  obtain ⟨a, len, cap, rfl⟩ : ∃ a len cap, v0 = .slice a len cap := okWide_slice Try.underlying71 (hval 0 71 v0 rfl rfl)
  obtain ⟨f0, t0⟩ := h0
  simp only [Value.cells] at t0
  obtain ⟨a', len', cap', hsl0⟩ := sl_open (d := 3) (ks := [.i .u64, .i .i64]) Try.underlying71 (show flat Try.prog 3 83 = some [.i .u64, .i .i64] by kernel_rfl) (by kernel_rfl) (by decide) t0
  obtain ⟨rfl, rfl, rfl⟩ : a = a' ∧ len = len' ∧ cap = cap' := by have := hsl0.val; simp at this; exact this
  obtain ⟨b, off, F, hb0, hF00, hF0⟩ := pairsU hsl0
  obtain ⟨now, rfl⟩ : ∃ n, v1 = .int _ n := okWide_int Try.underlying3 (hval 1 3 v1 rfl rfl)
  obtain ⟨f1, t1⟩ := h1
  simp only [Value.cells] at t1
  obtain ⟨now', hv1, _, hw1⟩ := DataW.trod_int Try.underlying3 t1
  obtain rfl : now = now' := by simpa using hv1
  refine (Exi.empties_walk a len cap b off F now W hb0 hsl0.le hF0).mono fun e W' ⟨he, bel⟩ => ?_
  subst he
  exact ⟨_, rfl, _, _, _, [], _, [], hW', trodAll_mk1 (shut_bool Try.underlying4 _), (trodAll_cons_mk (Below.trod laidOut (by kernel_rfl) (of_decide_eq_true (by kernel_rfl)) k0 bel lt0) (trodAll_cons_mk (Below.trod laidOut (by kernel_rfl) (of_decide_eq_true (by kernel_rfl)) k1 bel lt1) trodAll_mk0)), rfl, bel.frame _, fun h => by cases h⟩
theorem over : Rows.expiryEmptiesRow.holds Try.pinned (OpenSpec.ofChange Rows.expiryEmptiesSpec) :=
  OpenClaim.holds_of_wide 8 Try.f8 rfl rfl rfl rfl rfl rfl rfl ⟨rfl, rfl, rfl, rfl, rfl⟩ rfl rfl rfl rfl rfl (by kernel_rfl) Try.func8 (by kernel_rfl)
    (of_decide_eq_true (by kernel_rfl)) (by unfold Func.isWrapper; first | (rw [if_pos (by decide +kernel)]; kernel_rfl) | (rw [if_neg (by decide +kernel)]; exact ⟨rfl, rfl⟩))
    (fun os started H enc _ => lifted os started H enc)
theorem proved : Rows.ExpiryEmptiesSaid := over
end Go.Proofs.Ytnjohjicmhobdaa.expiryEmptiesDone
