/-
  ShardNewest: items of one hash wait, are bumped, are done; of no shard there is nothing. At most 40 items (the law's own guard).
-/
import Derived.Test.YtlnmnnoibimknabRows
import Derived.WalkKit
import Derived.ProofKit
import Derived.OpenShut
import Derived.ShutString
import Derived.ChangeOld
import Derived.Below
import Derived.Test.YtlnmnnoibimknabShardNewest
import Derived.Test.YtlnmnnoibimknabOpen
namespace Go.Proofs.Ytlnmnnoibimknab.shardNewestDone
open Go.ChangeShapes Go.WideShapes Go.ChangeAt Go.RowKit Go.Open
open Go.ChangeMaps (open_string shut_string)
theorem u64_wf {n : Int} (h : (Lit.int .u64 n).wf = true) : 0 ≤ n ∧ n ≤ 18446744073709551615 := by
  unfold Lit.wf at h
  simp only [Bool.and_eq_true, decide_eq_true_eq] at h
  exact h
/-- A slice of truths. -/
theorem boolsU {w : World} {v : Value} {a : Option Addr} {len cap : Nat} (h : IsSl w v [.b] a len cap) : ∃ (b off : Nat) (F : Nat → Bool), (0 < len → a = some ⟨b, off, none⟩) ∧ ∀ W, Below w.heap.size w W → ∀ i, i < len → W.cell? ⟨b, off + i, none⟩ = some (.bool (F i)) := by
  by_cases h0 : 0 < len
  · obtain ⟨b, off, ha, hc⟩ := h.cells h0
    have key : ∀ i, i < len → ∃ f : Bool, w.cell? ⟨b, off + i, none⟩ = some (.bool f) := fun i hi => by
      obtain ⟨cs, hf, hcell⟩ := hc i hi
      obtain ⟨v, r, rfl, ⟨x, rfl⟩, hr⟩ := fitsAll_cons hf
      have h1 := hcell 0 (by simp)
      simp at h1
      exact ⟨x, h1⟩
    obtain ⟨F, hF⟩ := Go.Deep.choose_lt key
    have hlt : b < w.heap.size := World.block_lt_of_cell? w _ (hF 0 h0)
    exact ⟨b, off, F, fun _ => ha, fun W hW i hi => (hW.cell (p := ⟨b, off + i, none⟩) hlt).trans (hF i hi)⟩
  · exact ⟨0, 0, fun _ => false, fun h => absurd h h0, fun W hW i hi => absurd hi (by omega)⟩
theorem own : ownKnob Try.prog.godebug = none := by kernel_rfl
theorem laidOut : laidOutB Try.prog = true := by kernel_rfl
set_option maxRecDepth 100000 in
theorem lifted (os : Os) (started : os.Started) (H : Type) (enc : TypeId × Value → H) :
    ReturnsInHanded {} Try.checked os 6 .any (Rows.shardNewestSpec.pre6 enc Try.prog Try.f6 Rows.shardNewestRow.domain false) (Rows.shardNewestSpec.post enc Try.prog Try.f6 false true false false) := by
  refine returnsInHanded_of_change (C := Try.checked) own started (by kernel_rfl) Try.func6
    (ChangeSpec.witness6 (enc := enc) (C := Try.checked) false ⟨#[], #[.int .u64 0, .slice none 0 0, .string ByteArray.empty], []⟩ 8 (by kernel_rfl) (by kernel_rfl) (by kernel_rfl) (by kernel_rfl)) ?_
  intro W base args ds gs before hval0 hW hcnd _
  have hval : ∀ (j : Nat) t v, Try.f6.params[j]? = some t → args[j]? = some v → Value.okWide Try.prog W .any base t v := hval0
  have hW' := hW
  obtain ⟨p, q, hA0, hV, rfl, hfz, hnd⟩ := hW
  have hA : DataW.TrodAll enc Try.prog W 0 (fun _ => true) true Try.f6.params.toList args.toList ds p := hA0
  rw [Try.params6] at hA hval
  obtain ⟨v0, vs0, d0, ds0, p0, q0, hargs, rfl, rfl, h0, r0⟩ := trodAll_cons hA
  obtain ⟨v1, vs1, d1, ds1, p1, q1, rfl, rfl, rfl, h1, r1⟩ := trodAll_cons r0
  obtain ⟨v2, vs2, d2, ds2, p2, q2, rfl, rfl, rfl, h2, r2⟩ := trodAll_cons r1
  obtain ⟨rfl, rfl, rfl⟩ := trodAll_nil r2
  obtain rfl : args = #[v0, v1, v2] := by cases args; simp_all
  obtain ⟨rfl, rfl⟩ := trodVars_none hV
  have k0 := h0
  have lt0 : ∀ x ∈ p0, x.block < W.heap.size := by obtain ⟨m, hm⟩ := k0; exact DataW.trod_lt m _ _ _ hm
  have k1 := h1
  have lt1 : ∀ x ∈ p1, x.block < W.heap.size := by obtain ⟨m, hm⟩ := k1; exact DataW.trod_lt m _ _ _ hm
  have k2 := h2
  have lt2 : ∀ x ∈ p2, x.block < W.heap.size := by obtain ⟨m, hm⟩ := k2; exact DataW.trod_lt m _ _ _ hm
  obtain ⟨h, rfl⟩ := okWide_int Try.underlying50 (hval 0 50 v0 rfl rfl)
  obtain ⟨a, len, cap, rfl⟩ : ∃ a len cap, v1 = .slice a len cap := okWide_slice Try.underlying75 (hval 1 75 v1 rfl rfl)
  obtain ⟨s, rfl⟩ := okWide_string Try.underlying9 (hval 2 9 v2 rfl rfl)
  obtain ⟨f0, t0⟩ := h0
  simp only [Value.cells] at t0
  obtain ⟨⟨h', hme, hmw⟩, _⟩ := flat_fit 3 50 _ f0 _ _ (show flat Try.prog 3 50 = some [.i .u64] by kernel_rfl) t0
  obtain rfl : h = h' := by cases hme; rfl
  have hm0 := u64_wf hmw
  obtain ⟨f1, t1⟩ := h1
  simp only [Value.cells] at t1
  obtain ⟨a', len', cap', hsl⟩ := sl_open (d := 3) (ks := [.b]) Try.underlying75 (show flat Try.prog 3 4 = some [.b] by kernel_rfl) (by kernel_rfl) (by decide) t1
  obtain ⟨rfl, rfl, rfl⟩ : a = a' ∧ len = len' ∧ cap = cap' := by have := hsl.val; simp at this; exact this
  obtain ⟨b, off, F, hb, hF⟩ := boolsU hsl
  refine (ShN.newest_walk h a len cap b off F s W hb hsl.le hm0.1 hm0.2 hF).mono fun e W' ⟨he, bel⟩ => ?_
  subst he
  exact ⟨_, rfl, _, _, _, [], _, [], hW', trodAll_mk1 (shut_bool Try.underlying4 _), (trodAll_cons_mk (Below.trod laidOut (by kernel_rfl) (of_decide_eq_true (by kernel_rfl)) k0 bel lt0) (trodAll_cons_mk (Below.trod laidOut (by kernel_rfl) (of_decide_eq_true (by kernel_rfl)) k1 bel lt1) (trodAll_cons_mk (Below.trod laidOut (by kernel_rfl) (of_decide_eq_true (by kernel_rfl)) k2 bel lt2) trodAll_mk0))), rfl, bel.frame _, fun h => by cases h⟩
theorem over : Rows.shardNewestRow.holds Try.pinned (OpenSpec.ofChange Rows.shardNewestSpec) :=
  OpenClaim.holds_of_wide 6 Try.f6 rfl rfl rfl rfl rfl rfl rfl ⟨rfl, rfl, rfl, rfl, rfl⟩ rfl rfl rfl rfl rfl (by kernel_rfl) Try.func6 (by kernel_rfl)
    (of_decide_eq_true (by kernel_rfl)) (by unfold Func.isWrapper; first | (rw [if_pos (by decide +kernel)]; kernel_rfl) | (rw [if_neg (by decide +kernel)]; exact ⟨rfl, rfl⟩))
    (fun os started H enc _ => lifted os started H enc)
theorem proved : Rows.ShardNewestSaid := over
end Go.Proofs.Ytlnmnnoibimknab.shardNewestDone
