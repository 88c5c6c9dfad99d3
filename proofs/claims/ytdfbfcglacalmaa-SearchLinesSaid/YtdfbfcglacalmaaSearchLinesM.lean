/-
  SearchLines: the lines of any calls, the least one first, as far as one asks, and whether any order is one: as the document says. At most 5 calls (the law's own guard).
-/
import Derived.Test.YtdfbfcglacalmaaRows
import Derived.WalkKit
import Derived.ProofKit
import Derived.OpenShut
import Derived.ShutString
import Derived.ChangeOld
import Derived.Below
import Derived.Test.YtdfbfcglacalmaaM9
import Derived.Test.YtdfbfcglacalmaaM8
import Derived.Test.YtdfbfcglacalmaaM1
namespace Go.Proofs.Ytdfbfcglacalmaa.searchLinesDone
open Go.ChangeShapes Go.WideShapes Go.ChangeAt Go.RowKit Go.Open
open Go.ChangeMaps (open_string shut_string)
theorem own : ownKnob Try.prog.godebug = none := by kernel_rfl
theorem laidOut : laidOutB Try.prog = true := by kernel_rfl
theorem u64_wf {n : Int} (h : (Lit.int .u64 n).wf = true) : 0 ≤ n ∧ n ≤ 18446744073709551615 := by
  unfold Lit.wf at h
  simp only [Bool.and_eq_true, decide_eq_true_eq] at h
  exact h
set_option maxRecDepth 100000 in
theorem lifted (os : Os) (started : os.Started) (H : Type) (enc : TypeId × Value → H) :
    ReturnsInHanded {} Try.checked os 4 .any (Rows.searchLinesSpec.pre6 enc Try.prog Try.f4 Rows.searchLinesRow.domain false) (Rows.searchLinesSpec.post enc Try.prog Try.f4 false true false false) := by
  refine returnsInHanded_of_change (C := Try.checked) own started (by kernel_rfl) Try.func4
    (ChangeSpec.witness6 (enc := enc) (C := Try.checked) false ⟨#[], #[.slice none 0 0, .slice none 0 0, .int .u64 0], []⟩ 8 (by kernel_rfl) (by kernel_rfl) (by kernel_rfl) (by kernel_rfl)) ?_
  intro W base args ds gs before hval0 hW hcnd _
  have hval : ∀ (j : Nat) t v, Try.f4.params[j]? = some t → args[j]? = some v → Value.okWide Try.prog W .any base t v := hval0
  have hW' := hW
  obtain ⟨p, q, hA0, hV, rfl, hfz, hnd⟩ := hW
  have hA : DataW.TrodAll enc Try.prog W 0 (fun _ => true) true Try.f4.params.toList args.toList ds p := hA0
  rw [Try.params4] at hA hval
  obtain ⟨v0, vs0, d0, ds0, p0, q0, hargs, rfl, rfl, h0, r0⟩ := trodAll_cons hA
  obtain ⟨v1, vs1, d1, ds1, p1, q1, rfl, rfl, rfl, h1, r1⟩ := trodAll_cons r0
  obtain ⟨v2, vs2, d2, ds2, p2, q2, rfl, rfl, rfl, h2, r2⟩ := trodAll_cons r1
  obtain ⟨rfl, rfl, rfl⟩ := trodAll_nil r2
  obtain rfl : args = #[v0, v1, v2] := by cases args; simp_all
  obtain ⟨rfl, rfl⟩ := trodVars_none hV
  have k0 := h0
  have lt0 : ∀ x ∈ p0, x.block < W.heap.size := by obtain ⟨m, hm⟩ := k0; exact DataW.trod_lt m _ _ _ hm
  have k1 := h1
  have lt1 : ∀ x ∈ p1, x.block < W.heap.size := by obtain ⟨m, hm⟩ := k1; exact DataW.trod_lt m _ _ _ hm
  have k2 := h2
  have lt2 : ∀ x ∈ p2, x.block < W.heap.size := by obtain ⟨m, hm⟩ := k2; exact DataW.trod_lt m _ _ _ hm
  obtain ⟨a, len, cap, rfl⟩ : ∃ a len cap, v0 = .slice a len cap := okWide_slice Try.underlying22 (hval 0 22 v0 rfl rfl)
  obtain ⟨f0, t0⟩ := h0
  simp only [Value.cells] at t0
  have hcap : len ≤ cap := (sl_cap Try.underlying22 t0).1
  obtain ⟨a', len', cap', hsl⟩ := sl_open (d := 4) (ks := [.i .i64, .i .i64, .i .i64, .i .i64, .i .i64, .i .i64, .i .i64, .i .i64, .i .i64, .i .i64, .i .i64, .b, .i .i64]) Try.underlying22 (show flat Try.prog 4 41 = some [.i .i64, .i .i64, .i .i64, .i .i64, .i .i64, .i .i64, .i .i64, .i .i64, .i .i64, .i .i64, .i .i64, .b, .i .i64] by kernel_rfl) (by kernel_rfl) (by decide) t0
  obtain ⟨rfl, rfl, rfl⟩ : a = a' ∧ len = len' ∧ cap = cap' := by have := hsl.val; simp at this; exact this
  obtain ⟨b, off, T, hT⟩ := Hs.vc_of hsl
  obtain ⟨a1, len1, cap1, rfl⟩ : ∃ a len cap, v1 = .slice a len cap := okWide_slice Try.underlying24 (hval 1 24 v1 rfl rfl)
  obtain ⟨f1, t1⟩ := h1
  simp only [Value.cells] at t1
  obtain ⟨a1', len1', cap1', hsl1⟩ := sl_open (d := 4) (ks := [.i .i64]) Try.underlying24 (show flat Try.prog 4 3 = some [.i .i64] by kernel_rfl) (by kernel_rfl) (by decide) t1
  obtain ⟨rfl, rfl, rfl⟩ : a1 = a1' ∧ len1 = len1' ∧ cap1 = cap1' := by have := hsl1.val; simp at this; exact this
  obtain ⟨b1, off1, o1, hO1⟩ := Hs.vz_of hsl1
  obtain ⟨mst, rfl⟩ : ∃ n, v2 = .int .u64 n := okWide_int Try.underlying30 (hval 2 30 v2 rfl rfl)
  obtain ⟨f2, t2⟩ := h2
  simp only [Value.cells] at t2
  obtain ⟨⟨mst', hme, hmw⟩, _⟩ := flat_fit 3 30 _ f2 _ _ (show flat Try.prog 3 30 = some [.i .u64] by kernel_rfl) t2
  obtain rfl : mst = mst' := by simpa using hme
  have hm := u64_wf hmw
  refine (Hs.lines_walk T a len cap b off o1 a1 len1 cap1 b1 off1 mst W hT hO1 hm.1 hm.2).mono fun e W' ⟨he, bel⟩ => ?_
  subst he
  exact ⟨_, rfl, _, _, _, [], _, [], hW', trodAll_mk1 (shut_bool Try.underlying4 _), (trodAll_cons_mk (Below.trod laidOut (by kernel_rfl) (of_decide_eq_true (by kernel_rfl)) k0 bel lt0) (trodAll_cons_mk (Below.trod laidOut (by kernel_rfl) (of_decide_eq_true (by kernel_rfl)) k1 bel lt1) (trodAll_cons_mk (Below.trod laidOut (by kernel_rfl) (of_decide_eq_true (by kernel_rfl)) k2 bel lt2) trodAll_mk0))), rfl, bel.frame _, fun h => by cases h⟩
theorem over : Rows.searchLinesRow.holds Try.pinned (OpenSpec.ofChange Rows.searchLinesSpec) :=
  OpenClaim.holds_of_wide 4 Try.f4 rfl rfl rfl rfl rfl rfl rfl ⟨rfl, rfl, rfl, rfl, rfl⟩ rfl rfl rfl rfl rfl (by kernel_rfl) Try.func4 (by kernel_rfl)
    (of_decide_eq_true (by kernel_rfl)) (by unfold Func.isWrapper; first | (rw [if_pos (by decide +kernel)]; kernel_rfl) | (rw [if_neg (by decide +kernel)]; exact ⟨rfl, rfl⟩))
    (fun os started H enc _ => lifted os started H enc)
theorem proved : Rows.SearchLinesSaid := over
end Go.Proofs.Ytdfbfcglacalmaa.searchLinesDone
