/-
  BoundTells: the bound of any numbers, and of any script, is the document's. No condition beyond the law's own guard.
-/
import Derived.Test.YtlnmnnoibimknaaRows
import Derived.WalkKit
import Derived.ProofKit
import Derived.OpenShut
import Derived.ShutString
import Derived.ChangeOld
import Derived.Below
import Derived.Test.YtlnmnnoibimknaaBound
import Derived.Test.YtlnmnnoibimknaaOpen
namespace Go.Proofs.Ytlnmnnoibimknaa.boundTellsDone
open Go.ChangeShapes Go.WideShapes Go.ChangeAt Go.RowKit Go.Open
open Go.ChangeMaps (open_string shut_string)
theorem own : ownKnob Try.prog.godebug = none := by kernel_rfl
theorem laidOut : laidOutB Try.prog = true := by kernel_rfl
set_option maxRecDepth 100000 in
theorem lifted (os : Os) (started : os.Started) (H : Type) (enc : TypeId × Value → H) :
    ReturnsInHanded {} Try.checked os 3 .any (Rows.boundTellsSpec.pre6 enc Try.prog Try.f3 Rows.boundTellsRow.domain false) (Rows.boundTellsSpec.post enc Try.prog Try.f3 false true false false) := by
  refine returnsInHanded_of_change (C := Try.checked) own started (by kernel_rfl) Try.func3
    (ChangeSpec.witness6 (enc := enc) (C := Try.checked) false ⟨#[], #[.agg #[.int .i64 0, .int .i64 0, .int .i64 0, .int .i64 0, .int .i64 0, .slice none 0 0, .slice none 0 0, .slice none 0 0], .agg #[.int .i64 0, .int .i64 0, .int .i64 0]], []⟩ 8 (by kernel_rfl) (by kernel_rfl) (by kernel_rfl) (by kernel_rfl)) ?_
  intro W base args ds gs before hval0 hW hcnd _
  have hval : ∀ (j : Nat) t v, Try.f3.params[j]? = some t → args[j]? = some v → Value.okWide Try.prog W .any base t v := hval0
  have hW' := hW
  obtain ⟨p, q, hA0, hV, rfl, hfz, hnd⟩ := hW
  have hA : DataW.TrodAll enc Try.prog W 0 (fun _ => true) true Try.f3.params.toList args.toList ds p := hA0
  rw [Try.params3] at hA hval
  obtain ⟨v0, vs0, d0, ds0, p0, q0, hargs, rfl, rfl, h0, r0⟩ := trodAll_cons hA
  obtain ⟨v1, vs1, d1, ds1, p1, q1, rfl, rfl, rfl, h1, r1⟩ := trodAll_cons r0
  obtain ⟨rfl, rfl, rfl⟩ := trodAll_nil r1
  obtain rfl : args = #[v0, v1] := by cases args; simp_all
  obtain ⟨rfl, rfl⟩ := trodVars_none hV
  have k0 := h0
  have lt0 : ∀ x ∈ p0, x.block < W.heap.size := by obtain ⟨m, hm⟩ := k0; exact DataW.trod_lt m _ _ _ hm
  have k1 := h1
  have lt1 : ∀ x ∈ p1, x.block < W.heap.size := by obtain ⟨m, hm⟩ := k1; exact DataW.trod_lt m _ _ _ hm
  obtain ⟨c0, rfl, _⟩ : ∃ c, v0 = .agg c ∧ c.size = Try.prog.cellsOf 27 := okWide_struct Try.underlying27 (hval 0 27 v0 rfl rfl)
  obtain ⟨c1, rfl, _⟩ : ∃ c, v1 = .agg c ∧ c.size = Try.prog.cellsOf 28 ∧ _ := by
    have := hval 1 28 v1 rfl rfl
    unfold Value.okWide at this
    rw [Try.underlying28] at this
    exact this
  obtain ⟨c0⟩ := c0
  obtain ⟨c1⟩ := c1
  obtain ⟨f0, t0⟩ := h0
  obtain ⟨f1, t1⟩ := h1
  simp only [Value.cells] at t0 t1
  have z0 := flat_fit 9 27 _ f0 _ _ (show flat Try.prog 9 27 = some [.i .i64, .i .i64, .i .i64, .i .i64, .i .i64, .sl, .sl, .sl] by kernel_rfl) t0
  have z1 := flat_fit 9 28 _ f1 _ _ (show flat Try.prog 9 28 = some [.i .i64, .i .i64, .i .i64] by kernel_rfl) t1
  obtain ⟨_, z0_0_r, rfl, ⟨a0, rfl, a0W⟩, z0_0⟩ := fitsAll_cons z0
  obtain ⟨_, z0_1_r, rfl, ⟨a1, rfl, a1W⟩, z0_1⟩ := fitsAll_cons z0_0
  obtain ⟨_, z0_2_r, rfl, ⟨a2, rfl, a2W⟩, z0_2⟩ := fitsAll_cons z0_1
  obtain ⟨_, z0_3_r, rfl, ⟨a3, rfl, a3W⟩, z0_3⟩ := fitsAll_cons z0_2
  obtain ⟨_, z0_4_r, rfl, ⟨a4, rfl, a4W⟩, z0_4⟩ := fitsAll_cons z0_3
  obtain ⟨pp, z0_5_r, rfl, ppF, z0_5⟩ := fitsAll_cons z0_4
  obtain ⟨qq, z0_6_r, rfl, qqF, z0_6⟩ := fitsAll_cons z0_5
  obtain ⟨rr, z0_7_r, rfl, rrF, z0_7⟩ := fitsAll_cons z0_6
  obtain rfl := fitsAll_nil z0_7
  obtain ⟨_, z1_0_r, rfl, ⟨x, rfl, xW⟩, z1_0⟩ := fitsAll_cons z1
  obtain ⟨_, z1_1_r, rfl, ⟨y, rfl, yW⟩, z1_1⟩ := fitsAll_cons z1_0
  obtain ⟨_, z1_2_r, rfl, ⟨z, rfl, zW⟩, z1_2⟩ := fitsAll_cons z1_1
  obtain rfl := fitsAll_nil z1_2
  obtain ⟨m, y1, t2⟩ := field_open 1 Try.underlying27 rfl t0
  have t3 : DataW.trod enc Try.prog W 0 (fun _ => true) true m 24 [pp] = some y1 := t2
  obtain ⟨ap, len, cap, hsl⟩ := sl_open (d := 3) (ks := [.sl]) Try.underlying24 (by kernel_rfl) (by kernel_rfl) (by decide) t3
  obtain ⟨b, off, F, hb, hF⟩ := hsl.sls
  obtain rfl := hsl.val
  refine (Bt.walk a0 a1 a2 a3 a4 qq rr ap len cap b off F qqF rrF hsl.le x y z W hb hF).mono fun e W' ⟨he, bel⟩ => ?_
  subst he
  exact ⟨_, rfl, _, _, _, [], _, [], hW', trodAll_mk1 (shut_bool Try.underlying4 _), (trodAll_cons_mk (Below.trod laidOut (by kernel_rfl) (of_decide_eq_true (by kernel_rfl)) k0 bel lt0) (trodAll_cons_mk (Below.trod laidOut (by kernel_rfl) (of_decide_eq_true (by kernel_rfl)) k1 bel lt1) trodAll_mk0)), rfl, bel.frame _, fun h => by cases h⟩
theorem over : Rows.boundTellsRow.holds Try.pinned (OpenSpec.ofChange Rows.boundTellsSpec) :=
  OpenClaim.holds_of_wide 3 Try.f3 rfl rfl rfl rfl rfl rfl rfl ⟨rfl, rfl, rfl, rfl, rfl⟩ rfl rfl rfl rfl rfl (by kernel_rfl) Try.func3 (by kernel_rfl)
    (of_decide_eq_true (by kernel_rfl)) (by unfold Func.isWrapper; first | (rw [if_pos (by decide +kernel)]; kernel_rfl) | (rw [if_neg (by decide +kernel)]; exact ⟨rfl, rfl⟩))
    (fun os started H enc _ => lifted os started H enc)
theorem proved : Rows.BoundTellsSaid := over
end Go.Proofs.Ytlnmnnoibimknaa.boundTellsDone
