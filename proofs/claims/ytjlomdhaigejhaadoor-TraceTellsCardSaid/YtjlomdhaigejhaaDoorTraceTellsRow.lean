/-
  TraceTells: the tied card.
-/
import Derived.Test.YtjlomdhaigejhaaDoorRows
import Derived.WalkKit
import Derived.ProofKit
import Derived.OpenShut
import Derived.ShutString
import Derived.ChangeOld
import Derived.Below
import Derived.Test.YtjlomdhaigejhaaDoorTrH
import Derived.Test.YtjlomdhaigejhaaDoorTrL
import Derived.Test.YtjlomdhaigejhaaDoorOpen
import Derived.Test.YtjlomdhaigejhaaDoorCards
import Derived.Test.YtjlomdhaigejhaaDoorTie
import Derived.SevenTiedAt
namespace Go.Proofs.YtjlomdhaigejhaaDoor.traceTellsDone
open Go.ChangeShapes Go.WideShapes Go.ChangeAt Go.RowKit Go.Open
open Go.ChangeMaps (open_string shut_string)

theorem i64_wf {n : Int} (h : (Lit.int .i64 n).wf = true) : Trc.I64 n := by
  unfold Lit.wf at h
  simp only [Bool.and_eq_true, decide_eq_true_eq] at h
  exact h
theorem five_ok {a b c d e : Int} (ha : Trc.I64 a) (hb : Trc.I64 b) (hc : Trc.I64 c) (hd : Trc.I64 d) (he : Trc.I64 e) : ∀ j, Trc.I64 (Prg.five a b c d e j)
  | 0 => ha
  | 1 => hb
  | 2 => hc
  | 3 => hd
  | _ + 4 => he
theorem u64_wf {n : Int} (h : (Lit.int .u64 n).wf = true) : 0 ≤ n ∧ n ≤ 18446744073709551615 := by
  unfold Lit.wf at h
  simp only [Bool.and_eq_true, decide_eq_true_eq] at h
  exact h
theorem own : ownKnob Tryd.prog.godebug = none := by kernel_rfl
theorem laidOut : laidOutB Tryd.prog = true := by kernel_rfl
set_option maxHeartbeats 4000000 in
set_option maxRecDepth 100000 in
theorem lifted (os : Os) (started : os.Started) (H : Type) (enc : TypeId × Value → H) :
    ReturnsInHanded {} Tryd.checked os 3 .any (fun w args => (Rows.traceTellsSpec.pre enc Tryd.prog Tryd.f3 [] false w args ∧ laidMetH Tryd.prog Trc.laidL w) ∧ sizedMet enc Tryd.prog Tryd.f3 (OpenSpec.ofChange Rows.traceTellsSpec) false w args) (Rows.traceTellsSpec.post enc Tryd.prog Tryd.f3 false true false false) := by
  refine returnsInHanded_of_change_and (C := Tryd.checked) (X := fun w _ => laidMetH Tryd.prog Trc.laidL w) (fun _ _ _ hh h => h.of_heap hh) own started (by kernel_rfl) Tryd.func3
    (ChangeSpec.witness_shaped (enc := enc) (C := Tryd.checked) (os := os) (X := fun w _ => laidMetH Tryd.prog Trc.laidL w) false (World.doorLaid Tryd.prog 67 os) #[.agg #[.int .i64 0, .int .i64 0, .int .i64 0, .int .i64 0, .int .i64 0, .int .i64 0, .int .i64 0, .int .i64 0, .int .i64 0, .int .i64 0, .int .i64 0, .bool false, .int .i64 0], .agg #[.int .i64 0, .int .i64 0, .int .i64 0, .slice none 0 0], .agg #[.int .i64 0, .int .u64 0, .int .u64 0, .int .i64 0, .int .i64 0]] 8 rfl (World.shaped_of_RefB (by kernel_rfl) (by kernel_rfl)) (by kernel_rfl) (by kernel_rfl) (by kernel_rfl) (Trc.door_met os _)) ?_
  intro W base args ds gs before hval0 hW _ _ hL _
  have hval : ∀ (j : Nat) t v, Tryd.f3.params[j]? = some t → args[j]? = some v → Value.okWide Tryd.prog W .any base t v := hval0
  have hW' := hW
  obtain ⟨p, q, hA0, hV, rfl, hfz, hnd⟩ := hW
  have hA : DataW.TrodAll enc Tryd.prog W 0 (fun _ => true) true Tryd.f3.params.toList args.toList ds p := hA0
  rw [Tryd.params3] at hA hval
  obtain ⟨v0, vs0, d0, ds0, p0, q0, hargs, rfl, rfl, h0, r0⟩ := trodAll_cons hA
  obtain ⟨v1, vs1, d1, ds1, p1, q1, rfl, rfl, rfl, h1, r1⟩ := trodAll_cons r0
  obtain ⟨v2, vs2, d2, ds2, p2, q2, rfl, rfl, rfl, h2, r2⟩ := trodAll_cons r1
  obtain ⟨rfl, rfl, rfl⟩ := trodAll_nil r2
  obtain rfl : args = #[v0, v1, v2] := by cases args; simp_all
  obtain ⟨rfl, rfl⟩ := trodVars_none hV
  have k0 := h0
  have lt0 : ∀ x ∈ p0, x.block < W.heap.size := by obtain ⟨m, hm⟩ := k0; exact DataW.trod_lt m _ _ _ hm
  have k1 := h1
  have lt1 : ∀ x ∈ p1, x.block < W.heap.size := by obtain ⟨m, hm⟩ := k1; exact DataW.trod_lt m _ _ _ hm
  have k2 := h2
  have lt2 : ∀ x ∈ p2, x.block < W.heap.size := by obtain ⟨m, hm⟩ := k2; exact DataW.trod_lt m _ _ _ hm
  obtain ⟨c0, rfl, _⟩ : ∃ c, v0 = .agg c ∧ c.size = Tryd.prog.cellsOf 25 := okWide_struct Tryd.underlying25 (hval 0 25 v0 rfl rfl)
  obtain ⟨c0⟩ := c0
  obtain ⟨f0, t0⟩ := h0
  simp only [Value.cells] at t0
  have z0 := flat_fit 9 25 _ f0 _ _ (show flat Tryd.prog 9 25 = some [.i .i64, .i .i64, .i .i64, .i .i64, .i .i64, .i .i64, .i .i64, .i .i64, .i .i64, .i .i64, .i .i64, .b, .i .i64] by kernel_rfl) t0
  obtain ⟨_, z0_0_r, rfl, ⟨cl, rfl, clW⟩, z0_0⟩ := fitsAll_cons z0
  obtain ⟨_, z0_1_r, rfl, ⟨idn, rfl, idnW⟩, z0_1⟩ := fitsAll_cons z0_0
  obtain ⟨_, z0_2_r, rfl, ⟨o0, rfl, o0W⟩, z0_2⟩ := fitsAll_cons z0_1
  obtain ⟨_, z0_3_r, rfl, ⟨o1, rfl, o1W⟩, z0_3⟩ := fitsAll_cons z0_2
  obtain ⟨_, z0_4_r, rfl, ⟨o2, rfl, o2W⟩, z0_4⟩ := fitsAll_cons z0_3
  obtain ⟨_, z0_5_r, rfl, ⟨o3, rfl, o3W⟩, z0_5⟩ := fitsAll_cons z0_4
  obtain ⟨_, z0_6_r, rfl, ⟨o4, rfl, o4W⟩, z0_6⟩ := fitsAll_cons z0_5
  obtain ⟨_, z0_7_r, rfl, ⟨bgn, rfl, bgnW⟩, z0_7⟩ := fitsAll_cons z0_6
  obtain ⟨_, z0_8_r, rfl, ⟨at_, rfl, at_W⟩, z0_8⟩ := fitsAll_cons z0_7
  obtain ⟨_, z0_9_r, rfl, ⟨end_, rfl, end_W⟩, z0_9⟩ := fitsAll_cons z0_8
  obtain ⟨_, z0_10_r, rfl, ⟨tick, rfl, tickW⟩, z0_10⟩ := fitsAll_cons z0_9
  obtain ⟨_, z0_11_r, rfl, ⟨okb, rfl⟩, z0_11⟩ := fitsAll_cons z0_10
  obtain ⟨_, z0_12_r, rfl, ⟨val, rfl, valW⟩, z0_12⟩ := fitsAll_cons z0_11
  obtain rfl := fitsAll_nil z0_12
  obtain ⟨c1, rfl, _⟩ : ∃ c, v1 = .agg c ∧ c.size = Tryd.prog.cellsOf 28 := okWide_struct Tryd.underlying28 (hval 1 28 v1 rfl rfl)
  obtain ⟨c1⟩ := c1
  obtain ⟨f1, t1⟩ := h1
  simp only [Value.cells] at t1
  have z1 := flat_fit 9 28 _ f1 _ _ (show flat Tryd.prog 9 28 = some [.i .i64, .i .i64, .i .i64, .sl] by kernel_rfl) t1
  obtain ⟨_, z1_0_r, rfl, ⟨who, rfl, whoW⟩, z1_0⟩ := fitsAll_cons z1
  obtain ⟨_, z1_1_r, rfl, ⟨stage, rfl, stageW⟩, z1_1⟩ := fitsAll_cons z1_0
  obtain ⟨_, z1_2_r, rfl, ⟨tck, rfl, tckW⟩, z1_2⟩ := fitsAll_cons z1_1
  obtain ⟨may, z1_3_r, rfl, mayF, z1_3⟩ := fitsAll_cons z1_2
  obtain rfl := fitsAll_nil z1_3
  obtain ⟨c2, rfl, _⟩ : ∃ c, v2 = .agg c ∧ c.size = Tryd.prog.cellsOf 31 := okWide_struct Tryd.underlying31 (hval 2 31 v2 rfl rfl)
  obtain ⟨c2⟩ := c2
  obtain ⟨f2, t2⟩ := h2
  simp only [Value.cells] at t2
  have z2 := flat_fit 9 31 _ f2 _ _ (show flat Tryd.prog 9 31 = some [.i .i64, .i .u64, .i .u64, .i .i64, .i .i64] by kernel_rfl) t2
  obtain ⟨_, z2_0_r, rfl, ⟨cause, rfl, causeW⟩, z2_0⟩ := fitsAll_cons z2
  obtain ⟨_, z2_1_r, rfl, ⟨hsh, rfl, hshW⟩, z2_1⟩ := fitsAll_cons z2_0
  obtain ⟨_, z2_2_r, rfl, ⟨conf, rfl, confW⟩, z2_2⟩ := fitsAll_cons z2_1
  obtain ⟨_, z2_3_r, rfl, ⟨vl, rfl, vlW⟩, z2_3⟩ := fitsAll_cons z2_2
  obtain ⟨_, z2_4_r, rfl, ⟨idv, rfl, idvW⟩, z2_4⟩ := fitsAll_cons z2_3
  obtain rfl := fitsAll_nil z2_4
  obtain ⟨sa, sn, sc, rfl⟩ := mayF
  obtain ⟨hs, rfl⟩ : ∃ n : Nat, hsh = n := ⟨hsh.toNat, by have := u64_wf hshW; omega⟩
  have hsU := u64_wf hshW
  obtain ⟨hTab, hNam⟩ := Trc.of_laid hL
  refine (Trc.tells_walk ⟨cl, idn, Prg.five o0 o1 o2 o3 o4, bgn, at_, end_, tick, okb, val⟩ who stage tck sa sn sc cause hs conf vl idv
    ⟨⟨i64_wf clW, i64_wf idnW, five_ok (i64_wf o0W) (i64_wf o1W) (i64_wf o2W) (i64_wf o3W) (i64_wf o4W), i64_wf bgnW, i64_wf at_W, i64_wf end_W, i64_wf tickW, i64_wf valW⟩, ⟨i64_wf whoW, i64_wf tckW⟩, i64_wf vlW, i64_wf idvW, by omega⟩ W hNam hTab).mono fun e W' ⟨he, bel⟩ => ?_
  subst he
  exact ⟨_, rfl, _, _, _, [], _, [], hW', trodAll_mk1 (shut_bool Tryd.underlying4 _), (trodAll_cons_mk (Below.trod laidOut (by kernel_rfl) (of_decide_eq_true (by kernel_rfl)) k0 bel lt0) (trodAll_cons_mk (Below.trod laidOut (by kernel_rfl) (of_decide_eq_true (by kernel_rfl)) k1 bel lt1) (trodAll_cons_mk (Below.trod laidOut (by kernel_rfl) (of_decide_eq_true (by kernel_rfl)) k2 bel lt2) trodAll_mk0))), rfl, bel.frame _, fun h => by cases h⟩
theorem over : Rows.traceTellsRow.holds Tryd.pinned (OpenSpec.ofChange Rows.traceTellsSpec) :=
  OpenClaim.holds_of_wide 3 Tryd.f3 rfl rfl rfl rfl rfl rfl rfl ⟨rfl, rfl, rfl, rfl, rfl⟩ rfl rfl rfl rfl rfl (by kernel_rfl) Tryd.func3 (by kernel_rfl)
    (of_decide_eq_true (by kernel_rfl)) (by unfold Func.isWrapper; first | (rw [if_pos (by decide +kernel)]; kernel_rfl) | (rw [if_neg (by decide +kernel)]; exact ⟨rfl, rfl⟩))
    (fun os started H enc _ => lifted os started H enc)
theorem proved : Rows.TraceTellsCardSaid :=
  Claim7.holds_tied_plain_at .later [] [.data, .data, .data, .data] true (true, "9d5ceb8230a89e9604fe9e0d02ed1c2bda3cbca33059588c6c3a3c6df75dd1f8") true
    over (fun _ h => by cases h) (by kernel_rfl) (fun _ h => by cases h) traceTells_row_tie rfl ⟨rfl, rfl⟩ (by kernel_rfl) rfl
    (fun f fn hf hfn => by
      obtain rfl : f = 3 := Option.some.inj ((show Tryd.prog.funcNamed "cortado/cortadolaw45.TraceTells" = some 3 by kernel_rfl).symm.trans hf) |>.symm
      obtain rfl : fn = Tryd.f3 := (Option.some.inj (Tryd.func3.symm.trans hfn)).symm
      exact ⟨by kernel_rfl, fun j t ht => by
        rw [Tryd.params3] at ht
        have hm : t ∈ [25, 28, 31] := by simpa using Array.mem_of_getElem? ht
        have hall : ([25, 28, 31].all fun u => !Tryd.prog.wantsStandIn u) = true := by kernel_rfl
        exact (show Tryd.prog.wantsStandIn t = false by simpa using List.all_eq_true.1 hall t hm)⟩)
    (by kernel_rfl)
end Go.Proofs.YtjlomdhaigejhaaDoor.traceTellsDone
