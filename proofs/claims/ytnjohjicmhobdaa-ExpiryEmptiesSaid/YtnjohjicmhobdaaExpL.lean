/-
  Layer 20: what is told, at most so many.
  Fewer than 1,000,000 hashes; no other condition.
-/
import Derived.Test.YtnjohjicmhobdaaExpK
namespace Go.Proofs.Ytnjohjicmhobdaa.Exi
open Go.RowKit Go.Shelf Go.Seg Go.Open Go.Lib Rk Ex
attribute [local go_sem] Oper.semAt_some

theorem keepsTy_grown {W W' : World} {row : Option Nat} (hg : W.grownBy W' row) (hr : ∀ j, row = some j → ∀ cs f, W.heap[j]? ≠ some (.cells cs 112 f)) : KeepsTy 112 W W' := fun k cs f hk => by
  rw [hg.block k (Array.getElem?_eq_some_iff.1 hk).1 (fun e => hr k e.symm cs f hk)]
  exact hk
theorem KeepsTy.trans {A B C : World} (h : KeepsTy 112 A B) (k : KeepsTy 112 B C) : KeepsTy 112 A C := fun i cs f hi => k i cs f (h i cs f hi)
theorem keepsTy_alloc (W : World) (o : Obj) : KeepsTy 112 W (W.alloc o) := keepsTy_grown (World.grownBy_alloc W o none) (fun j h => by cases h)
theorem keepsTy_box {W : World} {B : Nat} {t : TypeId} {v : Value} (h : Boxed W B t v) (ht : t ≠ 112) (u : Value) : KeepsTy 112 W (W.setCell ⟨B, 0, none⟩ u) := keepsTy_grown (grownBy_setCell' W B u) (fun j hj cs f hc => by
  cases hj
  have := (show W.heap[B]? = _ from h).symm.trans hc
  simp at this
  exact ht this.2.1)
theorem keepsTy_row {W W' : World} {B : Nat} {v : Value} {l : List (Int × Int)} (h : RowE W B v l) (hg : W.grownBy W' v.ownBlock) : KeepsTy 112 W W' := keepsTy_grown hg (fun j hj cs f hc => by
  rcases h.2 with ⟨rfl, _⟩ | ⟨g, cap, cur, rfl, _, hgb, _⟩
  · simp [Value.ownBlock] at hj
  · obtain rfl : g = j := by simpa [Value.ownBlock] using hj
    have := hgb.symm.trans hc
    simp [RE] at this)

/-- What told's loop keeps. -/
def TI (w : World) (B : Nat) (most : Int) (pre : List (Int × Int)) (W : World) : Prop :=
  ((∃ v, Boxed W B 71 v ∧ W.ownsRow w.heap.size 83 2 v pre.length (cellsE pre) ∧ True) ∧ Boxed W w.heap.size 3 (.int .i64 most)) ∧ (Below w.heap.size w W ∧ (pre.length : Int) ≤ most)
def TX (w : World) (B : Nat) (most : Int) (c : Code) (pre : List (Int × Int)) (W : World) : Prop :=
  c = .exit 0 ∧ ∃ pre' x, pre = pre' ++ [x] ∧ TI w B most pre' W ∧ most ≤ pre'.length
theorem TI.own (w : World) (B : Nat) (most : Int) {n : Nat} (hn : w.heap.size ≤ n) : OwnFrom n (TI w B most) := by
  refine OwnFrom.and (OwnFrom.and (Own.from (holdsRow_own w.heap.size B 71 83 2 (fun pre : List (Int × Int) => pre.length) cellsE (fun _ _ => True)) _) (Own.from (boxed_own _ _ _) _)) (OwnFrom.and (ownFrom_below (Nat.le_refl _) hn) (ownFrom_pure _ _))
theorem TX.own (w : World) (B : Nat) (most : Int) {n : Nat} (hn : w.heap.size ≤ n) (c : Code) : OwnFrom n (TX w B most c) := by
  intro s A B' row hs hg hr
  obtain ⟨h1, pre, x, h2, h3, h4⟩ := hs
  exact ⟨h1, pre, x, h2, TI.own w B most hn pre A B' row h3 hg hr, h4⟩

set_option maxRecDepth 100000 in
set_option maxHeartbeats 2000000 in
theorem told_each (lb : Array Value) (l : List (Int × Int)) (most : Int) (w0 w : World) (hE0 : Ext w0 w) (h : Each w0 l lb) (hl : l.length < 1000000) (hm : 0 ≤ most) :
    Calls Try.prog 46 #[.func (.func 132) #[] lb, .int .i64 most] w fun e w' => ∃ u, e = .returned u ∧ RowE w' w.heap.size u (l.take most.toNat) ∧ Ext w w' := by
  have HEach := Lib.hid h
  have HE0 := Lib.hid hE0
  clear h hE0
  refine (callsIn_wide (n := 3)).1 ?_
  refine callsIn_of_wp_marks Try.func46 rfl trivial ?_ rfl
  simp only [Try.ntmps46, List.size_toArray, List.length_cons, List.length_nil, Nat.reduceAdd, Nat.reduceSub, Array.replicate_succ, Array.replicate_zero, List.push_toArray, List.append_toArray, List.nil_append, List.cons_append]
  refine wpIn_wide.2 ?_
  have hfn := fun (w : World) (f : Fn) (x y : Array Value) => run_eq_func_nil (P := Try.prog) Try.underlying88 f x y w
  go_wp2_with fail
  obtain ⟨W2, hW2⟩ : ∃ W, (w.alloc (.cells #[.int .i64 most] 3)).alloc (.cells #[.slice none 0 0] 71) = W := ⟨_, rfl⟩
  have hE2 : Ext w W2 := by rw [← hW2]; exact ((Below.refl _ _).alloc (Nat.le_refl _) _).alloc (by simp) _
  have hb1 : Boxed W2 w.heap.size 3 (.int .i64 most) := by rw [← hW2]; exact (Boxed.new w 3 _).alloc _
  have hb2 : Boxed W2 (w.heap.size + 1) 71 (.slice none 0 0) := by rw [← hW2]; have := Boxed.new (w.alloc (.cells #[.int .i64 most] 3)) 71 (.slice none 0 0); simpa using this
  rw [hW2]
  have HT := Lib.hid (show TI w (w.heap.size + 1) most [] W2 from ⟨⟨⟨_, hb2, World.ownsRow_nil _ _ _ _, trivial⟩, hb1⟩, hE2, by simpa using hm⟩)
  have hz2 : w.heap.size + 2 ≤ W2.heap.size ∧ W2.heap.size ≤ w.heap.size + 2 := by rw [← hW2]; simp
  have HE2 := Lib.hid hE2
  clear hW2 hb1 hb2 hE2
  have hz0 := HE0.out.size
  refine wpIn_wide (n := 3).1 ?_
  refine wpIn_range_N (n := 3) (gf := 132) (lb := lb) rfl (enters_of Try.func132 (by kernel_rfl) rfl)
    (HEach.out.go (3 - 1)) kp_t (kp_b (by omega)) (HE0.out.trans HE2.out) (fun _ => rfl) (TI w (w.heap.size + 1) most) (TX w (w.heap.size + 1) most) (TI.own _ _ _ (by omega)) (TX.own _ _ _ (by omega)) HT.out ?hab ?done ?stop
  case hab =>
    apply Exists.intro
    refine ⟨?assign, ?body⟩
    case assign =>
      intro l x W K hK
      gi_wp2
      exact hK
    case body =>
      rintro lo pre ⟨x1, x2⟩ Wr hlo _ ⟨⟨⟨v, hbv, hrow, _⟩, hbm⟩, hB, hle⟩ hpre
      have hrow' : RowE Wr w.heap.size v pre := hrow
      obtain ⟨av, cv, rfl⟩ := hrow'.val
      have hlp : pre.length + 1 ≤ l.length := by have := hpre.length_le; simpa using this
      have c1 := hbm.cell
      have c2 := hbv.cell
      have HBV := Lib.hid hbv
      have HBM := Lib.hid hbm
      have HRow := Lib.hid hrow'
      have HB := Lib.hid hB
      have HPre := Lib.hid hpre
      clear hbv hbm hrow hrow' hB hpre
      by_cases hge : most ≤ (pre.length : Int)
      · have d : decide ((pre.length : Int) ≥ most) = true := decide_eq_true hge
        have HGe := Lib.hid hge
        clear hge
        gi_wp2
        exact ⟨KeepsFrom.refl _ _, rfl, pre, (x1, x2), rfl, ⟨⟨⟨_, HBV.out, HRow.out, trivial⟩, HBM.out⟩, HB.out, hle⟩, HGe.out⟩
      · have d : decide ((pre.length : Int) ≥ most) = false := decide_eq_false hge
        have HGe := Lib.hid (show (pre.length : Int) < most by omega)
        clear hge
        have hA : Ext Wr (Wr.alloc (.cells #[.int .u64 x1, .int .i64 x2] 83)) := (Below.refl _ _).alloc (Nat.le_refl _) _
        have hszr := HB.out.size
        have HOwnA := Lib.hid (HRow.out.ext hA)
        have HLit := Lib.hid (Row.own_lit RE Wr #[.int .u64 x1, .int .i64 x2] rfl)
        clear hA
        gi_wp2_with (gi_at_builtin; refine Row.wpListIn_app1 RE _ rfl _ _ rfl w.heap.size _ _ _ rfl HOwnA.out Wr.heap.size Wr.heap.size 1 [.int .u64 x1, .int .i64 x2] rfl HLit.out (by intro u hu; simp at hu; rcases hu with rfl | rfl <;> rfl) (by omega) (by simp; omega) ?_)
        intro a1 c1' w1 hO1 hG1
        obtain ⟨k1, k2, k3, k4, k5⟩ := Boxed.appended HBV.out (by decide) HRow.out hszr (Nat.le_succ _) hO1 hG1
        have hbm1 : Boxed w1 w.heap.size 3 (.int .i64 most) := (HBM.out.alloc _).kept hG1 (HBM.out.not_row (by decide) HRow.out)
        have hkt : KeepsTy 112 Wr (w1.setCell ⟨w.heap.size + 1, 0, none⟩ (.slice a1 (pre.length + 1) c1')) := ((keepsTy_alloc _ _).trans (keepsTy_row HOwnA.out hG1)).trans (keepsTy_box k1 (by decide) _)
        have e1 := k1.cell
        have e2 := k1.frozen
        have HF := Lib.hid (And.intro k2 (And.intro k3 (And.intro k4 (And.intro k5 (And.intro (hbm1.other (B' := w.heap.size + 1) (by omega) (.slice a1 (pre.length + 1) c1')) hkt)))))
        clear k1 k2 k3 k4 k5 hbm1 hkt hO1 hG1 c1 c2
        gi_wp2
        obtain ⟨k2, k3, k4, k5, k6, k7⟩ := HF.out
        refine ⟨k4.from _, ⟨k5.mono hz0, k7⟩, ⟨⟨_, k2, ?_, trivial⟩, k6⟩, HB.out.trans k5, ?_⟩
        · rw [cellsE_snoc, List.length_append]; exact k3
        · have := HGe.out; rw [List.length_append, List.length_singleton]; omega
  case done =>
    rintro D xs W3 hD hxs ⟨⟨⟨v, hbv, hrow, -⟩, hbm⟩, hB, hle⟩ hK
    subst hxs
    have HEq : Hid (xs.take most.toNat = xs) := Lib.hid (List.take_of_length_le (by omega))
    obtain ⟨av, cv, rfl⟩ := (show RowE W3 w.heap.size v _ from hrow).val
    have hD' : w.heap.size ≤ D := by omega
    have hBB := hB.trans ((kp_b (w := w) (Nat.le_refl _) W3 D _ (.deferred none) hD' hK rfl rfl).1)
    have HEnd := Lib.hid (And.intro (ownsRow_putObj hrow (.deferred none) hK rfl) (And.intro hBB hK))
    have c2 := hbv.cell
    clear hrow hbm hB hK hBB hbv
    rename_i Kk hKk
    refine hKk _ _ ?_
    clear hKk
    go_wp2_with fail
    obtain ⟨k1, k2, k3⟩ := HEnd.out
    refine ⟨by simp, .inl ⟨_, _, rfl, run_takeDeferred k3, ?_⟩⟩
    rw [HEq.out]
    refine ⟨_, by simp only [results]; simp [go_sem], _, rfl, k1, k2⟩
  case stop =>
    rintro D c pre W3 hD hpre ⟨rfl, pre', x, rfl, ⟨⟨⟨v, hbv, hrow, -⟩, hbm⟩, hB, hle⟩, hge⟩ hK
    have HEq : Hid (l.take most.toNat = pre') := by
      refine Lib.hid ?_
      obtain ⟨r, rfl⟩ := hpre
      rw [List.append_assoc, show most.toNat = pre'.length by omega, List.take_append_of_le_length (Nat.le_refl _), List.take_length]
    obtain ⟨av, cv, rfl⟩ := (show RowE W3 w.heap.size v _ from hrow).val
    have hD' : w.heap.size ≤ D := by omega
    have hBB := hB.trans ((kp_b (w := w) (Nat.le_refl _) W3 D _ (.deferred none) hD' hK rfl rfl).1)
    have HEnd := Lib.hid (And.intro (ownsRow_putObj hrow (.deferred none) hK rfl) (And.intro hBB hK))
    have c2 := hbv.cell
    clear hrow hbm hB hK hBB hbv
    rename_i Kk hKk
    gi_wp2
    go_wp2_with fail
    obtain ⟨k1, k2, k3⟩ := HEnd.out
    refine ⟨by simp, .inl ⟨_, _, rfl, run_takeDeferred k3, ?_⟩⟩
    rw [HEq.out]
    refine ⟨_, by simp only [results]; simp [go_sem], _, rfl, k1, k2⟩
end Go.Proofs.Ytnjohjicmhobdaa.Exi
