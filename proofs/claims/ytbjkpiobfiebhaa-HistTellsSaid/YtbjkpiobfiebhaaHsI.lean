/-
  Histories: rows of calls that are read; which call is ahead of another, whether its steps are in order, whether two are apart.
  No condition.
-/
import Derived.Test.YtbjkpiobfiebhaaHsH
import Derived.Test.YtbjkpiobfiebhaaPrgD
namespace Go.Proofs.Ytbjkpiobfiebhaa.Hs
open Go.RowKit Go.Seg Go.Open Go.Lib Go.Arr Go.Stab Go.Row

/-- A slice of calls that is read. -/
structure VC (w : World) (a : Option Addr) (n b off : Nat) (T : List C) : Prop where
  len : T.length = n
  ad : 0 < n → a = some ⟨b, off, none⟩
  cells : ∀ W, Ext w W → ∀ i (h : i < T.length), ∀ j, j < 13 → W.cell? ⟨b, off + i * 13 + j, none⟩ = (enc T[i])[j]?
theorem VC.ext {w w' : World} {a : Option Addr} {len b off : Nat} {T : List C} (h : VC w a len b off T) (e : Ext w w') : VC w' a len b off T := ⟨h.len, h.ad, fun W hW => h.cells W (e.trans hW)⟩
theorem loadE' {P : Program} {W : World} {b o n : Nat} {x : List Value} (hx : x.length = n) (hc : ∀ j, j < n → W.cell? ⟨b, o + j, none⟩ = x[j]?) : (loadCellsFrom ⟨b, o, none⟩ 0 n #[]).run P W = .ok x.toArray W := by
  subst hx
  have := run_loadCells_list (P := P) W ⟨b, o, none⟩ x (fun j v hv => by
    have hadd : (⟨b, o, none⟩ : Addr).add j = ⟨b, o + j, none⟩ := by unfold Addr.add; split <;> simp_all
    have hj : j < x.length := (List.getElem?_eq_some_iff.1 hv).1
    rw [hadd, hc j hj]
    exact hv)
  simpa [loadCells] using this
/-- One of them. -/
structure At1 (w : World) (b o : Nat) (x : C) : Prop where
  ld : ∀ W, Ext w W → (Instr.loadAt 29 (.pointer (some ⟨b, o, none⟩))).run Try.prog W = .ok (CV x) W
  cl : ∀ W, Ext w W → ∀ j v, (enc x)[j]? = some v → W.cell? ⟨b, o + j, none⟩ = some v
theorem VC.at1 {w : World} {a : Option Addr} {len b off : Nat} {T : List C} (h : VC w a len b off T) (S R : List C) (x : C) (e : T = S ++ x :: R) (i : Nat) (hi : i = S.length) : At1 w b (off + i * 13) x := by
  subst hi
  have hl : S.length < T.length := by rw [e]; simp
  have h2 : T[S.length] = x := by subst e; simp
  have hc := fun W hW => h.cells W hW S.length hl
  rw [h2] at hc
  refine ⟨fun W hW => run_loadA (agg_ct W) (size_ct W) (loadE' (enc_len x) (hc W hW)), fun W hW j v hj => ?_⟩
  have hj' : j < 13 := (List.getElem?_eq_some_iff.1 hj).1
  rw [hc W hW j hj', hj]
theorem VC.get {w : World} {a : Option Addr} {len b off : Nat} {T : List C} (h : VC w a len b off T) {i : Nat} (hi : i < len) : ∃ S x R, T = S ++ x :: R ∧ S.length = i ∧ At1 w b (off + i * 13) x := by
  obtain ⟨S, x, R, e, hS⟩ := split_at T i (by rw [h.len]; exact hi)
  exact ⟨S, x, R, e, hS, h.at1 S R x e i hS.symm⟩
theorem VC.take {w : World} {a : Option Addr} {len b off : Nat} {T : List C} (h : VC w a len b off T) {i : Nat} (hi : i ≤ len) : VC w a i b off (T.take i) := by
  refine ⟨by rw [List.length_take, h.len]; omega, fun h0 => h.ad (by omega), fun W hW k hk j hj => ?_⟩
  have hk' : k < T.length := by rw [List.length_take] at hk; omega
  rw [List.getElem_take]
  exact h.cells W hW k hk' j hj
theorem VC.drop {w : World} {a : Option Addr} {len b off : Nat} {T : List C} (h : VC w a len b off T) {i : Nat} : VC w (some ⟨b, off + i * 13, none⟩) (len - i) b (off + i * 13) (T.drop i) := by
  refine ⟨by rw [List.length_drop, h.len], fun _ => rfl, fun W hW k hk j hj => ?_⟩
  have hk' : i + k < T.length := by rw [List.length_drop] at hk; omega
  rw [List.getElem_drop]
  have := h.cells W hW (i + k) hk' j hj
  rw [Nat.add_mul, ← Nat.add_assoc] at this
  exact this
/-- A call in a block of its own. -/
theorem at1_blk {w : World} {b : Nat} {x : C} (h : Blk w b (enc x).toArray 29) : At1 w b 0 x := by
  refine ⟨fun W hW => run_loadA (agg_ct W) (size_ct W) (struct_load (h.ext hW) 13 rfl), fun W hW j v hj => ?_⟩
  rw [Nat.zero_add]
  exact Blk.cell (h.ext hW) (by simpa using hj)

def ahead (x y : C) : Bool := decide (0 ≤ x.en) && decide (x.en < y.bgn)
def timed (x : C) : Bool := if x.bgn < 0 then false else if x.at_ < 0 then decide (x.en < 0) else decide (x.bgn ≤ x.at_) && (decide (x.en < 0) || decide (x.at_ ≤ x.en))
def alike (x y : C) : Bool := x.id == y.id || (decide (0 ≤ x.at_) && x.at_ == y.at_)
def apart (x y : C) : Bool := !alike x y && (x.cl != y.cl || (ahead x y || ahead y x))

theorem ext_alloc (w : World) (o : Obj) : Ext w (w.alloc o) := (Below.refl _ _).alloc (Nat.le_refl _) _
theorem two_boxes (w : World) (x y : C) : (Blk ((w.alloc (.cells (enc x).toArray 29)).alloc (.cells (enc y).toArray 29)) w.heap.size (enc x).toArray 29 ∧ Blk ((w.alloc (.cells (enc x).toArray 29)).alloc (.cells (enc y).toArray 29)) (w.heap.size + 1) (enc y).toArray 29) ∧ Ext w ((w.alloc (.cells (enc x).toArray 29)).alloc (.cells (enc y).toArray 29)) :=
  ⟨⟨(Blk.new _ _ _).al _, blk_at (by simp)⟩, (ext_alloc _ _).trans (ext_alloc _ _)⟩
theorem one_box (w : World) (x : C) : Blk (w.alloc (.cells (enc x).toArray 29)) w.heap.size (enc x).toArray 29 ∧ Ext w (w.alloc (.cells (enc x).toArray 29)) := ⟨Blk.new _ _ _, ext_alloc _ _⟩
theorem ahead_any (x y : C) (w : World) : Calls Try.prog 9 #[CV x, CV y] w fun e w' => e = .returned (.bool (ahead x y)) ∧ Ext w w' := by
  have HB := Lib.hid (two_boxes w x y)
  have p5 : ((w.alloc (.cells #[.int .i64 x.cl, .int .i64 x.id, .int .i64 x.k, .int .i64 x.a, .int .i64 x.b, .int .i64 x.c, .int .i64 x.d, .int .i64 x.bgn, .int .i64 x.at_, .int .i64 x.en, .int .i64 x.tick, .bool x.ok, .int .i64 x.val] 29)).alloc (.cells #[.int .i64 y.cl, .int .i64 y.id, .int .i64 y.k, .int .i64 y.a, .int .i64 y.b, .int .i64 y.c, .int .i64 y.d, .int .i64 y.bgn, .int .i64 y.at_, .int .i64 y.en, .int .i64 y.tick, .bool y.ok, .int .i64 y.val] 29)).cell? ⟨w.heap.size, 9, none⟩ = some (.int .i64 x.en) := Blk.cell (i := 9) HB.out.1.1 rfl
  have q3 : ((w.alloc (.cells #[.int .i64 x.cl, .int .i64 x.id, .int .i64 x.k, .int .i64 x.a, .int .i64 x.b, .int .i64 x.c, .int .i64 x.d, .int .i64 x.bgn, .int .i64 x.at_, .int .i64 x.en, .int .i64 x.tick, .bool x.ok, .int .i64 x.val] 29)).alloc (.cells #[.int .i64 y.cl, .int .i64 y.id, .int .i64 y.k, .int .i64 y.a, .int .i64 y.b, .int .i64 y.c, .int .i64 y.d, .int .i64 y.bgn, .int .i64 y.at_, .int .i64 y.en, .int .i64 y.tick, .bool y.ok, .int .i64 y.val] 29)).cell? ⟨w.heap.size + 1, 7, none⟩ = some (.int .i64 y.bgn) := Blk.cell (i := 7) HB.out.1.2 rfl
  unfold CV enc ahead
  by_cases h1 : 0 ≤ x.en
  · have d1 : decide (0 ≤ x.en) = true := decide_eq_true h1
    rw [d1, Bool.true_and]
    clear h1
    go_enter Try.func9, Try.ntmps9
    go_wp2_with fail
    go_ret
    exact ⟨rfl, HB.out.2⟩
  · have d1 : decide (0 ≤ x.en) = false := decide_eq_false h1
    rw [d1, Bool.false_and]
    clear h1
    go_enter Try.func9, Try.ntmps9
    go_wp2_with fail
    go_ret
    exact ⟨rfl, HB.out.2⟩
theorem rAhead_any (x y : C) (w : World) : Calls Try.prog 12 #[CV x, CV y] w fun e w' => e = .returned (.bool (ahead x y)) ∧ Ext w w' := by
  have HB := Lib.hid (two_boxes w x y)
  have p5 : ((w.alloc (.cells #[.int .i64 x.cl, .int .i64 x.id, .int .i64 x.k, .int .i64 x.a, .int .i64 x.b, .int .i64 x.c, .int .i64 x.d, .int .i64 x.bgn, .int .i64 x.at_, .int .i64 x.en, .int .i64 x.tick, .bool x.ok, .int .i64 x.val] 29)).alloc (.cells #[.int .i64 y.cl, .int .i64 y.id, .int .i64 y.k, .int .i64 y.a, .int .i64 y.b, .int .i64 y.c, .int .i64 y.d, .int .i64 y.bgn, .int .i64 y.at_, .int .i64 y.en, .int .i64 y.tick, .bool y.ok, .int .i64 y.val] 29)).cell? ⟨w.heap.size, 9, none⟩ = some (.int .i64 x.en) := Blk.cell (i := 9) HB.out.1.1 rfl
  have q3 : ((w.alloc (.cells #[.int .i64 x.cl, .int .i64 x.id, .int .i64 x.k, .int .i64 x.a, .int .i64 x.b, .int .i64 x.c, .int .i64 x.d, .int .i64 x.bgn, .int .i64 x.at_, .int .i64 x.en, .int .i64 x.tick, .bool x.ok, .int .i64 x.val] 29)).alloc (.cells #[.int .i64 y.cl, .int .i64 y.id, .int .i64 y.k, .int .i64 y.a, .int .i64 y.b, .int .i64 y.c, .int .i64 y.d, .int .i64 y.bgn, .int .i64 y.at_, .int .i64 y.en, .int .i64 y.tick, .bool y.ok, .int .i64 y.val] 29)).cell? ⟨w.heap.size + 1, 7, none⟩ = some (.int .i64 y.bgn) := Blk.cell (i := 7) HB.out.1.2 rfl
  unfold CV enc ahead
  by_cases h1 : 0 ≤ x.en
  · have d1 : decide (0 ≤ x.en) = true := decide_eq_true h1
    rw [d1, Bool.true_and]
    clear h1
    go_enter Try.func12, Try.ntmps12
    go_wp2_with fail
    go_ret
    exact ⟨rfl, HB.out.2⟩
  · have d1 : decide (0 ≤ x.en) = false := decide_eq_false h1
    rw [d1, Bool.false_and]
    clear h1
    go_enter Try.func12, Try.ntmps12
    go_wp2_with fail
    go_ret
    exact ⟨rfl, HB.out.2⟩

theorem timed_any (x : C) (w : World) : Calls Try.prog 31 #[CV x] w fun e w' => e = .returned (.bool (timed x)) ∧ Ext w w' := by
  have HB := Lib.hid (one_box w x)
  have p3 : (w.alloc (.cells #[.int .i64 x.cl, .int .i64 x.id, .int .i64 x.k, .int .i64 x.a, .int .i64 x.b, .int .i64 x.c, .int .i64 x.d, .int .i64 x.bgn, .int .i64 x.at_, .int .i64 x.en, .int .i64 x.tick, .bool x.ok, .int .i64 x.val] 29)).cell? ⟨w.heap.size, 7, none⟩ = some (.int .i64 x.bgn) := Blk.cell (i := 7) HB.out.1 rfl
  have p4 : (w.alloc (.cells #[.int .i64 x.cl, .int .i64 x.id, .int .i64 x.k, .int .i64 x.a, .int .i64 x.b, .int .i64 x.c, .int .i64 x.d, .int .i64 x.bgn, .int .i64 x.at_, .int .i64 x.en, .int .i64 x.tick, .bool x.ok, .int .i64 x.val] 29)).cell? ⟨w.heap.size, 8, none⟩ = some (.int .i64 x.at_) := Blk.cell (i := 8) HB.out.1 rfl
  have p5 : (w.alloc (.cells #[.int .i64 x.cl, .int .i64 x.id, .int .i64 x.k, .int .i64 x.a, .int .i64 x.b, .int .i64 x.c, .int .i64 x.d, .int .i64 x.bgn, .int .i64 x.at_, .int .i64 x.en, .int .i64 x.tick, .bool x.ok, .int .i64 x.val] 29)).cell? ⟨w.heap.size, 9, none⟩ = some (.int .i64 x.en) := Blk.cell (i := 9) HB.out.1 rfl
  unfold CV enc timed
  by_cases h1 : x.bgn < 0
  · have d1 : decide (x.bgn < 0) = true := decide_eq_true h1
    rw [if_pos h1]
    clear h1
    go_enter Try.func31, Try.ntmps31
    go_wp2_with fail
    go_ret
    exact ⟨rfl, HB.out.2⟩
  · have d1 : decide (x.bgn < 0) = false := decide_eq_false h1
    rw [if_neg h1]
    clear h1
    by_cases h2 : x.at_ < 0
    · have d2 : decide (x.at_ < 0) = true := decide_eq_true h2
      rw [if_pos h2]
      clear h2
      go_enter Try.func31, Try.ntmps31
      go_wp2_with fail
      go_ret
      exact ⟨rfl, HB.out.2⟩
    · have d2 : decide (x.at_ < 0) = false := decide_eq_false h2
      rw [if_neg h2]
      clear h2
      by_cases h3 : x.bgn ≤ x.at_
      · have d3 : decide (x.bgn ≤ x.at_) = true := decide_eq_true h3
        rw [d3, Bool.true_and]
        clear h3
        by_cases h4 : x.en < 0
        · have d4 : decide (x.en < 0) = true := decide_eq_true h4
          rw [d4, Bool.true_or]
          clear h4
          go_enter Try.func31, Try.ntmps31
          go_wp2_with fail
          go_ret
          exact ⟨rfl, HB.out.2⟩
        · have d4 : decide (x.en < 0) = false := decide_eq_false h4
          rw [d4, Bool.false_or]
          clear h4
          go_enter Try.func31, Try.ntmps31
          go_wp2_with fail
          go_ret
          exact ⟨rfl, HB.out.2⟩
      · have d3 : decide (x.bgn ≤ x.at_) = false := decide_eq_false h3
        rw [d3, Bool.false_and]
        clear h3
        go_enter Try.func31, Try.ntmps31
        go_wp2_with fail
        go_ret
        exact ⟨rfl, HB.out.2⟩
set_option maxRecDepth 100000 in
set_option maxHeartbeats 2000000 in
theorem apart_any (x y : C) (w : World) : Calls Try.prog 33 #[CV x, CV y] w fun e w' => e = .returned (.bool (apart x y)) ∧ Ext w w' := by
  have HB := Lib.hid (two_boxes w x y)
  obtain ⟨w2, hw2⟩ : ∃ w2, w2 = (w.alloc (.cells (enc x).toArray 29)).alloc (.cells (enc y).toArray 29) := ⟨_, rfl⟩
  have HX := Lib.hid (show At1 w2 w.heap.size 0 x by rw [hw2]; exact at1_blk HB.out.1.1)
  have HY := Lib.hid (show At1 w2 (w.heap.size + 1) 0 y by rw [hw2]; exact at1_blk HB.out.1.2)
  have HE := Lib.hid (show Ext w w2 by rw [hw2]; exact HB.out.2)
  have p0 := HX.out.cl w2 (Ext.refl _) 0 _ rfl
  have p1 := HX.out.cl w2 (Ext.refl _) 1 _ rfl
  have p4 := HX.out.cl w2 (Ext.refl _) 8 _ rfl
  have q0 := HY.out.cl w2 (Ext.refl _) 0 _ rfl
  have q1 := HY.out.cl w2 (Ext.refl _) 1 _ rfl
  have q4 := HY.out.cl w2 (Ext.refl _) 8 _ rfl
  have l1 := HX.out.ld w2 (Ext.refl _)
  have l2 := HY.out.ld w2 (Ext.refl _)
  simp only [Nat.zero_add] at p0 p1 p4 q0 q1 q4
  have HW := Lib.hid hw2
  clear HB hw2
  unfold apart alike CV
  by_cases h1 : x.id = y.id
  · have d1 : (x.id == y.id) = true := beq_iff_eq.2 h1
    rw [d1, Bool.true_or, Bool.not_true, Bool.false_and]
    clear h1
    go_enter Try.func33, Try.ntmps33
    go_upto_region 1 with fail
    have hw2 := HW.out
    rw [← hw2]
    clear hw2
    go_wp2_with fail
    go_ret
    exact ⟨rfl, HE.out⟩
  · have d1 : (x.id == y.id) = false := beq_eq_false_iff_ne.2 h1
    rw [d1, Bool.false_or]
    clear h1
    by_cases h2 : 0 ≤ x.at_
    · have d2 : decide (0 ≤ x.at_) = true := decide_eq_true h2
      rw [d2, Bool.true_and]
      clear h2
      by_cases h3 : x.at_ = y.at_
      · have d3 : (x.at_ == y.at_) = true := beq_iff_eq.2 h3
        rw [d3, Bool.not_true, Bool.false_and]
        clear h3
        go_enter Try.func33, Try.ntmps33
        go_upto_region 1 with fail
        have hw2 := HW.out
        rw [← hw2]
        clear hw2
        go_wp2_with fail
        go_ret
        exact ⟨rfl, HE.out⟩
      · have d3 : (x.at_ == y.at_) = false := beq_eq_false_iff_ne.2 h3
        rw [d3, Bool.not_false, Bool.true_and]
        clear h3
        by_cases h5 : x.cl = y.cl
        · have d5 : (x.cl != y.cl) = false := by simp [h5]
          rw [d5, Bool.false_or]
          clear h5
          go_enter Try.func33, Try.ntmps33
          go_upto_region 1 with fail
          have hw2 := HW.out
          rw [← hw2]
          clear hw2
          go_wp2_with (first | refine Arr.wpList_ldA rfl _ _ rfl _ l1 ?_ | refine Arr.wpList_ldA rfl _ _ rfl _ l2 ?_)
          refine (ahead_any x y _).mono ?_
          rintro e w3 ⟨rfl, hE3⟩
          have HE3 := Lib.hid hE3
          clear hE3
          have l3 := HX.out.ld w3 HE3.out
          have l4 := HY.out.ld w3 HE3.out
          cases h6 : ahead x y with
          | true =>
            have H6 := Lib.hid h6
            clear h6
            go_wp2_with fail
            go_ret
            refine ⟨?_, HE.out.trans HE3.out⟩
            first | rfl | simp [H6.out]
          | false =>
            have H6 := Lib.hid h6
            clear h6
            go_wp2_with (first | refine Arr.wpList_ldA rfl _ _ rfl _ l1 ?_ | refine Arr.wpList_ldA rfl _ _ rfl _ l2 ?_ | refine Arr.wpList_ldA rfl _ _ rfl _ l3 ?_ | refine Arr.wpList_ldA rfl _ _ rfl _ l4 ?_)
            refine (ahead_any y x _).mono ?_
            rintro e w4 ⟨rfl, hE4⟩
            have HE4 := Lib.hid hE4
            clear hE4
            go_wp2_with fail
            go_ret
            refine ⟨?_, (HE.out.trans HE3.out).trans HE4.out⟩
            first | rfl | simp [H6.out]
        · have d5 : (x.cl != y.cl) = true := by simp [h5]
          rw [d5, Bool.true_or]
          clear h5
          go_enter Try.func33, Try.ntmps33
          go_upto_region 1 with fail
          have hw2 := HW.out
          rw [← hw2]
          clear hw2
          go_wp2_with fail
          go_ret
          exact ⟨rfl, HE.out⟩
    · have d2 : decide (0 ≤ x.at_) = false := decide_eq_false h2
      rw [d2, Bool.false_and, Bool.not_false, Bool.true_and]
      clear h2
      by_cases h5 : x.cl = y.cl
      · have d5 : (x.cl != y.cl) = false := by simp [h5]
        rw [d5, Bool.false_or]
        clear h5
        go_enter Try.func33, Try.ntmps33
        go_upto_region 1 with fail
        have hw2 := HW.out
        rw [← hw2]
        clear hw2
        go_wp2_with (first | refine Arr.wpList_ldA rfl _ _ rfl _ l1 ?_ | refine Arr.wpList_ldA rfl _ _ rfl _ l2 ?_)
        refine (ahead_any x y _).mono ?_
        rintro e w3 ⟨rfl, hE3⟩
        have HE3 := Lib.hid hE3
        clear hE3
        have l3 := HX.out.ld w3 HE3.out
        have l4 := HY.out.ld w3 HE3.out
        cases h6 : ahead x y with
        | true =>
          have H6 := Lib.hid h6
          clear h6
          go_wp2_with fail
          go_ret
          refine ⟨?_, HE.out.trans HE3.out⟩
          first | rfl | simp [H6.out]
        | false =>
          have H6 := Lib.hid h6
          clear h6
          go_wp2_with (first | refine Arr.wpList_ldA rfl _ _ rfl _ l1 ?_ | refine Arr.wpList_ldA rfl _ _ rfl _ l2 ?_ | refine Arr.wpList_ldA rfl _ _ rfl _ l3 ?_ | refine Arr.wpList_ldA rfl _ _ rfl _ l4 ?_)
          refine (ahead_any y x _).mono ?_
          rintro e w4 ⟨rfl, hE4⟩
          have HE4 := Lib.hid hE4
          clear hE4
          go_wp2_with fail
          go_ret
          refine ⟨?_, (HE.out.trans HE3.out).trans HE4.out⟩
          first | rfl | simp [H6.out]
      · have d5 : (x.cl != y.cl) = true := by simp [h5]
        rw [d5, Bool.true_or]
        clear h5
        go_enter Try.func33, Try.ntmps33
        go_upto_region 1 with fail
        have hw2 := HW.out
        rw [← hw2]
        clear hw2
        go_wp2_with fail
        go_ret
        exact ⟨rfl, HE.out⟩
set_option maxRecDepth 100000 in
/-- What the search for one that isn't apart asks of each. -/
theorem other_any (c d : C) (bc : Nat) (w : World) (h : Blk w bc (enc c).toArray 29) : Calls Try.prog 32 #[CV d, .pointer (some ⟨bc, 0, none⟩)] w fun e w' => e = .returned (.bool (!apart c d)) ∧ Ext w w' := by
  have HB := Lib.hid (one_box w d)
  have l1 := (at1_blk (h.ext HB.out.2)).ld _ (Ext.refl _)
  have l2 := (at1_blk HB.out.1).ld _ (Ext.refl _)
  clear h
  obtain ⟨w2, hw2⟩ : ∃ w2, w2 = w.alloc (.cells (enc d).toArray 29) := ⟨_, rfl⟩
  have HE := Lib.hid (show Ext w w2 by rw [hw2]; exact HB.out.2)
  rw [← hw2] at l1 l2
  have HW := Lib.hid hw2
  clear HB hw2
  unfold CV
  go_enter Try.func32, Try.ntmps32
  go_upto_region 1 with fail
  have hw2 := HW.out
  rw [← hw2]
  clear hw2
  go_wp2_with (first | refine Arr.wpList_ldA rfl _ _ rfl _ l1 ?_ | refine Arr.wpList_ldA rfl _ _ rfl _ l2 ?_)
  refine (apart_any c d _).mono ?_
  rintro e w3 ⟨rfl, hE3⟩
  have HE3 := Lib.hid hE3
  clear hE3
  go_wp2_with fail
  go_ret
  exact ⟨rfl, HE.out.trans HE3.out⟩
theorem open_any (d : C) (w : World) : Calls Try.prog 35 #[CV d] w fun e w' => e = .returned (.bool (decide (d.en < 0))) ∧ Ext w w' := by
  have HB := Lib.hid (one_box w d)
  have p5 : (w.alloc (.cells #[.int .i64 d.cl, .int .i64 d.id, .int .i64 d.k, .int .i64 d.a, .int .i64 d.b, .int .i64 d.c, .int .i64 d.d, .int .i64 d.bgn, .int .i64 d.at_, .int .i64 d.en, .int .i64 d.tick, .bool d.ok, .int .i64 d.val] 29)).cell? ⟨w.heap.size, 9, none⟩ = some (.int .i64 d.en) := Blk.cell (i := 9) HB.out.1 rfl
  unfold CV enc
  go_enter Try.func35, Try.ntmps35
  go_wp2_with fail
  go_ret
  exact ⟨rfl, HB.out.2⟩
end Go.Proofs.Ytbjkpiobfiebhaa.Hs
