/-
  Package prog: a call with its own numbers alone.
  No condition.
-/
import Derived.Test.YtbjkpiobfiebhaaPrgA
import Derived.Test.YtbjkpiobfiebhaaSegC
namespace Go.Proofs.Ytbjkpiobfiebhaa.Prg
open Go.RowKit Go.Shelf Go.Seg Go.Open Go.Lib
attribute [local go_sem] Oper.semAt_some

/-- A call, bare. -/
def bareF (f : Nat → Int) (j : Nat) : Int := if 0 ≤ f 0 ∧ f 0 ≤ 7 then (if j = 0 ∨ j ∈ ownL (f 0) then f j else 0) else 0
def RI : Row.Ty Try.prog := ⟨35, 3, .int .i64 0, 1, 8, Try.underlying35, by kernel_rfl, rfl, by decide, by decide⟩
/-- What lies there while the places are gone through: the numbers that have come. -/
def BI (w : World) (B : Nat) (f : Nat → Int) (N0 N1 N2 : Nat) (pre : List Nat) (W : World) : Prop :=
  ((∃ v, Boxed W B 35 v ∧ W.ownsRow w.heap.size 3 1 v pre.length (pre.map fun j => Value.int .i64 (f j)) ∧ True) ∧ (Blk W N0 (#[.int .i64 (f 0), .int .i64 (f 1), .int .i64 (f 2), .int .i64 (f 3), .int .i64 (f 4)]) 27 ∧ Blk W N1 #[.int .i64 0, .int .i64 0, .int .i64 0, .int .i64 0, .int .i64 0] 27 ∧ Blk W N2 #[.int .i64 (f 0), .int .i64 0, .int .i64 0, .int .i64 0, .int .i64 0] 27)) ∧ Below w.heap.size w W
theorem blk_own {β : Type} (b : Nat) (E : TypeId) (cs : β → Array Value) (B : Nat) : OwnFrom B (fun s W => Blk W b (cs s) E) := fun s W W' row hs hg hr => by
  dsimp only at hs ⊢
  unfold Blk at *
  rw [hg.block b (Array.getElem?_eq_some_iff.1 hs).1 (fun e => by
    obtain ⟨_, o, ho, hc⟩ := hr b e.symm
    rw [ho] at hs; cases hs; cases hc)]
  exact hs
theorem BI.own (w : World) (B : Nat) (f : Nat → Int) (N0 N1 N2 : Nat) {n : Nat} (hn : w.heap.size ≤ n) : OwnFrom n (BI w B f N0 N1 N2) :=
  OwnFrom.and (OwnFrom.and (Own.from (holdsRow_own w.heap.size B 35 3 1 (fun pre : List Nat => pre.length) (fun pre => pre.map fun j => Value.int .i64 (f j)) (fun _ _ => True)) _) (OwnFrom.and (blk_own _ _ _ _) (OwnFrom.and (blk_own _ _ _ _) (blk_own _ _ _ _)))) (ownFrom_below (Nat.le_refl _) hn)

/-- The numbers that have come, in a bare call. -/
def outF (f : Nat → Int) (pre : List Nat) (j : Nat) : Int := if j = 0 ∨ j ∈ pre then f j else 0
theorem outF_all (f : Nat → Int) (h : 0 ≤ f 0 ∧ f 0 ≤ 7) (j : Nat) : outF f (ownL (f 0)) j = bareF f j := by unfold outF bareF; rw [if_pos h]
/-- What lies there while they are put into the bare call. -/
def CI (w : World) (f : Nat → Int) (B N1 N2 g n cv D : Nat) (cur : Array Value) (pre : List Nat) (W : World) : Prop :=
  ((∃ a, Boxed W B 35 (.slice a (n - pre.length) (cv - pre.length)) ∧ (pre.length < n → a = some ⟨g, pre.length, none⟩)) ∧ (0 < n → Blk W g cur 3)) ∧ (Blk W N1 #[.int .i64 0, .int .i64 0, .int .i64 0, .int .i64 0, .int .i64 0] 27 ∧ Blk W N2 (#[.int .i64 ((outF f pre) 0), .int .i64 ((outF f pre) 1), .int .i64 ((outF f pre) 2), .int .i64 ((outF f pre) 3), .int .i64 ((outF f pre) 4)]) 27) ∧ (W.heap[D]? = some (.deferred (some [])) ∧ Below w.heap.size w W)
theorem CI.own (w : World) (f : Nat → Int) (B N1 N2 g n cv D : Nat) (cur : Array Value) {m : Nat} (hn : w.heap.size ≤ m) (hD : D < m) : OwnFrom m (CI w f B N1 N2 g n cv D cur) :=
  OwnFrom.and (OwnFrom.and (fun s W W' row hs hg hr => by
      obtain ⟨a, hb, ha⟩ := hs
      exact ⟨a, Own.from (boxed_own B 35 (fun _ : Unit => _)) _ () W W' row hb hg hr, ha⟩)
    (fun s W W' row hs hg hr h => blk_own (β := Unit) g 3 (fun _ => cur) m () W W' row (hs h) hg hr))
    (OwnFrom.and (OwnFrom.and (blk_own _ _ _ _) (blk_own _ _ (fun pre => #[.int .i64 ((outF f pre) 0), .int .i64 ((outF f pre) 1), .int .i64 ((outF f pre) 2), .int .i64 ((outF f pre) 3), .int .i64 ((outF f pre) 4)]) _)) (OwnFrom.and (ownFrom_block hD _) (ownFrom_below (Nat.le_refl _) hn)))
theorem ownL_lt {k : Int} {j : Nat} (h : j ∈ ownL k) : j < 5 := by
  unfold ownL at h
  split at h
  · simp at h; omega
  · split at h
    · simp at h; omega
    · split at h
      · simp at h; omega
      · simp at h
theorem ownL_pos {k : Int} {j : Nat} (h : j ∈ ownL k) : 0 < j := by
  unfold ownL at h
  split at h
  · simp at h; omega
  · split at h
    · simp at h; omega
    · split at h
      · simp at h; omega
      · simp at h
theorem ownL_len (k : Int) : (ownL k).length ≤ 4 := by
  unfold ownL
  repeat' split
  all_goals simp
theorem opa_at (f : Nat → Int) (j : Nat) (h : j < 5) : (#[.int .i64 (f 0), .int .i64 (f 1), .int .i64 (f 2), .int .i64 (f 3), .int .i64 (f 4)] : Array Value)[j]? = some (.int .i64 (f j)) := by
  match j, h with
  | 0, _ => rfl
  | 1, _ => rfl
  | 2, _ => rfl
  | 3, _ => rfl
  | 4, _ => rfl
theorem opa_set (f : Nat → Int) (pre : List Nat) (j : Nat) (h : j < 5) (h0 : 0 < j) : (#[.int .i64 ((outF f pre) 0), .int .i64 ((outF f pre) 1), .int .i64 ((outF f pre) 2), .int .i64 ((outF f pre) 3), .int .i64 ((outF f pre) 4)] : Array Value).setIfInBounds j (.int .i64 (f j)) = #[.int .i64 ((outF f (pre ++ [j])) 0), .int .i64 ((outF f (pre ++ [j])) 1), .int .i64 ((outF f (pre ++ [j])) 2), .int .i64 ((outF f (pre ++ [j])) 3), .int .i64 ((outF f (pre ++ [j])) 4)] := by
  have e : ∀ i, i ≠ j → outF f pre i = outF f (pre ++ [j]) i := fun i hi => by unfold outF; simp [hi]
  have e' : f j = outF f (pre ++ [j]) j := by unfold outF; simp
  match j, h, h0 with
  | 1, _, _ => rw [e', e 0 (by decide), e 2 (by decide), e 3 (by decide), e 4 (by decide)]; rfl
  | 2, _, _ => rw [e', e 0 (by decide), e 1 (by decide), e 3 (by decide), e 4 (by decide)]; rfl
  | 3, _, _ => rw [e', e 0 (by decide), e 1 (by decide), e 2 (by decide), e 4 (by decide)]; rfl
  | 4, _, _ => rw [e', e 0 (by decide), e 1 (by decide), e 2 (by decide), e 3 (by decide)]; rfl
theorem blk_ne {W : World} {b b' : Nat} {cs cs' : Array Value} {t t' : TypeId} (h : Blk W b cs t) (h' : Blk W b' cs' t') (ht : t ≠ t') : b ≠ b' := fun e => by
  subst e
  have := (show W.heap[b]? = _ from h).symm.trans h'
  simp at this
  exact ht this.2
theorem blk_chg1 {W W' : World} {b b' : Nat} {cs : Array Value} {t : TypeId} (h : Blk W b cs t) (hc : Chg (· = b') W W') (hn : b ≠ b') : Blk W' b cs t := (hc.block b h.lt (fun e => hn e)).trans h
theorem _root_.Go.Open.Chg.drew1 {S : Nat → Prop} {W W' : World} (h : Chg S W.drew W') : Chg S W W' := ⟨h.os, h.tape, h.output, h.size, h.block⟩
theorem kp_b {n₀ : Nat} {w : World} (hn : n₀ ≤ w.heap.size) : ∀ (W : World) (l : Nat) (o o' : Obj), w.heap.size ≤ l → W.heap[l]? = some o → o.isCells = false → o.isWalk = false → Below n₀ W (W.putObj l o') := fun W l o o' hl ho hc hw => belowK_b (w := w) hn W l o o' hl ho hc hw
theorem _root_.Go.Open.blk_at {w : World} {cs : Array Value} {E k : Nat} (h : k = w.heap.size) : Blk (w.alloc (.cells cs E)) k cs E := h ▸ Blk.new w cs E
theorem _root_.Go.Open.Blk.al {w : World} {b : Nat} {cs : Array Value} {E : TypeId} (h : Blk w b cs E) (o : Obj) : Blk (w.alloc o) b cs E := h.ext ((Below.refl _ _).alloc (Nat.le_refl _) _)
theorem _root_.Go.Row.allocs5 (w : World) (a b c d e : Obj) : Ext w (((((w.alloc a).alloc b).alloc c).alloc d).alloc e) :=
  ((((((Below.refl _ _).alloc (Nat.le_refl _) _).alloc (by simp) _).alloc (by simp; omega) _).alloc (by simp; omega) _).alloc (by simp; omega) _)
theorem blk_not_row {W : World} {b : Nat} {cs : Array Value} {t e : TypeId} (h : Blk W b cs t) (hte : t ≠ e) {base size k : Nat} {v : Value} {xs : List Value} (hr : W.ownsRow base e size v k xs) : some b ≠ v.ownBlock := by
  rcases hr.2 with ⟨rfl, _⟩ | ⟨g, cap, cur, rfl, _, hgb, _⟩
  · simp [Value.ownBlock]
  · intro e'
    obtain rfl : b = g := by simpa [Value.ownBlock] using e'
    have := (show W.heap[b]? = _ from h).symm.trans hgb
    simp at this
    exact hte this.2
theorem keepsTy_row {W W' : World} {E e : TypeId} {base size k : Nat} {v : Value} {xs : List Value} (h : W.ownsRow base e size v k xs) (he : e ≠ E) (hg : W.grownBy W' v.ownBlock) : KeepsTy E W W' := keepsTy_grown hg (fun j hj cs f hc => by
  rcases h.2 with ⟨rfl, _⟩ | ⟨g, cap, cur, rfl, _, hgb, _⟩
  · simp [Value.ownBlock] at hj
  · obtain rfl : g = j := by simpa [Value.ownBlock] using hj
    have := hgb.symm.trans hc
    simp at this
    exact he this.2.1)
theorem blk_put {W : World} {b D : Nat} {cs : Array Value} {t : TypeId} {o : Obj} (h : Blk W b cs t) (hne : b ≠ D) : Blk (W.putObj D o) b cs t := by
  unfold Blk at *
  rw [World.putObj_heap_other hne]
  exact h
theorem results_struct1 {P : Program} {fn : Func} {p : Tmp} {ty : TypeId} (h : fn.results = #[.cell p ty]) {tmps : Array Value} {k : Nat} {c : Array Value} {W : World}
    (hp : tmps.getD p undef = .pointer (some ⟨k, 0, none⟩)) (hB : Blk W k c ty)
    (hd : (match P.underlying ty with | some (.struct _) | some (.array _ _) => true | _ => false) = true) (hi : (P.info? ty).map (·.size) = some c.size) :
    (results fn tmps).run P W = .ok (.agg c) W := by
  simp only [results, h]
  simp [Sem.run_bind, Result.andThen]
  rw [show tmps[p]?.getD undef = .pointer (some ⟨k, 0, none⟩) by simpa using hp]
  simp only [asAddr, Sem.run_pure]
  cases hu : P.underlying ty with
  | none => simp [hu] at hd
  | some d =>
  rw [run_loadVar_row W k ty ty c (0, 0) d hB hu (by rw [hu] at hd; cases d <;> first | rfl | exact hd) hi]
theorem blk_grown {W W' : World} {b : Nat} {cs : Array Value} {t : TypeId} {row : Option Nat} (h : Blk W b cs t) (hg : W.grownBy W' row) (hne : some b ≠ row) : Blk W' b cs t := (hg.block b h.lt hne).trans h
theorem blk_other {W : World} {b B : Nat} {cs : Array Value} {t : TypeId} (h : Blk W b cs t) (hne : b ≠ B) (i : Nat) (u : Value) : Blk (W.setCell ⟨B, i, none⟩ u) b cs t := by
  unfold Blk at *
  rw [Below.heap_setCell _ _ _ _ (show b ≠ B from hne)]; exact h

set_option maxRecDepth 100000 in
set_option maxHeartbeats 4000000 in
theorem Bare_known (f : Nat → Int) (w : World) (h : 0 ≤ f 0 ∧ f 0 ≤ 7) :
    Calls Try.prog 48 #[.agg #[.int .i64 (f 0), .int .i64 (f 1), .int .i64 (f 2), .int .i64 (f 3), .int .i64 (f 4)]] w fun e w' => e = .returned (.agg #[.int .i64 ((bareF f) 0), .int .i64 ((bareF f) 1), .int .i64 ((bareF f) 2), .int .i64 ((bareF f) 3), .int .i64 ((bareF f) 4)]) ∧ Ext w w' := by
  have HK := Lib.hid h
  clear h
  refine (callsIn_wide (n := 4)).1 ?_
  refine callsIn_of_wp_marks Try.func48 rfl trivial ?_ rfl
  simp only [Try.ntmps48, List.size_toArray, List.length_cons, List.length_nil, Nat.reduceAdd, Nat.reduceSub, Array.replicate_succ, Array.replicate_zero, List.push_toArray, List.append_toArray, List.nil_append, List.cons_append]
  refine wpIn_wide.2 ?_
  go_wp2_with fail
  refine (known_yes HK.out _).mono ?_
  rintro e w' ⟨rfl, rfl⟩
  go_wp2_with fail
  refine (own_mk _ _).mono ?_
  rintro e w' ⟨rfl, rfl⟩
  go_wp2_with fail
  obtain ⟨W5, hW5⟩ : ∃ W, (((((w.alloc (.cells (#[.int .i64 (f 0), .int .i64 (f 1), .int .i64 (f 2), .int .i64 (f 3), .int .i64 (f 4)]) 27)).alloc (.cells #[.int .i64 0, .int .i64 0, .int .i64 0, .int .i64 0, .int .i64 0] 27)).alloc (.cells #[.int .i64 (f 0), .int .i64 0, .int .i64 0, .int .i64 0, .int .i64 0] 27)).alloc (.cells #[.slice none 0 0] 35)).alloc (.cells #[.pointer (some ⟨w.heap.size, 0, none⟩)] 66)) = W := ⟨_, rfl⟩
  have g0 : Blk W5 w.heap.size (#[.int .i64 (f 0), .int .i64 (f 1), .int .i64 (f 2), .int .i64 (f 3), .int .i64 (f 4)]) 27 := by rw [← hW5]; exact (((((Go.Open.blk_at rfl).al _).al _).al _).al _)
  have g1 : Blk W5 (w.heap.size + 1) #[.int .i64 0, .int .i64 0, .int .i64 0, .int .i64 0, .int .i64 0] 27 := by rw [← hW5]; exact ((((Go.Open.blk_at (by simp)).al _).al _).al _)
  have g2 : Blk W5 (w.heap.size + 1 + 1) #[.int .i64 (f 0), .int .i64 0, .int .i64 0, .int .i64 0, .int .i64 0] 27 := by rw [← hW5]; exact (((Go.Open.blk_at (by simp)).al _).al _)
  have g3 : Boxed W5 (w.heap.size + 1 + 1 + 1) 35 (.slice none 0 0) := by rw [← hW5]; exact ((Go.Open.blk_at (by simp)).al _)
  have g4 : Blk W5 (w.heap.size + 1 + 1 + 1 + 1) #[.pointer (some ⟨w.heap.size, 0, none⟩)] 66 := by rw [← hW5]; exact (Go.Open.blk_at (by simp))
  have hE5 : Ext w W5 := by rw [← hW5]; exact Row.allocs5 _ _ _ _ _ _
  have hz5 : W5.heap.size = w.heap.size + 5 := by rw [← hW5]; simp
  rw [hW5]
  have G := Lib.hid (And.intro g0 (And.intro g1 (And.intro g2 (And.intro g3 (And.intro g4 (And.intro hE5 hz5))))))
  clear hW5 g0 g1 g2 g3 g4 hE5 hz5
  refine wpIn_wide (n := 4).1 ?_
  refine wpIn_range_N (n := 4) (gf := 67) (lb := #[.pointer (some ⟨w.heap.size + 1 + 1 + 1 + 1, 0, none⟩)]) rfl (enters_of Try.func67 (by kernel_rfl) rfl)
    (own_N (4 - 1) _ w.heap.size (f 0) W5 (G.out.2.2.2.2.1.cell (i := 0) rfl) (G.out.1.cell (i := 0) rfl) G.out.2.2.2.2.1.lt G.out.1.lt) KeepsTy.trans KeepsTy.b (Below.refl _ _) (fun _ => rfl) (BI w (w.heap.size + 1 + 1 + 1) f w.heap.size (w.heap.size + 1) (w.heap.size + 1 + 1)) (fun _ _ _ => False)
    (BI.own _ _ _ _ _ _ (by have := G.out.2.2.2.2.2.2; omega)) (fun _ _ _ _ _ hs _ _ => hs) ⟨⟨⟨_, G.out.2.2.2.1, World.ownsRow_nil _ _ _ _, trivial⟩, G.out.1, G.out.2.1, G.out.2.2.1⟩, G.out.2.2.2.2.2.1⟩ ?hab ?done ?stop
  case hab =>
    apply Exists.intro
    refine ⟨?assign, ?body⟩
    case assign =>
      intro l x W K hK
      gi_wp2
      exact hK
    case body =>
      rintro lo pre j Wr hlo _ ⟨⟨⟨v, hbv, hrow, _⟩, hb0, hb1, hb2⟩, hB⟩ hpre
      have hj : j < 5 := ownL_lt (hpre.subset (by simp))
      have hlp : pre.length < 5 := by have h1 := hpre.length_le; have h2 := ownL_len (f 0); simp at h1; omega
      have hrow' : Row.Own RI Wr w.heap.size v pre.length (pre.map fun j => Value.int .i64 (f j)) := hrow
      obtain ⟨av, cv, rfl, _⟩ := hrow'.val
      have x0 : ∀ W, Ext Wr W → W.cell? ⟨w.heap.size, j, none⟩ = some (.int .i64 (f j)) := fun W hW => (hb0.ext hW).cell (opa_at f j hj)
      have x1 : ∀ W, Ext Wr W → W.cell? ⟨w.heap.size + 1 + 1 + 1, 0, none⟩ = some (.slice av pre.length cv) := fun W hW => (hW.cell (p := ⟨w.heap.size + 1 + 1 + 1, 0, none⟩) hbv.lt).trans hbv.cell
      have HBV := Lib.hid hbv
      have HRow := Lib.hid hrow'
      have H3 := Lib.hid (And.intro hb0 (And.intro hb1 hb2))
      have HB := Lib.hid hB
      have X0 := Lib.hid x0
      have X1 := Lib.hid x1
      have hA : Ext Wr ((Wr.alloc (.cells #[.int .i64 (f j)] 3)).drew) := Ext.trans ((Below.refl _ _).alloc (Nat.le_refl _) _) (Ext.drew _)
      have hszr := HB.out.size
      have HOwnA := Lib.hid (HRow.out.ext hA)
      have HLit := Lib.hid ((Row.own_lit RI Wr #[.int .i64 (f j)] rfl).ext (Ext.drew _))
      clear hbv hrow hrow' hb0 hb1 hb2 hB hpre x0 x1 hA hj
      gi_wp2
      refine SegR.wpIn_region_segs (n₀ := Wr.heap.size) (lr := lo) 5 [([4, 3], false), ([0, 2], true), ([0, 1], true)] (by kernel_rfl) (by kernel_rfl) (by kernel_rfl) ?_
      apply SegR.segsI_cons
      · intro W hW
        have y0 := X0.out W (Ext.trans (Ext.drew Wr) hW)
        have y1 := X1.out W (Ext.trans (Ext.drew Wr) hW)
        simp only [runsT, runsF, rep, pick]
        go_wp2_with fail
        exact ⟨rfl, rfl⟩
      simp only [runsT, runsF, rep, left]
      gi_wp2
      refine ⟨fun _ => ⟨rfl, rfl, rfl, (by simp), fun k hk => Below.heap_alloc Wr _ k hk⟩, ?_⟩
      apply SegR.segsI_cons
      · intro W hW
        exact ⟨rfl, rfl⟩
      simp only [runsT, runsF, rep, left]
      gi_wp2_with (gi_at_builtin; refine Row.wpListIn_app1 RI _ rfl _ _ rfl w.heap.size _ _ _ rfl HOwnA.out Wr.heap.size Wr.heap.size 1 [.int .i64 (f j)] rfl HLit.out (by intro u hu; simp at hu; subst hu; rfl) (by omega) (by simp; omega) ?_)
      intro a1 c1' w1 hO1 hG1
      have hG1' : (Wr.alloc (.cells #[.int .i64 (f j)] 3)).grownBy w1 (Value.slice av pre.length cv).ownBlock := ⟨hG1.os, hG1.tape, hG1.output, hG1.size, hG1.block⟩
      obtain ⟨k1, k2, k3, k4, k5⟩ := Boxed.appended HBV.out (by decide) HRow.out hszr (Nat.le_succ_of_le (Nat.le_succ_of_le (Nat.le_succ _))) hO1 hG1'
      have n0 := blk_grown (H3.out.1.al (.cells #[.int .i64 (f j)] 3)) hG1' (blk_not_row H3.out.1 (by decide) HRow.out)
      have n1 := blk_grown (H3.out.2.1.al (.cells #[.int .i64 (f j)] 3)) hG1' (blk_not_row H3.out.2.1 (by decide) HRow.out)
      have n2 := blk_grown (H3.out.2.2.al (.cells #[.int .i64 (f j)] 3)) hG1' (blk_not_row H3.out.2.2 (by decide) HRow.out)
      have hkt : KeepsTy 67 Wr w1 := (keepsTy_alloc _ _ _).trans (keepsTy_row (HRow.out.ext ((Below.refl _ _).alloc (Nat.le_refl _) _)) (by decide) hG1')
      have e1 := k1.cell
      have e2 := k1.frozen
      have HE1 := Lib.hid (And.intro k1 (And.intro k2 (And.intro k3 (And.intro k4 (And.intro k5 (And.intro n0 (And.intro n1 (And.intro n2 hkt))))))))
      clear k1 k2 k3 k4 k5 n0 n1 n2 hkt hO1 hG1 hG1'
      gi_wp2
      refine ⟨fun h => (by cases h), ?_⟩
      apply SegR.segsI_cons
      · intro W hW
        exact ⟨rfl, rfl⟩
      simp only [runsT, runsF, rep, left]
      gi_wp2
      refine ⟨fun h => (by cases h), ?_⟩
      apply SegR.segsI_nil
      obtain ⟨k1, k2, k3, k4, k5, n0, n1, n2, hkt⟩ := HE1.out
      exact ⟨k4.from _, hkt.trans (keepsTy_set k1 (by decide) 0 _), ⟨⟨_, k2, by rw [List.length_append, List.map_append]; exact k3, trivial⟩, blk_other n0 (by omega) _ _, blk_other n1 (by omega) _ _, blk_other n2 (by omega) _ _⟩, HB.out.trans k5⟩
  case done =>
    rintro D xs W6 hD rfl ⟨⟨⟨v, hbv, hrow, -⟩, hb0, hb1, hb2⟩, hB⟩ hK
    have hrow' : Row.Own RI W6 w.heap.size v (ownL (f 0)).length ((ownL (f 0)).map fun j => Value.int .i64 (f j)) := hrow
    obtain ⟨g, cv, cur, av, rfl, hav, hg, hcv, hcur⟩ : ∃ (g cv : Nat) (cur : Array Value) (av : Option Addr), v = .slice av (ownL (f 0)).length cv ∧ (0 < (ownL (f 0)).length → av = some ⟨g, 0, none⟩) ∧ (0 < (ownL (f 0)).length → Blk W6 g cur 3) ∧ (ownL (f 0)).length ≤ cv ∧ (0 < (ownL (f 0)).length → cur.toList.take (ownL (f 0)).length = (ownL (f 0)).map fun j => Value.int .i64 (f j)) := by
      rcases hrow'.2 with ⟨rfl, h0⟩ | ⟨g, cap, cur, rfl, _, hgb, h1, h2, h3, h4⟩
      · exact ⟨0, 0, #[], none, by rw [h0], fun h => by omega, fun h => by omega, by omega, fun h => by omega⟩
      · exact ⟨g, cap, cur, _, rfl, fun _ => rfl, fun _ => hgb, h1, fun _ => by simpa [RI] using h4⟩
    have hlt6 : w.heap.size + 1 + 1 < W6.heap.size := hb2.lt
    have x2 := hb2
    have HC := Lib.hid hcur
    have HG := Lib.hid (And.intro hav (And.intro hg hcv))
    have H6 := Lib.hid (And.intro hbv (And.intro hb1 (And.intro hb2 (And.intro hB hK))))
    have HD := Lib.hid hD
    clear hbv hrow hrow' hb0 hb1 hb2 hB hK hav hg hcv hcur x2 hD
    rename_i Kk hKk
    refine hKk _ _ ?_
    clear hKk
    go_wp2_with fail
    refine (own_mk _ _).mono ?_
    rintro e w' ⟨rfl, rfl⟩
    go_wp2_with fail
    obtain ⟨W7, hW7⟩ : ∃ W, W6.alloc (.cells #[.pointer (some ⟨w.heap.size + 1 + 1, 0, none⟩)] 66) = W := ⟨_, rfl⟩
    have hE7 : Ext W6 W7 := by rw [← hW7]; exact (Below.refl _ _).alloc (Nat.le_refl _) _
    have hx7 : Blk W7 W6.heap.size #[.pointer (some ⟨w.heap.size + 1 + 1, 0, none⟩)] 66 := by rw [← hW7]; exact Blk.new _ _ _
    have hz7 : W7.heap.size = W6.heap.size + 1 := by rw [← hW7]; simp
    rw [hW7]
    have H7 := Lib.hid (And.intro hE7 (And.intro hx7 hz7))
    have hDz : D < W6.heap.size := (Array.getElem?_eq_some_iff.1 H6.out.2.2.2.2).1
    clear hW7 hE7 hx7 hz7
    refine wpIn_wide (n := 4).1 ?_
    refine wpIn_range_N (n := 4) (gf := 67) (lb := #[.pointer (some ⟨W6.heap.size, 0, none⟩)]) rfl (enters_of Try.func67 (by kernel_rfl) rfl)
      (own_N (4 - 1) _ (w.heap.size + 1 + 1) (f 0) W7 (H7.out.2.1.cell (i := 0) rfl) ((H6.out.2.2.1.ext H7.out.1).cell (i := 0) rfl) H7.out.2.1.lt (H6.out.2.2.1.ext H7.out.1).lt) KeepsTy.trans KeepsTy.b (Below.refl _ _) (fun _ => rfl) (CI w f (w.heap.size + 1 + 1 + 1) (w.heap.size + 1) (w.heap.size + 1 + 1) g (ownL (f 0)).length cv D cur) (fun _ _ _ => False)
      (CI.own _ _ _ _ _ _ _ _ _ _ (by have := H7.out.2.2; omega) (by have := H7.out.2.2; omega)) (fun _ _ _ _ _ hs _ _ => hs) ?h02 ?hab2 ?done2 ?stop2
    case h02 =>
      refine ⟨⟨⟨av, ?_, HG.out.1⟩, fun h => (HG.out.2.1 h).ext H7.out.1⟩, ⟨H6.out.2.1.ext H7.out.1, H6.out.2.2.1.ext H7.out.1⟩, (H7.out.1.block D hDz).trans H6.out.2.2.2.2, H6.out.2.2.2.1.trans (H7.out.1.mono (by omega))⟩
      exact (show Blk W6 _ _ _ from H6.out.1).ext H7.out.1
    case hab2 =>
      apply Exists.intro
      refine ⟨?assign2, ?body2⟩
      case assign2 =>
        intro l x W K hK
        gi_wp2
        exact hK
      case body2 =>
        rintro lo pre j Wr hlo _ ⟨⟨⟨a, hbv, ha⟩, hg⟩, ⟨hb1, hb2⟩, hK2, hB⟩ hpre
        have hj : j ∈ ownL (f 0) := hpre.subset (by simp)
        have hlp : pre.length < (ownL (f 0)).length := by have h1 := hpre.length_le; simp at h1; omega
        have hLj : (ownL (f 0))[pre.length]'hlp = j := by
          obtain ⟨r, hr⟩ := hpre
          simp [← hr]
        obtain rfl := ha hlp
        have hg' := hg (by omega)
        have hcell : cur[pre.length]? = some (.int .i64 (f j)) := by
          have h4 := HC.out (by omega)
          have : (cur.toList.take (ownL (f 0)).length)[pre.length]? = some (.int .i64 (f j)) := by rw [h4]; simp [hlp, hLj]
          rw [List.getElem?_take, if_pos hlp] at this
          simpa using this
        obtain ⟨m, hm⟩ : ∃ m, (ownL (f 0)).length - pre.length = m + 1 := ⟨(ownL (f 0)).length - pre.length - 1, by omega⟩
        obtain ⟨c, hc⟩ : ∃ c, cv - pre.length = c + 1 := ⟨cv - pre.length - 1, by have := HG.out.2.2; omega⟩
        have hcm : m ≤ c := by have := HG.out.2.2; omega
        rw [hm, hc] at hbv
        have HM := Lib.hid (And.intro hm hc)
        have x0 : ∀ W, Chg (· = w.heap.size + 1 + 1) Wr W → W.cell? ⟨g, pre.length, none⟩ = some (.int .i64 (f j)) := fun W hW => (blk_chg1 hg' hW (blk_ne hg' hb2 (by decide))).cell hcell
        have x1 : ∀ W, Chg (· = w.heap.size + 1 + 1) Wr W → W.cell? ⟨w.heap.size + 1 + 1 + 1, 0, none⟩ = some (.slice (some ⟨g, pre.length, none⟩) (m + 1) (c + 1)) := fun W hW => (blk_chg1 (show Blk Wr _ _ _ from hbv) hW (by omega)).cell (i := 0) rfl
        have HBV := Lib.hid hbv
        have H3 := Lib.hid (And.intro hb1 (And.intro hb2 (And.intro hg hK2)))
        have HB := Lib.hid hB
        have X0 := Lib.hid x0
        have X1 := Lib.hid x1
        have hf : ∀ i, Wr.frozen? ⟨w.heap.size + 1 + 1, i, none⟩ = false := fun i => hb2.frozen i
        have hj5 := ownL_lt hj
        have hj0 := ownL_pos hj
        clear hbv hb1 hb2 hg hg' hB hpre x0 x1 hm hc hcell hj hLj hK2
        have hfo := hf j
        have hfl := HBV.out.frozen
        have z0 := H3.out.2.1.cell (opa_at (outF f pre) j hj5)
        have z1 := X1.out Wr (Chg.refl _)
        have hF : ∀ u : Value, Blk (((Wr.drew.setCell ⟨w.heap.size + 1 + 1, j, none⟩ (.int .i64 (f j))).setCell ⟨w.heap.size + 1 + 1 + 1, 0, none⟩ u)) (w.heap.size + 1 + 1) (#[.int .i64 ((outF f (pre ++ [j])) 0), .int .i64 ((outF f (pre ++ [j])) 1), .int .i64 ((outF f (pre ++ [j])) 2), .int .i64 ((outF f (pre ++ [j])) 3), .int .i64 ((outF f (pre ++ [j])) 4)]) 27 := fun u =>
          blk_other (H3.out.2.1.set j _ (opa_set f pre j hj5 hj0)) (by omega) _ _
        have hP : ∀ u : Value, KeepsFrom W7.heap.size Wr ((Wr.drew.setCell ⟨w.heap.size + 1 + 1, j, none⟩ (.int .i64 (f j))).setCell ⟨w.heap.size + 1 + 1 + 1, 0, none⟩ u) ∧ KeepsTy 67 Wr ((Wr.drew.setCell ⟨w.heap.size + 1 + 1, j, none⟩ (.int .i64 (f j))).setCell ⟨w.heap.size + 1 + 1 + 1, 0, none⟩ u) := fun u =>
          ⟨((KeepsOthers.drew Wr).trans ((KeepsOthers.setCell _ _ _).trans (KeepsOthers.setCell _ _ _))).from _, (keepsTy_drew _ _).trans ((keepsTy_set H3.out.2.1 (by decide) j _).trans (keepsTy_set (blk_other (show Blk Wr _ _ _ from HBV.out) (by omega) _ _) (by decide) 0 _))⟩
        have hR : ∀ u : Value, (0 < (ownL (f 0)).length → Blk ((Wr.drew.setCell ⟨w.heap.size + 1 + 1, j, none⟩ (.int .i64 (f j))).setCell ⟨w.heap.size + 1 + 1 + 1, 0, none⟩ u) g cur 3) ∧ Blk ((Wr.drew.setCell ⟨w.heap.size + 1 + 1, j, none⟩ (.int .i64 (f j))).setCell ⟨w.heap.size + 1 + 1 + 1, 0, none⟩ u) (w.heap.size + 1) #[.int .i64 0, .int .i64 0, .int .i64 0, .int .i64 0, .int .i64 0] 27 ∧ ((Wr.drew.setCell ⟨w.heap.size + 1 + 1, j, none⟩ (.int .i64 (f j))).setCell ⟨w.heap.size + 1 + 1 + 1, 0, none⟩ u).heap[D]? = some (.deferred (some [])) ∧ Below w.heap.size w ((Wr.drew.setCell ⟨w.heap.size + 1 + 1, j, none⟩ (.int .i64 (f j))).setCell ⟨w.heap.size + 1 + 1 + 1, 0, none⟩ u) ∧ Boxed ((Wr.drew.setCell ⟨w.heap.size + 1 + 1, j, none⟩ (.int .i64 (f j))).setCell ⟨w.heap.size + 1 + 1 + 1, 0, none⟩ u) (w.heap.size + 1 + 1 + 1) 35 u := fun u =>
          ⟨fun h => blk_other (blk_other (H3.out.2.2.1 h) (blk_ne (H3.out.2.2.1 h) H3.out.2.1 (by decide)) _ _) (blk_ne (H3.out.2.2.1 h) (show Blk Wr _ _ _ from HBV.out) (by decide)) _ _,
           blk_other (blk_other H3.out.1 (by omega) _ _) (by omega) _ _,
           (KeepsOthers.setCell _ _ _).same _ _ ((KeepsOthers.setCell _ _ _).same _ _ H3.out.2.2.2 rfl) rfl,
           ((HB.out.drew).setCell (p := ⟨w.heap.size + 1 + 1, j, none⟩) (show w.heap.size ≤ w.heap.size + 1 + 1 by omega) _).setCell (p := ⟨w.heap.size + 1 + 1 + 1, 0, none⟩) (show w.heap.size ≤ w.heap.size + 1 + 1 + 1 by omega) _,
           (blk_other (show Blk Wr _ _ _ from HBV.out) (by omega) _ _).set 0 _ rfl⟩
        have HF := Lib.hid hF
        have HP := Lib.hid hP
        have HR := Lib.hid hR
        clear hF hP hR hf
        rcases c with _ | c
        · obtain rfl : m = 0 := by omega
          gi_wp2
          refine SegC.wpIn_region_segs (Cl := (Chg (· = w.heap.size + 1 + 1))) (lr := lo) (fun W => Chg.refl W) Chg.trans 8 [([7, 2], false), ([0, 1], true)] (by kernel_rfl) (by kernel_rfl) (by kernel_rfl) ?_
          apply SegC.segsI_cons
          · intro W hW
            have y0 := X0.out W hW.drew1
            have y1 := X1.out W hW.drew1
            simp only [runsT, runsF, rep, pick]
            go_wp2_with fail
            exact ⟨rfl, rfl⟩
          simp only [runsT, runsF, rep, left]
          gi_wp2
          refine ⟨fun _ => Chg.set _ _ _ _, ?_⟩
          apply SegC.segsI_cons
          · intro W hW
            exact ⟨rfl, rfl⟩
          simp only [runsT, runsF, rep, left]
          gi_wp2
          refine ⟨fun h => (by cases h), ?_⟩
          apply SegC.segsI_nil
          exact ⟨(HP.out _).1, (HP.out _).2, ⟨⟨_, by have := HM.out; rw [List.length_append, List.length_singleton, show (ownL (f 0)).length - (pre.length + 1) = 0 by omega, show cv - (pre.length + 1) = 0 by omega]; exact (HR.out _).2.2.2.2, fun h => by have := HM.out; simp at h; omega⟩, (HR.out _).1⟩, ⟨(HR.out _).2.1, HF.out _⟩, (HR.out _).2.2.1, (HR.out _).2.2.2.1⟩
        · gi_wp2
          refine SegC.wpIn_region_segs (Cl := (Chg (· = w.heap.size + 1 + 1))) (lr := lo) (fun W => Chg.refl W) Chg.trans 8 [([7, 2], false), ([0, 1], true)] (by kernel_rfl) (by kernel_rfl) (by kernel_rfl) ?_
          apply SegC.segsI_cons
          · intro W hW
            have y0 := X0.out W hW.drew1
            have y1 := X1.out W hW.drew1
            simp only [runsT, runsF, rep, pick]
            go_wp2_with fail
            exact ⟨rfl, rfl⟩
          simp only [runsT, runsF, rep, left]
          gi_wp2
          refine ⟨fun _ => Chg.set _ _ _ _, ?_⟩
          apply SegC.segsI_cons
          · intro W hW
            exact ⟨rfl, rfl⟩
          simp only [runsT, runsF, rep, left]
          gi_wp2
          refine ⟨fun h => (by cases h), ?_⟩
          apply SegC.segsI_nil
          exact ⟨(HP.out _).1, (HP.out _).2, ⟨⟨_, by have := HM.out; rw [List.length_append, List.length_singleton, show (ownL (f 0)).length - (pre.length + 1) = m by omega, show cv - (pre.length + 1) = c + 1 by omega]; exact (HR.out _).2.2.2.2, fun h => by simp⟩, (HR.out _).1⟩, ⟨(HR.out _).2.1, HF.out _⟩, (HR.out _).2.2.1, (HR.out _).2.2.2.1⟩
    case done2 =>
      rintro D2 xs W8 hD2 rfl ⟨⟨-, -⟩, ⟨hb1, hb2⟩, hK1, hB⟩ hK2
      have hne : D ≠ D2 := by have := H7.out.2.2; omega
      have n1 : w.heap.size + 1 ≠ D := fun e => by subst e; exact absurd (hb1.symm.trans hK1) (by simp)
      have n2 : w.heap.size + 1 ≠ D2 := fun e => by subst e; exact absurd (hb1.symm.trans hK2) (by simp)
      obtain ⟨W9, hW9⟩ : ∃ W9, (((((W8.setCell ⟨w.heap.size + 1, 0, none⟩ (.int .i64 (outF f (ownL (f 0)) 0))).setCell ⟨w.heap.size + 1, 1, none⟩ (.int .i64 (outF f (ownL (f 0)) 1))).setCell ⟨w.heap.size + 1, 2, none⟩ (.int .i64 (outF f (ownL (f 0)) 2))).setCell ⟨w.heap.size + 1, 3, none⟩ (.int .i64 (outF f (ownL (f 0)) 3))).setCell ⟨w.heap.size + 1, 4, none⟩ (.int .i64 (outF f (ownL (f 0)) 4))) = W9 := ⟨_, rfl⟩
      have hb9 : Blk W9 (w.heap.size + 1) (#[.int .i64 ((outF f (ownL (f 0))) 0), .int .i64 ((outF f (ownL (f 0))) 1), .int .i64 ((outF f (ownL (f 0))) 2), .int .i64 ((outF f (ownL (f 0))) 3), .int .i64 ((outF f (ownL (f 0))) 4)]) 27 := by rw [← hW9]; exact ((((hb1.set 0 _ rfl).set 1 _ rfl).set 2 _ rfl).set 3 _ rfl).set 4 _ rfl
      have hc9 : Chg (· = w.heap.size + 1) W8 W9 := by rw [← hW9]; exact ((((Chg.set _ _ _ _).trans (Chg.set _ _ _ _)).trans (Chg.set _ _ _ _)).trans (Chg.set _ _ _ _)).trans (Chg.set _ _ _ _)
      have hk1 : W9.heap[D]? = some (.deferred (some [])) := (hc9.block D (Array.getElem?_eq_some_iff.1 hK1).1 (fun e => n1 e.symm)).trans hK1
      have hk2 : W9.heap[D2]? = some (.deferred (some [])) := (hc9.block D2 (Array.getElem?_eq_some_iff.1 hK2).1 (fun e => n2 e.symm)).trans hK2
      have hq2 : ∀ i, W8.cell? ⟨w.heap.size + 1 + 1, i, none⟩ = (#[.int .i64 ((outF f (ownL (f 0))) 0), .int .i64 ((outF f (ownL (f 0))) 1), .int .i64 ((outF f (ownL (f 0))) 2), .int .i64 ((outF f (ownL (f 0))) 3), .int .i64 ((outF f (ownL (f 0))) 4)] : Array Value)[i]? := fun i => hb2.cells i
      have hq1 : ∀ i, W8.cell? ⟨w.heap.size + 1, i, none⟩ = (#[.int .i64 0, .int .i64 0, .int .i64 0, .int .i64 0, .int .i64 0] : Array Value)[i]? := fun i => hb1.cells i
      have hf1 : ∀ i, W8.frozen? ⟨w.heap.size + 1, i, none⟩ = false := fun i => hb1.frozen i
      have HEnd := Lib.hid (And.intro hk1 (And.intro hk2 (And.intro hb9 (hB.trans (hc9.below (show w.heap.size ≤ W8.heap.size from hB.size) (fun i hi => by rw [hi]; exact Nat.le_succ _))))))
      have HW9 := Lib.hid hW9
      clear hb1 hb2 hK1 hK2 hB hk1 hk2 hb9 hc9 hW9
      rename_i Kk hKk
      refine hKk _ _ ?_
      clear hKk
      go_wp2_with fail
      rw [HW9.out]
      obtain ⟨k1, k2, k3, k4⟩ := HEnd.out
      have k1' : (W9.putObj D2 (.deferred none)).heap[D]? = some (.deferred (some [])) := by rw [World.putObj_heap_other hne]; exact k1
      have b1 := (kp_b (w := w) (Nat.le_refl _) W9 D2 _ (.deferred none) (by have := H7.out.2.2; omega) k2 rfl rfl)
      have b2 := (kp_b (w := w) (Nat.le_refl _) (W9.putObj D2 (.deferred none)) D _ (.deferred none) (by have := HD.out; have := G.out.2.2.2.2.2.2; omega) k1' rfl rfl)
      refine ⟨by simp, .inl ⟨_, _, rfl, run_takeDeferred k2, by simp, .inl ⟨_, _, rfl, run_takeDeferred k1', ?_⟩⟩⟩
      refine ⟨_, results_struct1 rfl rfl (blk_put (blk_put k3 n2) n1) (by kernel_rfl) (by kernel_rfl), ?_, (k4.trans b1).trans b2⟩
      simp only [outF_all f HK.out]
    case stop2 =>
      rintro D c pre W hD hpre h _
      exact h.elim
  case stop =>
    rintro D c pre W hD hpre h _
    exact h.elim
end Go.Proofs.Ytbjkpiobfiebhaa.Prg
