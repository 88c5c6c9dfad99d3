/-
  The document's answer for layer 22: Put.
  Fewer than 1,000,000 of each; no other condition.
-/
import Derived.Test.YtnpfikabcmngpaaShR4
namespace Go.Proofs.Ytnpfikabcmngpaa.ShR
open Go.RowKit Go.Seg Go.Open Go.Lib Rk Go.Row

/-- Laid ahead of the first one with a greater hash. -/
def insB {β : Type} (x : Int × β) : List (Int × β) → List (Int × β)
  | [] => [x]
  | y :: l => if y.1 > x.1 then x :: y :: l else y :: insB x l
theorem insB_app {β : Type} (x : Int × β) : ∀ (p q : List (Int × β)), (∀ y ∈ p, ¬ y.1 > x.1) → insB x (p ++ q) = p ++ insB x q
  | [], q, _ => rfl
  | y :: p, q, h => by
    rw [List.cons_append, insB, if_neg (h y (by simp)), insB_app x p q (fun z hz => h z (List.mem_cons_of_mem _ hz)), List.cons_append]
theorem insB_len {β : Type} (x : Int × β) : ∀ (l : List (Int × β)), (insB x l).length = l.length + 1
  | [] => rfl
  | y :: l => by
    simp only [insB]
    split
    · simp
    · simp [insB_len x l]
/-- Put's loop: what it has written down, whether the new one is among it. -/
def PutB {β : Type} (x : Int × β) (r : List (Int × β)) (n : Nat) (L : List (Int × β)) (dn : Bool) : Prop :=
  (dn = false → L = r.take n ∧ ∀ y ∈ r.take n, ¬ y.1 > x.1) ∧ (dn = true → L ++ r.drop n = insB x r)
section
variable {β : Type} {x : Int × β} {r : List (Int × β)} {n : Nat} {L : List (Int × β)} {dn : Bool}
theorem PutB.zero (x : Int × β) (r : List (Int × β)) : PutB x r 0 [] false := ⟨fun _ => ⟨rfl, fun y h => by simp at h⟩, fun h => by cases h⟩
theorem PutB.len (h : PutB x r n L dn) (hn : n ≤ r.length) : L.length ≤ n + 1 ∧ (dn = false → L.length = n) := by
  cases dn with
  | false =>
    have := (h.1 rfl).1
    rw [this, List.length_take]
    omega
  | true =>
    have := congrArg List.length (h.2 rfl)
    rw [List.length_append, List.length_drop, insB_len] at this
    exact ⟨by omega, fun h => by cases h⟩
theorem PutB.now (h : PutB x r n L false) (hn : n < r.length) (hx : r[n].1 > x.1) : PutB x r (n + 1) (L ++ [x, r[n]]) true := by
  obtain ⟨rfl, h2⟩ := h.1 rfl
  clear h
  refine ⟨fun h => (by cases h), fun _ => ?_⟩
  conv => rhs; rw [← List.take_append_drop n r]
  rw [insB_app x _ _ h2, List.drop_eq_getElem_cons hn]
  simp [insB, hx]
theorem PutB.not (h : PutB x r n L dn) (hn : n < r.length) (hx : dn = false → ¬ r[n].1 > x.1) : PutB x r (n + 1) (L ++ [r[n]]) dn := by
  refine ⟨fun hd => ?_, fun hd => ?_⟩
  · obtain ⟨rfl, h2⟩ := h.1 hd
    refine ⟨(take_snoc hn).symm, fun y hy => ?_⟩
    rw [take_snoc hn, List.mem_append, List.mem_singleton] at hy
    rcases hy with hy | rfl
    · exact h2 y hy
    · exact hx hd
  · have := h.2 hd
    rw [List.drop_eq_getElem_cons hn] at this
    rw [← this]
    simp
theorem PutB.last (h : PutB x r r.length L false) : L ++ [x] = insB x r := by
  obtain ⟨rfl, h2⟩ := h.1 rfl
  rw [List.take_length] at h2 ⊢
  have := insB_app x r [] h2
  rw [List.append_nil] at this
  rw [this]
  rfl
theorem PutB.done (h : PutB x r r.length L true) : L = insB x r := by
  have := h.2 rfl
  rwa [List.drop_length, List.append_nil] at this
end
/-- What Put's loop holds in the heap: the rows to copy, those copied. -/
structure PS (w1 : World) (uR uW v : Value) (L' : List (Int × En)) (W : World) : Prop where
  row : RowL W (w1.heap.size + 2) v L'
  ext : Ext w1 W
  src : Blk W w1.heap.size #[uR, uW] 30
  out : Blk W (w1.heap.size + 1) #[v, uW] 30
theorem PS.step {w1 : World} {uR uW v : Value} {L' : List (Int × En)} {W W' : World} (h : PS w1 uR uW v L' W) (e : Ext W W') : PS w1 uR uW v L' W' :=
  ⟨h.row.ext e, below_ext h.ext e, h.src.ext e, h.out.ext e⟩
theorem PS.kept {w1 : World} {uR uW v : Value} {L' : List (Int × En)} {W w2 : World} (h : PS w1 uR uW v L' W) (hb1 : ∀ k, v.ownBlock ≠ some k → k < W.heap.size → w2.heap[k]? = W.heap[k]?) : Blk w2 (w1.heap.size + 1) #[v, uW] 30 :=
  (hb1 _ (RowG.apart h.row (by omega)) h.out.lt).trans h.out
theorem PS.app {w1 : World} {uR uW v v' : Value} {L' : List (Int × En)} {y : Int × En} {W w2 : World} (h : PS w1 uR uW v L' W) (hO1 : RowL w2 (w1.heap.size + 2) v' (L' ++ [y])) (hE1 : Ext w1 w2) (hb1 : ∀ k, v.ownBlock ≠ some k → k < W.heap.size → w2.heap[k]? = W.heap[k]?) :
    PS w1 uR uW v' (L' ++ [y]) (w2.setCell ⟨w1.heap.size + 1, 0, none⟩ v') := by
  have hB := h.kept hb1
  have hS : Blk w2 w1.heap.size #[uR, uW] 30 := (hb1 _ (RowG.apart h.row (by omega)) h.src.lt).trans h.src
  refine ⟨RowG.chg hO1 (Chg.set w2 (w1.heap.size + 1) 0 v') (.one hB (by decide)), Below.setCell (p := ⟨w1.heap.size + 1, 0, none⟩) hE1 (show w1.heap.size ≤ w1.heap.size + 1 by omega) _, (Below.heap_setCell _ _ _ _ (by simp <;> omega)).trans hS, hB.set 0 v' rfl⟩

set_option maxRecDepth 100000 in
set_option maxHeartbeats 8000000 in
theorem rPut (uL uW : Value) (B : Nat) (L : List (Int × En)) (Wy : List (Int × Int × Int)) (e : Int × En) (w : World) (hL : RowL w B uL L) (hW : RowW w B uW Wy) (hl : L.length ≤ 999998) :
    Calls Try.prog 47 #[.agg #[uL, uW], .agg #[.int .u64 e.1, .int .u64 e.2.1, .int .i64 e.2.2.1, .int .i64 e.2.2.2.1, .int .i64 e.2.2.2.2.1, .int .i64 e.2.2.2.2.2.1, .int .i64 e.2.2.2.2.2.2]] w fun ee w' => ∃ uL', ee = .returned (.agg #[uL', uW]) ∧ RowL w' w.heap.size uL' (insB e (restR L e.1)) ∧ Ext w w' := by
  obtain ⟨a0, cap0, rfl⟩ := hL.val
  obtain ⟨a2, cap2, rfl⟩ := hW.val
  have HL := Lib.hid hL
  have HW := Lib.hid hW
  clear hL hW
  have hA : Ext w (((w.alloc (Obj.cells #[.slice a0 L.length cap0, .slice a2 Wy.length cap2] 30)).alloc (Obj.cells #[.int .u64 e.1, .int .u64 e.2.1, .int .i64 e.2.2.1, .int .i64 e.2.2.2.1, .int .i64 e.2.2.2.2.1, .int .i64 e.2.2.2.2.2.1, .int .i64 e.2.2.2.2.2.2] 35)).alloc (Obj.cells #[.slice none 0 0, .slice none 0 0] 30)) := (((Below.refl _ _).alloc (Nat.le_refl _) _).alloc (by simp) _).alloc (by simp; omega) _
  have HX := Lib.hid (show Blk (((w.alloc (Obj.cells #[.slice a0 L.length cap0, .slice a2 Wy.length cap2] 30)).alloc (Obj.cells #[.int .u64 e.1, .int .u64 e.2.1, .int .i64 e.2.2.1, .int .i64 e.2.2.2.1, .int .i64 e.2.2.2.2.1, .int .i64 e.2.2.2.2.2.1, .int .i64 e.2.2.2.2.2.2] 35)).alloc (Obj.cells #[.slice none 0 0, .slice none 0 0] 30)) (w.heap.size + 1) #[.int .u64 e.1, .int .u64 e.2.1, .int .i64 e.2.2.1, .int .i64 e.2.2.2.1, .int .i64 e.2.2.2.2.1, .int .i64 e.2.2.2.2.2.1, .int .i64 e.2.2.2.2.2.2] 35 from Blk.ext (blk_at (by simp)) ((Below.refl _ _).alloc (Nat.le_refl _) _))
  have HR := Lib.hid (show Blk (((w.alloc (Obj.cells #[.slice a0 L.length cap0, .slice a2 Wy.length cap2] 30)).alloc (Obj.cells #[.int .u64 e.1, .int .u64 e.2.1, .int .i64 e.2.2.1, .int .i64 e.2.2.2.1, .int .i64 e.2.2.2.2.1, .int .i64 e.2.2.2.2.2.1, .int .i64 e.2.2.2.2.2.2] 35)).alloc (Obj.cells #[.slice none 0 0, .slice none 0 0] 30)) (w.heap.size + 1 + 1) #[.slice none 0 0, .slice none 0 0] 30 from blk_at (by simp))
  have HP := Lib.hid (show Blk (((w.alloc (Obj.cells #[.slice a0 L.length cap0, .slice a2 Wy.length cap2] 30)).alloc (Obj.cells #[.int .u64 e.1, .int .u64 e.2.1, .int .i64 e.2.2.1, .int .i64 e.2.2.2.1, .int .i64 e.2.2.2.2.1, .int .i64 e.2.2.2.2.2.1, .int .i64 e.2.2.2.2.2.2] 35)).alloc (Obj.cells #[.slice none 0 0, .slice none 0 0] 30)) w.heap.size #[.slice a0 L.length cap0, .slice a2 Wy.length cap2] 30 from ((Blk.new _ _ _).ext ((Below.refl _ _).alloc (Nat.le_refl _) _)).ext ((Below.refl _ _).alloc (Nat.le_refl _) _))
  go_enter Try.func47, Try.ntmps47
  go_wp2_with fail
  refine (rRemove _ _ B L Wy e.1 _ (HL.out.ext hA) (HW.out.ext hA) (by omega)).mono ?_
  rintro ee w1 ⟨u1, rfl, hR1, hE1⟩
  have hlr := restR_len L e.1
  obtain ⟨r, hr⟩ : ∃ r, restR L e.1 = r := ⟨_, rfl⟩
  rw [hr] at hR1 hlr
  have HQ := Lib.hid hr
  obtain ⟨a, cap, b, F, rfl, _, ha, hF, hc⟩ := hR1.openG encS_len
  have HA := Lib.hid ha
  have HC := Lib.hid hc
  have HF := Lib.hid hF
  have HX1 := Lib.hid (HX.out.ext hE1)
  have HR1 := Lib.hid (HR.out.ext hE1)
  have HE1 := Lib.hid (below_ext hA hE1)
  have p0 := (HP.out.ext hE1).cell (i := 0) rfl
  have p1 := (HP.out.ext hE1).cell (i := 1) rfl
  have hlt1 : w.heap.size + 1 + 1 < w1.heap.size := HR1.out.lt
  have hlt0 : w.heap.size < w1.heap.size := by omega
  clear ha hc hF hR1 hE1 hr HX HR HP hA
  go_wp2_with fail
  obtain ⟨W1, hW1⟩ : ∃ W, (w1.alloc (.cells #[.slice a r.length cap, .slice a2 Wy.length cap2] 30)).alloc (.cells #[.slice none 0 0, .slice a2 Wy.length cap2] 30) = W := ⟨_, rfl⟩
  have hPS : PS w1 (.slice a r.length cap) (.slice a2 Wy.length cap2) (.slice none 0 0) [] W1 := by
    rw [← hW1]
    exact ⟨RowG.nil _ _, ((Below.refl _ _).alloc (Nat.le_refl _) _).alloc (by simp) _, (Blk.new _ _ _).ext ((Below.refl _ _).alloc (Nat.le_refl _) _), blk_at (by simp)⟩
  rw [hW1]
  have HPS := Lib.hid hPS
  clear hW1 hPS p0 p1
  go_loopg [7, 8] r.length (fun g dv i wr => ∃ (n : Nat) (v : Value) (L' : List (Int × En)) (dn : Bool), i = .int .i64 n ∧ n ≤ r.length ∧ dv = .bool dn ∧ Hid (PutB e r n L' dn) ∧ PS w1 (.slice a r.length cap) (.slice a2 Wy.length cap2) v L' wr ∧ r.length - n ≤ g)
  case atStart => exact ⟨0, _, [], false, rfl, Nat.zero_le _, rfl, Lib.hid (PutB.zero _ _), HPS.out, Nat.le_refl _⟩
  case round =>
    obtain ⟨n, v, L', dn, rfl, hn, rfl, HI, hS, hg⟩ := hrel
    obtain ⟨hLn, -⟩ := HI.out.len hn
    obtain ⟨av, cv, rfl⟩ := hS.row.val
    have HS := Lib.hid hS
    by_cases hik : n < r.length
    · obtain rfl := HA.out (by omega)
      have p0 := hS.src.cell (i := 0) rfl
      have HFn := Lib.hid (HF.out n hik)
      have HSd := Lib.hid (hS.step (Ext.drew wr))
      have HXd := Lib.hid (HX1.out.ext HSd.out.ext)
      have hltd := HSd.out.out.lt
      clear hS
      cases dn with
      | true =>
        have HI2 : Hid (PutB e r (n + 1) (L' ++ [F n]) true) := Lib.hid (by rw [HFn.out]; exact HI.out.not hik (fun h => by cases h))
        go_wp2_with fail
        clear p0
        refine wp_region_segsK [([4, 1, 1, 3, 1, 3], 0, 0), ([7], 2, 13)] (by kernel_rfl) (by kernel_rfl) ?_
        apply segsK_pure
        · intro W
          simp only [runsT, runsF, rep, pick]
          go_wp2_with fail
          exact ⟨rfl, rfl⟩
        simp only [runsT, runsF, rep, left]
        apply segsK_look
        · have q3 := HSd.out.src.cell (i := 0) rfl
          have x0 : wr.drew.cell? ⟨b, n * 7, none⟩ = some (.int .u64 (F n).1) := HC.out _ HSd.out.ext n hik 0 (by decide)
          have q1 := HXd.out.cell (i := 0) rfl
          simp only [runsT, runsF, rep, pick]
          go_wp2_with fail
          exact ⟨rfl, rfl⟩
        simp only [runsT, runsF, rep, left]
        apply segsK_nil
        go_wp2_with fail
        have HQd := Lib.hid (HSd.out.step (Ext.drew wr.drew))
        have hltq := HQd.out.out.lt
        refine wp_region_segsK [([1, 1, 1, 1, 1, 6], 0, 0), ([4, 4], 3, 8), ([1, 2], 1, 0), ([1, 1], 0, 0), ([1], 1, 0)] (by kernel_rfl) (by kernel_rfl) ?_
        apply segsK_pure
        · intro W
          simp only [runsT, runsF, rep, pick]
          go_wp2_with fail
          exact ⟨rfl, rfl⟩
        simp only [runsT, runsF, rep, left]
        apply segsK_class
        · intro W hW
          have q4 := (HQd.out.out.ext hW).cell (i := 0) rfl
          have q3 := (HQd.out.src.ext hW).cell (i := 0) rfl
          have hcn := HC.out _ (below_ext HQd.out.ext hW) n hik
          have x0 := hcn 0 (by decide)
          have x1 := hcn 1 (by decide)
          have x2 := hcn 2 (by decide)
          have x3 := hcn 3 (by decide)
          have x4 := hcn 4 (by decide)
          have x5 := hcn 5 (by decide)
          have x6 := hcn 6 (by decide)
          simp [encS, RSE] at x0 x1 x2 x3 x4 x5 x6
          clear hcn
          simp only [runsT, runsF, rep, pick]
          go_wp2_with fail
          exact ⟨rfl, rfl⟩
        simp only [runsT, runsF, rep, left]
        go_wp2_with fail
        refine ⟨fun _ => (Below.refl _ _).alloc (Nat.le_refl _) _, ?_⟩
        apply segsK_op
        refine appG (R := RSE) (f := encS) (W := wr.drew.drew) rfl _ _ rfl _ (L') rfl HQd.out.row (F n) _ rfl rfl (encS_one _) wr.drew.heap.size rfl rfl (by simp; omega) HQd.out.ext (Nat.le_add_right _ _) (show w1.heap.size + 2 ≤ wr.drew.drew.heap.size by omega) ?_
        intro a1 c1 w2 hO1 hE1 hz1 hb1
        have hB5 := HQd.out.kept hb1
        have z0 := hB5.cell (i := 0) rfl
        have z1 := hB5.frozen 0
        have HN := Lib.hid (HQd.out.app hO1 hE1 hb1)
        clear hO1 hE1 hz1 hb1 hB5
        go_wp2_with fail
        refine ⟨fun h => (by cases h), ?_⟩
        apply segsK_pure
        · intro W
          simp only [runsT, runsF, rep, pick]
          go_wp2_with fail
          exact ⟨rfl, rfl⟩
        simp only [runsT, runsF, rep, left]
        apply segsK_op
        go_wp2_with fail
        refine ⟨fun h => (by cases h), ?_⟩
        apply segsK_nil
        clear z0 z1
        go_wp2_with fail
        go_roundg (r.length - (n + 1))
        case measure => omega
        case rel => exact ⟨n + 1, _, L' ++ [F n], true, by go_num, by omega, rfl, HI2, HN.out, Nat.le_refl _⟩
      | false =>
        by_cases g1 : (F n).1 > e.1
        · have d : decide ((F n).1 > e.1) = true := decide_eq_true g1
          have HI2 : Hid (PutB e r (n + 1) (L' ++ [e, F n]) true) := Lib.hid (by rw [HFn.out]; exact HI.out.now hik (by rw [← HFn.out]; exact g1))
          clear g1
          go_wp2_with fail
          clear p0
          refine wp_region_segsK [([4, 1, 1, 3, 1, 3], 0, 0), ([7], 2, 13)] (by kernel_rfl) (by kernel_rfl) ?_
          apply segsK_pure
          · intro W
            simp only [runsT, runsF, rep, pick]
            go_wp2_with fail
            exact ⟨rfl, rfl⟩
          simp only [runsT, runsF, rep, left]
          apply segsK_look
          · have q3 := HSd.out.src.cell (i := 0) rfl
            have x0 : wr.drew.cell? ⟨b, n * 7, none⟩ = some (.int .u64 (F n).1) := HC.out _ HSd.out.ext n hik 0 (by decide)
            have q1 := HXd.out.cell (i := 0) rfl
            simp only [runsT, runsF, rep, pick]
            go_wp2_with fail
            exact ⟨rfl, rfl⟩
          simp only [runsT, runsF, rep, left]
          apply segsK_nil
          have q4 := HSd.out.out.cell (i := 0) rfl
          have k0 := HXd.out.cell (i := 0) rfl
          have kf0 := HXd.out.frozen 0
          have k1 := HXd.out.cell (i := 1) rfl
          have kf1 := HXd.out.frozen 1
          have k2 := HXd.out.cell (i := 2) rfl
          have kf2 := HXd.out.frozen 2
          have k3 := HXd.out.cell (i := 3) rfl
          have kf3 := HXd.out.frozen 3
          have k4 := HXd.out.cell (i := 4) rfl
          have kf4 := HXd.out.frozen 4
          have k5 := HXd.out.cell (i := 5) rfl
          have kf5 := HXd.out.frozen 5
          have k6 := HXd.out.cell (i := 6) rfl
          have kf6 := HXd.out.frozen 6
          go_wp2_with (at_builtin; refine appG (R := RSE) (f := encS) (W := wr.drew) rfl _ _ rfl _ L' rfl HSd.out.row e _ rfl rfl (encS_one _) wr.heap.size rfl rfl (by omega) HSd.out.ext (Nat.le_add_right _ _) (show w1.heap.size + 2 ≤ wr.drew.heap.size by omega) ?_)
          intro a3 c3 w3 hO3 hE3 hz3 hb3
          have hB4 := HSd.out.kept hb3
          clear q4
          have z0 := hB4.cell (i := 0) rfl
          have z1 := hB4.frozen 0
          have HN3 := Lib.hid (HSd.out.app hO3 hE3 hb3)
          clear hO3 hE3 hz3 hb3 hB4 k0 k1 k2 k3 k4 k5 k6 kf0 kf1 kf2 kf3 kf4 kf5 kf6
          go_wp2_with fail
          clear z0 z1
          obtain ⟨wq, hwq⟩ : ∃ W, w3.setCell ⟨w1.heap.size + 1, 0, none⟩ (.slice a3 (L'.length + 1) c3) = W := ⟨_, rfl⟩
          rw [hwq] at HN3 ⊢
          clear hwq
          have HQd := Lib.hid (HN3.out.step (Ext.drew wq))
          have hltq := HQd.out.out.lt
          refine wp_region_segsK [([1, 1, 1, 1, 1, 6], 0, 0), ([4, 4], 3, 8), ([1, 2], 1, 0), ([1, 1], 0, 0), ([1], 1, 0)] (by kernel_rfl) (by kernel_rfl) ?_
          apply segsK_pure
          · intro W
            simp only [runsT, runsF, rep, pick]
            go_wp2_with fail
            exact ⟨rfl, rfl⟩
          simp only [runsT, runsF, rep, left]
          apply segsK_class
          · intro W hW
            have q4 := (HQd.out.out.ext hW).cell (i := 0) rfl
            have q3 := (HQd.out.src.ext hW).cell (i := 0) rfl
            have hcn := HC.out _ (below_ext HQd.out.ext hW) n hik
            have x0 := hcn 0 (by decide)
            have x1 := hcn 1 (by decide)
            have x2 := hcn 2 (by decide)
            have x3 := hcn 3 (by decide)
            have x4 := hcn 4 (by decide)
            have x5 := hcn 5 (by decide)
            have x6 := hcn 6 (by decide)
            simp [encS, RSE] at x0 x1 x2 x3 x4 x5 x6
            clear hcn
            simp only [runsT, runsF, rep, pick]
            go_wp2_with fail
            exact ⟨rfl, rfl⟩
          simp only [runsT, runsF, rep, left]
          go_wp2_with fail
          refine ⟨fun _ => (Below.refl _ _).alloc (Nat.le_refl _) _, ?_⟩
          apply segsK_op
          refine appG (R := RSE) (f := encS) (W := wq.drew) rfl _ _ rfl _ (L' ++ [e]) rfl HQd.out.row (F n) _ rfl rfl (encS_one _) wq.heap.size rfl rfl (by simp; omega) HQd.out.ext (Nat.le_add_right _ _) (show w1.heap.size + 2 ≤ wq.drew.heap.size by omega) ?_
          intro a1 c1 w2 hO1 hE1 hz1 hb1
          have hB5 := HQd.out.kept hb1
          have z0 := hB5.cell (i := 0) rfl
          have z1 := hB5.frozen 0
          have HN := Lib.hid (HQd.out.app hO1 hE1 hb1)
          clear hO1 hE1 hz1 hb1 hB5
          go_wp2_with fail
          refine ⟨fun h => (by cases h), ?_⟩
          apply segsK_pure
          · intro W
            simp only [runsT, runsF, rep, pick]
            go_wp2_with fail
            exact ⟨rfl, rfl⟩
          simp only [runsT, runsF, rep, left]
          apply segsK_op
          go_wp2_with fail
          refine ⟨fun h => (by cases h), ?_⟩
          apply segsK_nil
          clear z0 z1
          go_wp2_with fail
          go_roundg (r.length - (n + 1))
          case measure => omega
          case rel => exact ⟨n + 1, _, L' ++ [e, F n], true, by go_num, by omega, rfl, HI2, by have := HN.out; simpa using this, Nat.le_refl _⟩
        · have d : decide ((F n).1 > e.1) = false := decide_eq_false g1
          have HI2 : Hid (PutB e r (n + 1) (L' ++ [F n]) false) := Lib.hid (by rw [HFn.out]; exact HI.out.not hik (fun _ => by rw [← HFn.out]; exact g1))
          clear g1
          go_wp2_with fail
          clear p0
          refine wp_region_segsK [([4, 1, 1, 3, 1, 3], 0, 0), ([7], 2, 13)] (by kernel_rfl) (by kernel_rfl) ?_
          apply segsK_pure
          · intro W
            simp only [runsT, runsF, rep, pick]
            go_wp2_with fail
            exact ⟨rfl, rfl⟩
          simp only [runsT, runsF, rep, left]
          apply segsK_look
          · have q3 := HSd.out.src.cell (i := 0) rfl
            have x0 : wr.drew.cell? ⟨b, n * 7, none⟩ = some (.int .u64 (F n).1) := HC.out _ HSd.out.ext n hik 0 (by decide)
            have q1 := HXd.out.cell (i := 0) rfl
            simp only [runsT, runsF, rep, pick]
            go_wp2_with fail
            exact ⟨rfl, rfl⟩
          simp only [runsT, runsF, rep, left]
          apply segsK_nil
          go_wp2_with fail
          have HQd := Lib.hid (HSd.out.step (Ext.drew wr.drew))
          have hltq := HQd.out.out.lt
          refine wp_region_segsK [([1, 1, 1, 1, 1, 6], 0, 0), ([4, 4], 3, 8), ([1, 2], 1, 0), ([1, 1], 0, 0), ([1], 1, 0)] (by kernel_rfl) (by kernel_rfl) ?_
          apply segsK_pure
          · intro W
            simp only [runsT, runsF, rep, pick]
            go_wp2_with fail
            exact ⟨rfl, rfl⟩
          simp only [runsT, runsF, rep, left]
          apply segsK_class
          · intro W hW
            have q4 := (HQd.out.out.ext hW).cell (i := 0) rfl
            have q3 := (HQd.out.src.ext hW).cell (i := 0) rfl
            have hcn := HC.out _ (below_ext HQd.out.ext hW) n hik
            have x0 := hcn 0 (by decide)
            have x1 := hcn 1 (by decide)
            have x2 := hcn 2 (by decide)
            have x3 := hcn 3 (by decide)
            have x4 := hcn 4 (by decide)
            have x5 := hcn 5 (by decide)
            have x6 := hcn 6 (by decide)
            simp [encS, RSE] at x0 x1 x2 x3 x4 x5 x6
            clear hcn
            simp only [runsT, runsF, rep, pick]
            go_wp2_with fail
            exact ⟨rfl, rfl⟩
          simp only [runsT, runsF, rep, left]
          go_wp2_with fail
          refine ⟨fun _ => (Below.refl _ _).alloc (Nat.le_refl _) _, ?_⟩
          apply segsK_op
          refine appG (R := RSE) (f := encS) (W := wr.drew.drew) rfl _ _ rfl _ (L') rfl HQd.out.row (F n) _ rfl rfl (encS_one _) wr.drew.heap.size rfl rfl (by simp; omega) HQd.out.ext (Nat.le_add_right _ _) (show w1.heap.size + 2 ≤ wr.drew.drew.heap.size by omega) ?_
          intro a1 c1 w2 hO1 hE1 hz1 hb1
          have hB5 := HQd.out.kept hb1
          have z0 := hB5.cell (i := 0) rfl
          have z1 := hB5.frozen 0
          have HN := Lib.hid (HQd.out.app hO1 hE1 hb1)
          clear hO1 hE1 hz1 hb1 hB5
          go_wp2_with fail
          refine ⟨fun h => (by cases h), ?_⟩
          apply segsK_pure
          · intro W
            simp only [runsT, runsF, rep, pick]
            go_wp2_with fail
            exact ⟨rfl, rfl⟩
          simp only [runsT, runsF, rep, left]
          apply segsK_op
          go_wp2_with fail
          refine ⟨fun h => (by cases h), ?_⟩
          apply segsK_nil
          clear z0 z1
          go_wp2_with fail
          go_roundg (r.length - (n + 1))
          case measure => omega
          case rel => exact ⟨n + 1, _, L' ++ [F n], false, by go_num, by omega, rfl, HI2, HN.out, Nat.le_refl _⟩
    · obtain rfl : n = r.length := by omega
      have hdn : decide ((r.length : Int) < (r.length : Int)) = false := decide_eq_false (by omega)
      have p0 := hS.src.cell (i := 0) rfl
      have q0 := hS.out.cell (i := 0) rfl
      have q1 := hS.out.cell (i := 1) rfl
      have q2 := hS.out.frozen 0
      have HRw := Lib.hid (HR1.out.ext hS.ext)
      have HXw := Lib.hid (HX1.out.ext hS.ext)
      have hltw := hS.out.lt
      clear hik hS
      --C<
      cases dn with
      | true =>
        have z0 := HRw.out.cell (i := 0) rfl
        have zf0 := HRw.out.frozen 0
        have z1 := HRw.out.cell (i := 1) rfl
        have zf1 := HRw.out.frozen 1
        go_wp2_with fail
        (try simp only [Exit.inBlock, Exit.then])
        refine bodyPost_ret (results_one (ty := 30) rfl rfl (c := #[.slice av L'.length cv, .slice a2 Wy.length cap2]) (Blk.set2 HRw.out rfl _ _) (by kernel_rfl) (by kernel_rfl)) rfl ?_
        rw [HQ.out, ← HI.out.done]
        refine ⟨_, rfl, ?_, Ext.set2 (below_ext HE1.out HS.out.ext) (by omega) _ _⟩
        have b1 := HRw.out.set 0 (.slice av L'.length cv) rfl
        exact ((HS.out.row.chg (Chg.set wr (w.heap.size + 1 + 1) 0 _) (.one HRw.out (by decide))).chg (Chg.set _ (w.heap.size + 1 + 1) 1 _) (.one b1 (by decide))).base (by omega)
      | false =>
        have k0 := HXw.out.cell (i := 0) rfl
        have kf0 := HXw.out.frozen 0
        have k1 := HXw.out.cell (i := 1) rfl
        have kf1 := HXw.out.frozen 1
        have k2 := HXw.out.cell (i := 2) rfl
        have kf2 := HXw.out.frozen 2
        have k3 := HXw.out.cell (i := 3) rfl
        have kf3 := HXw.out.frozen 3
        have k4 := HXw.out.cell (i := 4) rfl
        have kf4 := HXw.out.frozen 4
        have k5 := HXw.out.cell (i := 5) rfl
        have kf5 := HXw.out.frozen 5
        have k6 := HXw.out.cell (i := 6) rfl
        have kf6 := HXw.out.frozen 6
        go_wp2_with (at_builtin; refine appG (R := RSE) (f := encS) (W := wr) rfl _ _ rfl _ L' rfl HS.out.row e _ rfl rfl (encS_one _) wr.heap.size rfl rfl (by omega) HS.out.ext (Nat.le_add_right _ _) (show w1.heap.size + 2 ≤ wr.heap.size by omega) ?_)
        intro a3 c3 w3 hO3 hE3 hz3 hb3
        have hB4 := HS.out.kept hb3
        have HN3 := Lib.hid (HS.out.app hO3 hE3 hb3)
        have HR3 := Lib.hid (HR1.out.ext HN3.out.ext)
        clear q0 q1 q2 p0 k0 k1 k2 k3 k4 k5 k6 kf0 kf1 kf2 kf3 kf4 kf5 kf6
        have z0 := hB4.cell (i := 0) rfl
        have z1 := hB4.cell (i := 1) rfl
        have z2 := hB4.frozen 0
        have hR4 := HR1.out.ext hE3
        have y0 := hR4.cell (i := 0) rfl
        have y1 := hR4.cell (i := 1) rfl
        have yf0 := hR4.frozen 0
        have yf1 := hR4.frozen 1
        clear hO3 hE3 hz3 hb3 hB4 hR4
        go_wp2_with fail
        (try simp only [Exit.inBlock, Exit.then])
        refine bodyPost_ret (results_one (ty := 30) rfl rfl (c := #[.slice a3 (L'.length + 1) c3, .slice a2 Wy.length cap2]) (Blk.set2 HR3.out rfl _ _) (by kernel_rfl) (by kernel_rfl)) rfl ?_
        rw [HQ.out, ← HI.out.last]
        refine ⟨_, rfl, ?_, Ext.set2 (below_ext HE1.out HN3.out.ext) (by omega) _ _⟩
        have b1 := HR3.out.set 0 (.slice a3 (L'.length + 1) c3) rfl
        exact ((HN3.out.row.chg (Chg.set _ (w.heap.size + 1 + 1) 0 _) (.one HR3.out (by decide))).chg (Chg.set _ (w.heap.size + 1 + 1) 1 _) (.one b1 (by decide))).base (by omega)
      --C>
end Go.Proofs.Ytnpfikabcmngpaa.ShR
