/-
  An index of ends: the first one that is due; what is told.
  Fewer than 1,000,000 hashes; no other condition.
-/
import Derived.Test.YtnjohjicmhobdaaExpF
import Derived.Test.YtnjohjicmhobdaaRowK
namespace Go.Proofs.Ytnjohjicmhobdaa.Exi
open Go.RowKit Go.Shelf Go.Seg Go.Open Go.Lib Rk Ex
attribute [local go_sem] Oper.semAt_some

theorem kp_t {n₀ : Nat} {A B C : World} (h : kp n₀ A B) (k : kp n₀ B C) : kp n₀ A C := ⟨h.1.trans k.1, fun i cs f hi => k.2 i cs f (h.2 i cs f hi)⟩
theorem kp_b {n₀ : Nat} {w : World} (hn : n₀ ≤ w.heap.size) : ∀ (W : World) (l : Nat) (o o' : Obj), w.heap.size ≤ l → W.heap[l]? = some o → o.isCells = false → o.isWalk = false → kp n₀ W (W.putObj l o') := fun W l o o' hl ho hc hw =>
  ⟨belowK_b (w := w) hn W l o o' hl ho hc hw, fun k cs f hk => by
    rw [World.putObj_heap_other (fun e => by subst e; rw [ho] at hk; cases hk; cases hc)]
    exact hk⟩
/-- Who writes blocks of other kinds alone keeps those of one kind. -/
theorem keepsTy_chg {S : Nat → Prop} {w w' : World} (h : Chg S w w') (hn : Off S w 112) : KeepsTy 112 w w' := fun k cs f hk => by
  rw [h.block k (Array.getElem?_eq_some_iff.1 hk).1 (fun hs => hn k hs cs f hk)]
  exact hk

def firstV : List (Int × Int) → Value
  | [] => .tuple #[.int .u64 0, .int .i64 0, .bool false]
  | x :: _ => .tuple #[.int .u64 x.1, .int .i64 x.2, .bool true]

/-- What First's loop keeps: nothing has come; and where it is left. -/
def FI (w : World) (B : Nat) (pre : List (Int × Int)) (W : World) : Prop := (pre = [] ∧ (Boxed W B 42 (.int .u64 0) ∧ Boxed W (B + 1) 3 (.int .i64 0)) ∧ Boxed W (B + 2) 4 (.bool false)) ∧ Below w.heap.size w W
def FX (w : World) (B : Nat) (c : Code) (pre : List (Int × Int)) (W : World) : Prop := c = .ret ∧ ∃ x, pre = [x] ∧ ((Boxed W B 42 (.int .u64 x.1) ∧ Boxed W (B + 1) 3 (.int .i64 x.2)) ∧ Boxed W (B + 2) 4 (.bool true)) ∧ Below w.heap.size w W

theorem boxed_put {W : World} {B D : Nat} {t : TypeId} {v : Value} {o : Obj} (h : Boxed W B t v) (hne : B ≠ D) : Boxed (W.putObj D o) B t v := by
  unfold Boxed
  rw [World.putObj_heap_other hne]
  exact h

set_option maxRecDepth 100000 in
set_option maxHeartbeats 2000000 in
theorem First_of (p : Option Addr) (L : List (Int × Int)) (now : Int) (w : World) (hE : ∀ (W : World) (Bx Bm N1 : Nat), Ext w W → W.cell? ⟨Bx, 0, none⟩ = some (.pointer p) → W.cell? ⟨Bm, 0, none⟩ = some (.func (.func 99) #[] #[.pointer (some ⟨N1, 0, none⟩)]) → W.cell? ⟨N1, 0, none⟩ = some (.int .i64 now) → Bx < W.heap.size → Bm < W.heap.size → N1 < W.heap.size → Each W L #[.pointer (some ⟨Bx, 0, none⟩), .pointer (some ⟨Bm, 0, none⟩)]) :
    Calls Try.prog 38 #[.pointer p, .int .i64 now] w fun e w' => e = .returned (firstV L) ∧ Ext w w' := by
  have HI := Lib.hid hE
  clear hE
  refine (callsIn_wide (n := 3)).1 ?_
  refine callsIn_of_wp_marks Try.func38 rfl trivial ?_ rfl
  simp only [Try.ntmps38, List.size_toArray, List.length_cons, List.length_nil, Nat.reduceAdd, Nat.reduceSub, Array.replicate_succ, Array.replicate_zero, List.push_toArray, List.append_toArray, List.nil_append, List.cons_append]
  refine wpIn_wide.2 ?_
  go_wp2_with fail
  obtain ⟨W3, hW3⟩ : ∃ W, ((w.alloc (.cells #[.int .u64 0] 42)).alloc (.cells #[.int .i64 0] 3)).alloc (.cells #[.bool false] 4) = W := ⟨_, rfl⟩
  have hE3 : Ext w W3 := by rw [← hW3]; exact (((Below.refl _ _).alloc (Nat.le_refl _) _).alloc (by simp) _).alloc (by simp; omega) _
  have hb4 : Boxed W3 w.heap.size 42 (.int .u64 0) := by rw [← hW3]; exact ((Boxed.new w 42 _).alloc _).alloc _
  have hb5 : Boxed W3 (w.heap.size + 1) 3 (.int .i64 0) := by rw [← hW3]; have := (Boxed.new (w.alloc (.cells #[.int .u64 0] 42)) 3 (.int .i64 0)).alloc (.cells #[.bool false] 4); simpa using this
  have hb6 : Boxed W3 (w.heap.size + 2) 4 (.bool false) := by rw [← hW3]; have := Boxed.new ((w.alloc (.cells #[.int .u64 0] 42)).alloc (.cells #[.int .i64 0] 3)) 4 (.bool false); simpa using this
  have HE3 := Lib.hid hE3
  have HB4 := Lib.hid hb4
  have HB5 := Lib.hid hb5
  have HB6 := Lib.hid hb6
  rw [hW3]
  clear hW3 hE3 hb4 hb5 hb6
  refine (Due_mk _ now _).mono ?_
  rintro e W4 ⟨Bx, Bm, N1, rfl, c1, c2, c3, l1, l2, l3, -, hE4⟩
  have hE := HI.out W4 Bx Bm N1 (HE3.out.trans hE4) c1 c2 c3 l1 l2 l3
  have H4 := Lib.hid (show ((Boxed W4 w.heap.size 42 (.int .u64 0) ∧ Boxed W4 (w.heap.size + 1) 3 (.int .i64 0)) ∧ Boxed W4 (w.heap.size + 2) 4 (.bool false)) from
    ⟨⟨(hE4.block _ HB4.out.lt).trans HB4.out, (hE4.block _ HB5.out.lt).trans HB5.out⟩, (hE4.block _ HB6.out.lt).trans HB6.out⟩)
  have HE4 := Lib.hid (HE3.out.trans hE4)
  have HEach := Lib.hid hE
  clear c1 c2 c3 l1 l2 l3 hE4 hE
  go_wp2_with fail
  refine wpIn_wide (n := 3).1 ?_
  refine wpIn_range_N (n := 3) (gf := 132) (lb := #[.pointer (some ⟨Bx, 0, none⟩), .pointer (some ⟨Bm, 0, none⟩)]) rfl (enters_of Try.func132 (by kernel_rfl) rfl)
    (HEach.out.go (3 - 1)) kp_t (kp_b (Nat.le_refl _)) (Below.refl _ _) (fun _ => rfl) (FI w w.heap.size) (FX w w.heap.size) ?hI ?hIx ⟨⟨rfl, H4.out⟩, HE4.out⟩ ?hab ?done ?stop
  case hI => exact OwnFrom.and (OwnFrom.and (ownFrom_pure _ _) (OwnFrom.and (OwnFrom.and (Own.from (boxed_own _ _ _) _) (Own.from (boxed_own _ _ _) _)) (Own.from (boxed_own _ _ _) _))) (ownFrom_below (Nat.le_refl _) HE4.out.size)
  case hIx =>
    intro c s A B row hs hg hr
    obtain ⟨h1, x, h2, h3, h4⟩ := hs
    exact ⟨h1, x, h2, OwnFrom.and (β := Unit) (OwnFrom.and (Own.from (boxed_own _ _ (fun _ => Value.int .u64 x.1)) _) (Own.from (boxed_own _ _ (fun _ => Value.int .i64 x.2)) _)) (Own.from (boxed_own _ _ (fun _ => Value.bool true)) _) () A B row h3 hg hr, ownFrom_below (β := Unit) (Nat.le_refl _) HE4.out.size () A B row h4 hg hr⟩
  case hab =>
    apply Exists.intro
    refine ⟨?assign, ?body⟩
    case assign =>
      intro l x W K hK
      gi_wp2
      exact hK
    case body =>
      rintro lo pre ⟨x1, x2⟩ Wr hlo _ ⟨⟨rfl, ⟨h4, h5⟩, h6⟩, hB⟩ hpre
      have c4 := h4.cell
      have c5 := h5.cell
      have c6 := h6.cell
      have f4 := h4.frozen
      have f5 := h5.frozen
      have f6 := h6.frozen
      have H4' := Lib.hid (And.intro (And.intro h4 h5) h6)
      have HB' := Lib.hid hB
      clear h4 h5 h6 hB hpre
      gi_wp2
      have hz := HE4.out.size
      have hs3 : ∀ u1 u2 u3 : Value, Boxed (((Wr.setCell ⟨w.heap.size, 0, none⟩ u1).setCell ⟨w.heap.size + 1, 0, none⟩ u2).setCell ⟨w.heap.size + 1 + 1, 0, none⟩ u3) w.heap.size 42 u1 ∧ Boxed (((Wr.setCell ⟨w.heap.size, 0, none⟩ u1).setCell ⟨w.heap.size + 1, 0, none⟩ u2).setCell ⟨w.heap.size + 1 + 1, 0, none⟩ u3) (w.heap.size + 1) 3 u2 ∧ Boxed (((Wr.setCell ⟨w.heap.size, 0, none⟩ u1).setCell ⟨w.heap.size + 1, 0, none⟩ u2).setCell ⟨w.heap.size + 1 + 1, 0, none⟩ u3) (w.heap.size + 2) 4 u3 := fun u1 u2 u3 =>
        ⟨((H4'.out.1.1.set u1).other (by omega) u2).other (by omega) u3, ((H4'.out.1.2.other (by omega) u1).set u2).other (by omega) u3, ((H4'.out.2.other (by omega) u1).other (by omega) u2).set u3⟩
      obtain ⟨k1, k2, k3⟩ := hs3 (.int .u64 x1) (.int .i64 x2) (.bool true)
      refine ⟨?_, rfl, (x1, x2), rfl, ⟨⟨k1, k2⟩, k3⟩, ?_⟩
      · exact (((KeepsOthers.setCell _ _ _).trans (KeepsOthers.setCell _ _ _)).trans (KeepsOthers.setCell _ _ _)).from _
      · exact ((HB'.out.setCell (p := ⟨w.heap.size, 0, none⟩) (Nat.le_refl _) _).setCell (p := ⟨w.heap.size + 1, 0, none⟩) (show w.heap.size ≤ w.heap.size + 1 by omega) _).setCell (p := ⟨w.heap.size + 1 + 1, 0, none⟩) (show w.heap.size ≤ w.heap.size + 1 + 1 by omega) _
  case done =>
    rintro D xs W2 hD hxs ⟨⟨hnil, ⟨h4, h5⟩, h6⟩, hB⟩ hK
    have hz := HE4.out.size
    have hz4 : w.heap.size + 2 < W4.heap.size := H4.out.2.lt
    have hs3 : ∀ u1 u2 u3 : Value, Boxed (((W2.setCell ⟨w.heap.size, 0, none⟩ u1).setCell ⟨w.heap.size + 1, 0, none⟩ u2).setCell ⟨w.heap.size + 1 + 1, 0, none⟩ u3) w.heap.size 42 u1 ∧ Boxed (((W2.setCell ⟨w.heap.size, 0, none⟩ u1).setCell ⟨w.heap.size + 1, 0, none⟩ u2).setCell ⟨w.heap.size + 1 + 1, 0, none⟩ u3) (w.heap.size + 1) 3 u2 ∧ Boxed (((W2.setCell ⟨w.heap.size, 0, none⟩ u1).setCell ⟨w.heap.size + 1, 0, none⟩ u2).setCell ⟨w.heap.size + 1 + 1, 0, none⟩ u3) (w.heap.size + 2) 4 u3 := fun u1 u2 u3 =>
      ⟨((h4.set u1).other (by omega) u2).other (by omega) u3, ((h5.other (by omega) u1).set u2).other (by omega) u3, ((h6.other (by omega) u1).other (by omega) u2).set u3⟩
    obtain ⟨k1, k2, k3⟩ := hs3 (.int .u64 0) (.int .i64 0) (.bool false)
    have hBB : Below w.heap.size w (((W2.setCell ⟨w.heap.size, 0, none⟩ (.int .u64 0)).setCell ⟨w.heap.size + 1, 0, none⟩ (.int .i64 0)).setCell ⟨w.heap.size + 1 + 1, 0, none⟩ (.bool false)) :=
      ((hB.setCell (p := ⟨w.heap.size, 0, none⟩) (Nat.le_refl _) _).setCell (p := ⟨w.heap.size + 1, 0, none⟩) (show w.heap.size ≤ w.heap.size + 1 by omega) _).setCell (p := ⟨w.heap.size + 1 + 1, 0, none⟩) (show w.heap.size ≤ w.heap.size + 1 + 1 by omega) _
    have hK2 : (((W2.setCell ⟨w.heap.size, 0, none⟩ (.int .u64 0)).setCell ⟨w.heap.size + 1, 0, none⟩ (.int .i64 0)).setCell ⟨w.heap.size + 1 + 1, 0, none⟩ (.bool false)).heap[D]? = some (.deferred (some [])) := by
      rw [Below.heap_setCell _ _ _ _ (show D ≠ w.heap.size + 1 + 1 by omega), Below.heap_setCell _ _ _ _ (show D ≠ w.heap.size + 1 by omega), Below.heap_setCell _ _ _ _ (show D ≠ w.heap.size by omega)]
      exact hK
    have c4 := h4.cell
    have c5 := h5.cell
    have c6 := h6.cell
    have f4 := h4.frozen
    have f5 := h5.frozen
    have f6 := h6.frozen
    have HT := Lib.hid (And.intro (And.intro k1 k2) (And.intro k3 (And.intro hBB hK2)))
    clear h4 h5 h6 hB hK k1 k2 k3 hBB hK2 hs3
    rename_i Kk hKk
    refine hKk _ _ ?_
    clear hKk
    go_wp2_with fail
    obtain ⟨⟨k1, k2⟩, k3, hBB, hK2⟩ := HT.out
    clear c4 c5 c6 f4 f5 f6 HT
    revert k1 k2 k3 hBB hK2
    generalize ((W2.setCell ⟨w.heap.size, 0, none⟩ (.int .u64 0)).setCell ⟨w.heap.size + 1, 0, none⟩ (.int .i64 0)).setCell ⟨w.heap.size + 1 + 1, 0, none⟩ (.bool false) = W5
    intro k1 k2 k3 hBB hK2
    have b1 := (boxed_put (o := .deferred none) k1 (show w.heap.size ≠ D by omega)).cell
    have b2 := (boxed_put (o := .deferred none) k2 (show w.heap.size + 1 ≠ D by omega)).cell
    have b3 := (boxed_put (o := .deferred none) k3 (show w.heap.size + 1 + 1 ≠ D by omega)).cell
    have hB2 := hBB.trans ((kp_b (Nat.le_refl _) W5 D _ (.deferred none) (by omega) hK2 rfl rfl).1)
    refine ⟨by simp, .inl ⟨_, _, rfl, run_takeDeferred hK2, ?_⟩⟩
    refine ⟨firstV [], ?_, ?_, hB2⟩
    · simp [results, firstV, go_sem, b1, b2, b3]
    · rw [← hxs, hnil]
  case stop =>
    rintro D c pre W2 hD hpre ⟨rfl, x, rfl, ⟨⟨h4, h5⟩, h6⟩, hB⟩ hK
    have hz := HE4.out.size
    have hz4 : w.heap.size + 2 < W4.heap.size := H4.out.2.lt
    have b1 := (boxed_put (o := .deferred none) h4 (show w.heap.size ≠ D by omega)).cell
    have b2 := (boxed_put (o := .deferred none) h5 (show w.heap.size + 1 ≠ D by omega)).cell
    have b3 := (boxed_put (o := .deferred none) h6 (show w.heap.size + 2 ≠ D by omega)).cell
    have HK := Lib.hid hK
    rename_i Kk hKk
    have HBB := Lib.hid (hB.trans ((kp_b (Nat.le_refl _) W2 D _ (.deferred none) (by omega) hK rfl rfl).1))
    clear h4 h5 h6 hB hK
    clear hKk
    gi_wp2
    refine ⟨by simp, .inl ⟨_, _, rfl, run_takeDeferred HK.out, ?_⟩⟩
    refine ⟨firstV [x], ?_, ?_, HBB.out⟩
    · simp [results, firstV, go_sem, b1, b2, b3]
    · obtain ⟨r, hr⟩ := hpre
      rw [← hr]
      rfl
theorem First_any (b : Nat) (y : List (Int × Int)) (now : Int) (w : World) (hI : Idx w b y) :
    Calls Try.prog 38 #[.pointer (some ⟨b, 0, none⟩), .int .i64 now] w fun e w' => e = .returned (firstV (dueL now y)) ∧ Ext w w' :=
  First_of _ _ now w (fun W Bx Bm N1 hW c1 c2 c3 l1 l2 l3 => each_due (hI.ext hW) c1 c2 c3 l1 l2 l3)
theorem First_nil (now : Int) (w : World) : Calls Try.prog 38 #[.pointer none, .int .i64 now] w fun e w' => e = .returned (firstV []) ∧ Ext w w' :=
  First_of none [] now w (fun W Bx Bm N1 _ c1 _ _ l1 _ _ => each_nil c1 l1)
end Go.Proofs.Ytnjohjicmhobdaa.Exi
