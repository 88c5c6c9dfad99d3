/-
  An index of ends: what Due and All hand back; the first one that is due. Fewer than 1,000,000 hashes; no other condition.
  An index of ends: the first one that is due; what is told. Fewer than 1,000,000 hashes; no other condition.
  Package store: a store in memory; a new one. Fewer than 1,000,000 entries; no other condition.
  Package store: the shard of a hash, made when one first asks for it. Fewer than 1,000,000 entries; no other condition.
  Rows of calls in a block: read and written one by one; rows put in order, the alike ones as they stand: what swaps, rotations, insertions and merges do to rows. No program in sight; no condition.
  Package store: looking, finding, what is seen. Fewer than 1,000,000 entries; no other condition.
  Package store: what is put, renewed, removed, cut; what is got; what is due first. Fewer than 1,000,000 entries; no other condition.
  Package store: what is got, put, renewed, removed, cut; what is due first. Fewer than 1,000,000 entries; no other condition.
  Package store: what is put, renewed, removed, cut. Fewer than 1,000,000 entries; no other condition.
  DERIVED: THE SHELF's CONTRACTS AT THIS DUMP, IN PLAIN WORDS (tools/lay-plain.mjs out of 'YtdfbfcglacalmaaGreatLockShTmp.lean', which tools/lay-shelf.mjs wrote): THE SAME DECLARATIONS UNDER THE SAME NAMES: 'import', 'namespace', 'open', 'def', 'theorem' AND NOTHING ELSE: no command of the shelf's: FOR A HAND-IN. Each laying: the table of numbers ('.._ren') and one theorem, a field a fact of the dump's own or the kernel's comparison; each contract: ONE APPLICATION.
  PLAIN LAW: a lock that is held by several who read, in rising order, or by one who writes. No program in sight; no condition.
-/
import Derived.Test.YtdfbfcglacalmaaGreatM7
import Derived.Test.YtdfbfcglacalmaaGreatM8
import Derived.Test.YtdfbfcglacalmaaGreatM1
import Derived.Test.YtdfbfcglacalmaaGreatM6
import Derived.Test.YtdfbfcglacalmaaGreatM5
import Derived.Deep.DeepCutAuto
import Derived.Test.YtdfbfcglacalmaaGreatM2
import Derived.Laws.CopyRow
import Derived.Deep.WholeRow
import Derived.Ground.Names2Prog
import Derived.Shelf.Slices.Clone
import Derived.Shelf.Slices.SearchI
import Derived.Shelf.Slices.Cells
import Derived.Shelf.Slices.Empties
import Derived.Shelf.Spec.SlicesInsert
import Derived.Shelf.Spec.SlicesInsertGrow
import Derived.Test.YtdfbfcglacalmaaGreatProg
section
namespace Go.Proofs.YtdfbfcglacalmaaGreat.Exi
open Go.RowKit Go.Shelf Go.Seg Go.Open Go.Lib Rk Ex
attribute [local go_sem] Oper.semAt_some

theorem along_mk (p : Option Addr) (g : Nat) (caps : Array Value) (w : World) : Calls Tryz.prog 112 #[.pointer p, .func (.func g) #[] caps] w fun e w' =>
    e = .returned (.func (.func 138) #[] #[.pointer (some ⟨w.heap.size, 0, none⟩), .pointer (some ⟨w.heap.size + 1, 0, none⟩)]) ∧ w' = (w.alloc (.cells #[.pointer p] 82)).alloc (.cells #[.func (.func g) #[] caps] 66) := by
  go_enter Tryz.func112, Tryz.ntmps112
  go_wp2_with fail
  go_ret
  exact ⟨rfl, rfl⟩
/-- What a range over an index wants. -/
structure Each (w : World) (l : List (Int × Int)) (lb : Array Value) : Prop where
  go : ∀ n, SeqN Fence.wide n Tryz.prog 138 lb (fun x : Int × Int => #[Value.int .u64 x.1, Value.int .i64 x.2]) (kp w.heap.size) (fun ys => ys = l) (fun pre => pre <+: l) w

theorem may2 (k now : Int) (N1 : Nat) (h1 : 0 ≤ k) (h2 : k ≤ 274877906944) (W : World) (hc : W.cell? ⟨N1, 0, none⟩ = some (.int .i64 now)) : Calls Tryz.prog 113 #[.int .i64 k, .pointer (some ⟨N1, 0, none⟩)] W fun e w' => e = .returned (.bool (dueB now k)) ∧ W = w' := by
  go_enter Tryz.func113, Tryz.ntmps113
  go_wp2_with fail
  refine (CDue_any now k h1 h2 _).mono ?_
  rintro e w' ⟨rfl, rfl⟩
  go_wp2_with fail
  go_ret
  exact ⟨rfl, rfl⟩

theorem IndexAt.low {w : World} {b : Nat} {te : T Int Int} {tp : T Int (Option Addr)} {tt : Int → T Int Int} (h : IndexAt w b te tp tt) : IdxB w.heap.size w b tp tt := by
  obtain ⟨q1, q2, hB, _, h2, h3⟩ := h
  exact ⟨hB.lt, q1, q2, hB, h2.low, fun x hx => (h3 x hx).low⟩
theorem each_due {w : World} {b Bx Bm N1 : Nat} {now : Int} {y : List (Int × Int)} (hI : Idx w b y) (hx : w.cell? ⟨Bx, 0, none⟩ = some (.pointer (some ⟨b, 0, none⟩))) (hm : w.cell? ⟨Bm, 0, none⟩ = some (.func (.func 113) #[] #[.pointer (some ⟨N1, 0, none⟩)])) (hn : w.cell? ⟨N1, 0, none⟩ = some (.int .i64 now)) (h1 : Bx < w.heap.size) (h2 : Bm < w.heap.size) (h3 : N1 < w.heap.size) :
    Each w (dueL now y) #[.pointer (some ⟨Bx, 0, none⟩), .pointer (some ⟨Bm, 0, none⟩)] := by
  obtain ⟨te, tp, tt, hA, hInv, hy⟩ := hI
  refine ⟨fun n => ?_⟩
  have := along_N n Bx Bm b w.heap.size 113 #[.pointer (some ⟨N1, 0, none⟩)] (enters_of Tryz.func113 (by kernel_rfl) rfl) (dueB now) tp tt w hx hm h1 h2 (Nat.le_refl _) hA.low
    (fun x hx W hW => may2 x.1 now N1 (hInv.bks x hx).1 (hInv.bks x hx).2 W ((hW.cell (p := ⟨N1, 0, none⟩) h3).trans hn))
  have e : along (dueB now) tp.toL tt = dueL now y := by unfold along; rw [hInv.due now, hy]
  rw [e] at this
  exact this
set_option maxHeartbeats 1000000 in
/-- Of no index there is nothing. -/
theorem each_nil {w : World} {Bx Bm : Nat} (hx : w.cell? ⟨Bx, 0, none⟩ = some (.pointer none)) (h1 : Bx < w.heap.size) : Each w [] #[.pointer (some ⟨Bx, 0, none⟩), .pointer (some ⟨Bm, 0, none⟩)] := by
  refine ⟨fun n l J Jx W hW hJ hJx hY h0 => ?_⟩
  have hx' := (hW.cell (p := ⟨Bx, 0, none⟩) h1).trans hx
  have hA : Ext W (W.alloc (.cells #[.func (.yield l) #[] #[]] 195)) := (Below.refl _ _).alloc (Nat.le_refl _) _
  have hJ1 := hJ.alloc (.cells #[.func (.yield l) #[] #[]] 195) h0
  have hsz := hW.size
  have x1 := (hA.cell (p := ⟨Bx, 0, none⟩) (show Bx < W.heap.size by omega)).trans hx'
  have HJ1 := Lib.hid hJ1
  clear hY hJ hJx hW h0 hJ1 hx hx' hA
  refine callsIn_wide.2 ?_
  go_enter Tryz.func138, Tryz.ntmps138
  go_wp2_with fail
  refine bodyPost_ret (results_none rfl _ _ _) rfl ?_
  exact ⟨⟨_, rfl⟩, .inl ⟨[], rfl, HJ1.out⟩⟩

theorem Due_mk (p : Option Addr) (now : Int) (w : World) : Calls Tryz.prog 84 #[.pointer p, .int .i64 now] w fun e w' => ∃ Bx Bm N1, e = .returned (.func (.func 138) #[] #[.pointer (some ⟨Bx, 0, none⟩), .pointer (some ⟨Bm, 0, none⟩)]) ∧
    w'.cell? ⟨Bx, 0, none⟩ = some (.pointer p) ∧ w'.cell? ⟨Bm, 0, none⟩ = some (.func (.func 113) #[] #[.pointer (some ⟨N1, 0, none⟩)]) ∧ w'.cell? ⟨N1, 0, none⟩ = some (.int .i64 now) ∧ Bx < w'.heap.size ∧ Bm < w'.heap.size ∧ N1 < w'.heap.size ∧ w.heap.size ≤ N1 ∧ Ext w w' := by
  go_enter Tryz.func84, Tryz.ntmps84
  go_wp2_with fail
  have hb1 := Blk.new w #[.int .i64 now] 3
  have hE1 : Ext w (w.alloc (.cells #[.int .i64 now] 3)) := (Below.refl _ _).alloc (Nat.le_refl _) _
  obtain ⟨w1, hw1⟩ : ∃ w1, w.alloc (.cells #[.int .i64 now] 3) = w1 := ⟨_, rfl⟩
  rw [hw1] at hb1 hE1 ⊢
  refine (along_mk p _ _ _).mono ?_
  rintro e w' ⟨rfl, rfl⟩
  clear hw1
  go_wp2_with fail
  go_ret
  have hA : Ext w1 (w1.alloc (.cells #[.pointer p] 82)) := (Below.refl _ _).alloc (Nat.le_refl _) _
  have hB := Blk.new (w1.alloc (.cells #[.pointer p] 82)) #[.func (.func 113) #[] #[.pointer (some ⟨w.heap.size, 0, none⟩)]] 66
  have hA2 : Ext (w1.alloc (.cells #[.pointer p] 82)) ((w1.alloc (.cells #[.pointer p] 82)).alloc (.cells #[.func (.func 113) #[] #[.pointer (some ⟨w.heap.size, 0, none⟩)]] 66)) := (Below.refl _ _).alloc (Nat.le_refl _) _
  have hlt := hb1.lt
  exact ⟨_, _, _, rfl, ((Blk.new w1 #[.pointer p] 82).ext hA2).cell (i := 0) rfl, by simp, (hb1.ext (hA.trans hA2)).cell (i := 0) rfl, by simp; omega, by simp, by simp; omega, Nat.le_refl _, (hE1.trans hA).trans hA2⟩
end Go.Proofs.YtdfbfcglacalmaaGreat.Exi
end

section
namespace Go.Proofs.YtdfbfcglacalmaaGreat.Exi
open Go.RowKit Go.Shelf Go.Seg Go.Open Go.Lib Rk Ex
attribute [local go_sem] Oper.semAt_some

theorem kp_t {n₀ : Nat} {A B C : World} (h : kp n₀ A B) (k : kp n₀ B C) : kp n₀ A C := ⟨h.1.trans k.1, fun i cs f hi => k.2 i cs f (h.2 i cs f hi)⟩
theorem kp_b {n₀ : Nat} {w : World} (hn : n₀ ≤ w.heap.size) : ∀ (W : World) (l : Nat) (o o' : Obj), w.heap.size ≤ l → W.heap[l]? = some o → o.isCells = false → o.isWalk = false → kp n₀ W (W.putObj l o') := fun W l o o' hl ho hc hw =>
  ⟨belowK_b (w := w) hn W l o o' hl ho hc hw, fun k cs f hk => by
    rw [World.putObj_heap_other (fun e => by subst e; rw [ho] at hk; cases hk; cases hc)]
    exact hk⟩
/-- Who writes blocks of other kinds alone keeps those of one kind. -/
theorem keepsTy_chg {S : Nat → Prop} {w w' : World} (h : Chg S w w') (hn : Off S w 195) : KeepsTy 195 w w' := fun k cs f hk => by
  rw [h.block k (Array.getElem?_eq_some_iff.1 hk).1 (fun hs => hn k hs cs f hk)]
  exact hk

def firstV : List (Int × Int) → Value
  | [] => .tuple #[.int .u64 0, .int .i64 0, .bool false]
  | x :: _ => .tuple #[.int .u64 x.1, .int .i64 x.2, .bool true]

/-- What First's loop keeps: nothing has come; and where it is left. -/
def FI (w : World) (B : Nat) (pre : List (Int × Int)) (W : World) : Prop := (pre = [] ∧ (Boxed W B 33 (.int .u64 0) ∧ Boxed W (B + 1) 3 (.int .i64 0)) ∧ Boxed W (B + 2) 4 (.bool false)) ∧ Below w.heap.size w W
def FX (w : World) (B : Nat) (c : Code) (pre : List (Int × Int)) (W : World) : Prop := c = .ret ∧ ∃ x, pre = [x] ∧ ((Boxed W B 33 (.int .u64 x.1) ∧ Boxed W (B + 1) 3 (.int .i64 x.2)) ∧ Boxed W (B + 2) 4 (.bool true)) ∧ Below w.heap.size w W

theorem boxed_put {W : World} {B D : Nat} {t : TypeId} {v : Value} {o : Obj} (h : Boxed W B t v) (hne : B ≠ D) : Boxed (W.putObj D o) B t v := by
  unfold Boxed
  rw [World.putObj_heap_other hne]
  exact h

set_option maxRecDepth 100000 in
set_option maxHeartbeats 2000000 in
theorem First_of (p : Option Addr) (L : List (Int × Int)) (now : Int) (w : World) (hE : ∀ (W : World) (Bx Bm N1 : Nat), Ext w W → W.cell? ⟨Bx, 0, none⟩ = some (.pointer p) → W.cell? ⟨Bm, 0, none⟩ = some (.func (.func 113) #[] #[.pointer (some ⟨N1, 0, none⟩)]) → W.cell? ⟨N1, 0, none⟩ = some (.int .i64 now) → Bx < W.heap.size → Bm < W.heap.size → N1 < W.heap.size → Each W L #[.pointer (some ⟨Bx, 0, none⟩), .pointer (some ⟨Bm, 0, none⟩)]) :
    Calls Tryz.prog 48 #[.pointer p, .int .i64 now] w fun e w' => e = .returned (firstV L) ∧ Ext w w' := by
  have HI := Lib.hid hE
  clear hE
  refine (callsIn_wide (n := 3)).1 ?_
  refine callsIn_of_wp_marks Tryz.func48 rfl trivial ?_ rfl
  simp only [Tryz.ntmps48, List.size_toArray, List.length_cons, List.length_nil, Nat.reduceAdd, Nat.reduceSub, Array.replicate_succ, Array.replicate_zero, List.push_toArray, List.append_toArray, List.nil_append, List.cons_append]
  refine wpIn_wide.2 ?_
  go_wp2_with fail
  obtain ⟨W3, hW3⟩ : ∃ W, ((w.alloc (.cells #[.int .u64 0] 33)).alloc (.cells #[.int .i64 0] 3)).alloc (.cells #[.bool false] 4) = W := ⟨_, rfl⟩
  have hE3 : Ext w W3 := by rw [← hW3]; exact (((Below.refl _ _).alloc (Nat.le_refl _) _).alloc (by simp) _).alloc (by simp; omega) _
  have hb4 : Boxed W3 w.heap.size 33 (.int .u64 0) := by rw [← hW3]; exact ((Boxed.new w 33 _).alloc _).alloc _
  have hb5 : Boxed W3 (w.heap.size + 1) 3 (.int .i64 0) := by rw [← hW3]; have := (Boxed.new (w.alloc (.cells #[.int .u64 0] 33)) 3 (.int .i64 0)).alloc (.cells #[.bool false] 4); simpa using this
  have hb6 : Boxed W3 (w.heap.size + 2) 4 (.bool false) := by rw [← hW3]; have := Boxed.new ((w.alloc (.cells #[.int .u64 0] 33)).alloc (.cells #[.int .i64 0] 3)) 4 (.bool false); simpa using this
  have HE3 := Lib.hid hE3
  have HB4 := Lib.hid hb4
  have HB5 := Lib.hid hb5
  have HB6 := Lib.hid hb6
  rw [hW3]
  clear hW3 hE3 hb4 hb5 hb6
  refine (Due_mk _ now _).mono ?_
  rintro e W4 ⟨Bx, Bm, N1, rfl, c1, c2, c3, l1, l2, l3, -, hE4⟩
  have hE := HI.out W4 Bx Bm N1 (HE3.out.trans hE4) c1 c2 c3 l1 l2 l3
  have H4 := Lib.hid (show ((Boxed W4 w.heap.size 33 (.int .u64 0) ∧ Boxed W4 (w.heap.size + 1) 3 (.int .i64 0)) ∧ Boxed W4 (w.heap.size + 2) 4 (.bool false)) from
    ⟨⟨(hE4.block _ HB4.out.lt).trans HB4.out, (hE4.block _ HB5.out.lt).trans HB5.out⟩, (hE4.block _ HB6.out.lt).trans HB6.out⟩)
  have HE4 := Lib.hid (HE3.out.trans hE4)
  have HEach := Lib.hid hE
  clear c1 c2 c3 l1 l2 l3 hE4 hE
  go_wp2_with fail
  refine wpIn_wide (n := 3).1 ?_
  refine wpIn_range_N (n := 3) (gf := 138) (lb := #[.pointer (some ⟨Bx, 0, none⟩), .pointer (some ⟨Bm, 0, none⟩)]) rfl (enters_of Tryz.func138 (by kernel_rfl) rfl)
    (HEach.out.go (3 - 1)) kp_t (kp_b (Nat.le_refl _)) (Below.refl _ _) (fun _ => rfl) (FI w w.heap.size) (FX w w.heap.size) ?hI ?hIx ⟨⟨rfl, H4.out⟩, HE4.out⟩ ?hab ?done ?stop
  case hI => exact OwnFrom.and (OwnFrom.and (ownFrom_pure _ _) (OwnFrom.and (OwnFrom.and (Own.from (boxed_own _ _ _) _) (Own.from (boxed_own _ _ _) _)) (Own.from (boxed_own _ _ _) _))) (ownFrom_below (Nat.le_refl _) HE4.out.size)
  case hIx =>
    intro c s A B row hs hg hr
    obtain ⟨h1, x, h2, h3, h4⟩ := hs
    exact ⟨h1, x, h2, OwnFrom.and (β := Unit) (OwnFrom.and (Own.from (boxed_own _ _ (fun _ => Value.int .u64 x.1)) _) (Own.from (boxed_own _ _ (fun _ => Value.int .i64 x.2)) _)) (Own.from (boxed_own _ _ (fun _ => Value.bool true)) _) () A B row h3 hg hr, ownFrom_below (β := Unit) (Nat.le_refl _) HE4.out.size () A B row h4 hg hr⟩
  case hab =>
    apply Exists.intro
    refine ⟨?assign, ?body⟩
    case assign =>
      intro l x W K hK
      gi_wp2
      exact hK
    case body =>
      rintro lo pre ⟨x1, x2⟩ Wr hlo _ ⟨⟨rfl, ⟨h4, h5⟩, h6⟩, hB⟩ hpre
      have c4 := h4.cell
      have c5 := h5.cell
      have c6 := h6.cell
      have f4 := h4.frozen
      have f5 := h5.frozen
      have f6 := h6.frozen
      have H4' := Lib.hid (And.intro (And.intro h4 h5) h6)
      have HB' := Lib.hid hB
      clear h4 h5 h6 hB hpre
      gi_wp2
      have hz := HE4.out.size
      have hs3 : ∀ u1 u2 u3 : Value, Boxed (((Wr.setCell ⟨w.heap.size, 0, none⟩ u1).setCell ⟨w.heap.size + 1, 0, none⟩ u2).setCell ⟨w.heap.size + 1 + 1, 0, none⟩ u3) w.heap.size 33 u1 ∧ Boxed (((Wr.setCell ⟨w.heap.size, 0, none⟩ u1).setCell ⟨w.heap.size + 1, 0, none⟩ u2).setCell ⟨w.heap.size + 1 + 1, 0, none⟩ u3) (w.heap.size + 1) 3 u2 ∧ Boxed (((Wr.setCell ⟨w.heap.size, 0, none⟩ u1).setCell ⟨w.heap.size + 1, 0, none⟩ u2).setCell ⟨w.heap.size + 1 + 1, 0, none⟩ u3) (w.heap.size + 2) 4 u3 := fun u1 u2 u3 =>
        ⟨((H4'.out.1.1.set u1).other (by omega) u2).other (by omega) u3, ((H4'.out.1.2.other (by omega) u1).set u2).other (by omega) u3, ((H4'.out.2.other (by omega) u1).other (by omega) u2).set u3⟩
      obtain ⟨k1, k2, k3⟩ := hs3 (.int .u64 x1) (.int .i64 x2) (.bool true)
      refine ⟨?_, rfl, (x1, x2), rfl, ⟨⟨k1, k2⟩, k3⟩, ?_⟩
      · exact (((KeepsOthers.setCell _ _ _).trans (KeepsOthers.setCell _ _ _)).trans (KeepsOthers.setCell _ _ _)).from _
      · exact ((HB'.out.setCell (p := ⟨w.heap.size, 0, none⟩) (Nat.le_refl _) _).setCell (p := ⟨w.heap.size + 1, 0, none⟩) (show w.heap.size ≤ w.heap.size + 1 by omega) _).setCell (p := ⟨w.heap.size + 1 + 1, 0, none⟩) (show w.heap.size ≤ w.heap.size + 1 + 1 by omega) _
  case done =>
    rintro D xs W2 hD hxs ⟨⟨hnil, ⟨h4, h5⟩, h6⟩, hB⟩ hK
    have hz := HE4.out.size
    have hz4 : w.heap.size + 2 < W4.heap.size := H4.out.2.lt
    have hs3 : ∀ u1 u2 u3 : Value, Boxed (((W2.setCell ⟨w.heap.size, 0, none⟩ u1).setCell ⟨w.heap.size + 1, 0, none⟩ u2).setCell ⟨w.heap.size + 1 + 1, 0, none⟩ u3) w.heap.size 33 u1 ∧ Boxed (((W2.setCell ⟨w.heap.size, 0, none⟩ u1).setCell ⟨w.heap.size + 1, 0, none⟩ u2).setCell ⟨w.heap.size + 1 + 1, 0, none⟩ u3) (w.heap.size + 1) 3 u2 ∧ Boxed (((W2.setCell ⟨w.heap.size, 0, none⟩ u1).setCell ⟨w.heap.size + 1, 0, none⟩ u2).setCell ⟨w.heap.size + 1 + 1, 0, none⟩ u3) (w.heap.size + 2) 4 u3 := fun u1 u2 u3 =>
      ⟨((h4.set u1).other (by omega) u2).other (by omega) u3, ((h5.other (by omega) u1).set u2).other (by omega) u3, ((h6.other (by omega) u1).other (by omega) u2).set u3⟩
    obtain ⟨k1, k2, k3⟩ := hs3 (.int .u64 0) (.int .i64 0) (.bool false)
    have hBB : Below w.heap.size w (((W2.setCell ⟨w.heap.size, 0, none⟩ (.int .u64 0)).setCell ⟨w.heap.size + 1, 0, none⟩ (.int .i64 0)).setCell ⟨w.heap.size + 1 + 1, 0, none⟩ (.bool false)) :=
      ((hB.setCell (p := ⟨w.heap.size, 0, none⟩) (Nat.le_refl _) _).setCell (p := ⟨w.heap.size + 1, 0, none⟩) (show w.heap.size ≤ w.heap.size + 1 by omega) _).setCell (p := ⟨w.heap.size + 1 + 1, 0, none⟩) (show w.heap.size ≤ w.heap.size + 1 + 1 by omega) _
    have hK2 : (((W2.setCell ⟨w.heap.size, 0, none⟩ (.int .u64 0)).setCell ⟨w.heap.size + 1, 0, none⟩ (.int .i64 0)).setCell ⟨w.heap.size + 1 + 1, 0, none⟩ (.bool false)).heap[D]? = some (.deferred (some [])) := by
      rw [Below.heap_setCell _ _ _ _ (show D ≠ w.heap.size + 1 + 1 by omega), Below.heap_setCell _ _ _ _ (show D ≠ w.heap.size + 1 by omega), Below.heap_setCell _ _ _ _ (show D ≠ w.heap.size by omega)]
      exact hK
    have c4 := h4.cell
    have c5 := h5.cell
    have c6 := h6.cell
    have f4 := h4.frozen
    have f5 := h5.frozen
    have f6 := h6.frozen
    have HT := Lib.hid (And.intro (And.intro k1 k2) (And.intro k3 (And.intro hBB hK2)))
    clear h4 h5 h6 hB hK k1 k2 k3 hBB hK2 hs3
    rename_i Kk hKk
    refine hKk _ _ ?_
    clear hKk
    go_wp2_with fail
    obtain ⟨⟨k1, k2⟩, k3, hBB, hK2⟩ := HT.out
    clear c4 c5 c6 f4 f5 f6 HT
    revert k1 k2 k3 hBB hK2
    generalize ((W2.setCell ⟨w.heap.size, 0, none⟩ (.int .u64 0)).setCell ⟨w.heap.size + 1, 0, none⟩ (.int .i64 0)).setCell ⟨w.heap.size + 1 + 1, 0, none⟩ (.bool false) = W5
    intro k1 k2 k3 hBB hK2
    have b1 := (boxed_put (o := .deferred none) k1 (show w.heap.size ≠ D by omega)).cell
    have b2 := (boxed_put (o := .deferred none) k2 (show w.heap.size + 1 ≠ D by omega)).cell
    have b3 := (boxed_put (o := .deferred none) k3 (show w.heap.size + 1 + 1 ≠ D by omega)).cell
    have hB2 := hBB.trans ((kp_b (Nat.le_refl _) W5 D _ (.deferred none) (by omega) hK2 rfl rfl).1)
    refine ⟨by simp, .inl ⟨_, _, rfl, run_takeDeferred hK2, ?_⟩⟩
    refine ⟨firstV [], ?_, ?_, hB2⟩
    · simp [results, firstV, go_sem, b1, b2, b3]
    · rw [← hxs, hnil]
  case stop =>
    rintro D c pre W2 hD hpre ⟨rfl, x, rfl, ⟨⟨h4, h5⟩, h6⟩, hB⟩ hK
    have hz := HE4.out.size
    have hz4 : w.heap.size + 2 < W4.heap.size := H4.out.2.lt
    have b1 := (boxed_put (o := .deferred none) h4 (show w.heap.size ≠ D by omega)).cell
    have b2 := (boxed_put (o := .deferred none) h5 (show w.heap.size + 1 ≠ D by omega)).cell
    have b3 := (boxed_put (o := .deferred none) h6 (show w.heap.size + 2 ≠ D by omega)).cell
    have HK := Lib.hid hK
    rename_i Kk hKk
    have HBB := Lib.hid (hB.trans ((kp_b (Nat.le_refl _) W2 D _ (.deferred none) (by omega) hK rfl rfl).1))
    clear h4 h5 h6 hB hK
    clear hKk
    gi_wp2
    refine ⟨by simp, .inl ⟨_, _, rfl, run_takeDeferred HK.out, ?_⟩⟩
    refine ⟨firstV [x], ?_, ?_, HBB.out⟩
    · simp [results, firstV, go_sem, b1, b2, b3]
    · obtain ⟨r, hr⟩ := hpre
      rw [← hr]
      rfl
theorem First_any (b : Nat) (y : List (Int × Int)) (now : Int) (w : World) (hI : Idx w b y) :
    Calls Tryz.prog 48 #[.pointer (some ⟨b, 0, none⟩), .int .i64 now] w fun e w' => e = .returned (firstV (dueL now y)) ∧ Ext w w' :=
  First_of _ _ now w (fun _ _ _ _ hW c1 c2 c3 l1 l2 l3 => each_due (hI.ext hW) c1 c2 c3 l1 l2 l3)
theorem First_nil (now : Int) (w : World) : Calls Tryz.prog 48 #[.pointer none, .int .i64 now] w fun e w' => e = .returned (firstV []) ∧ Ext w w' :=
  First_of none [] now w (fun _ _ _ _ _ c1 _ _ l1 _ _ => each_nil c1 l1)
end Go.Proofs.YtdfbfcglacalmaaGreat.Exi
end

section
namespace Go.Proofs.YtdfbfcglacalmaaGreat.Sto
open Go.RowKit Go.Seg Go.Open Go.Lib Rk Ex St

abbrev SE : TypeId := 87
/-- The cells of a new store. -/
def CS0 (q : Option Addr) : Array Value := (Array.replicate 513 (.pointer none)).setIfInBounds 512 (.pointer q)
theorem zero_cells : Tryz.zeroCells87 = Array.replicate 513 (.pointer none) := by kernel_rfl
/-- A store: where its shards are, and their trees; its locks; what ends when. -/
structure Sto where
  ps : Nat → Option Nat
  te : Nat → T Int ShI.Ent
  tw : Nat → T Int (Int × Int)
  lk : Nat → Option Addr
  y : List (Int × Int)
  n : Nat
def pA : Option Nat → Value
  | none => .pointer none
  | some k => .pointer (some ⟨k, 0, none⟩)
structure StoC (w : World) (b bx : Nat) (s : Sto) (cs : Array Value) : Prop where
  blk : Blk w b cs SE
  size : cs.size = 513
  sh : ∀ i, i < 256 → cs[i]? = some (pA (s.ps i))
  lk : ∀ i, i < 256 → cs[256 + i]? = some (.pointer (s.lk i))
  ix : cs[512]? = some (.pointer (some ⟨bx, 0, none⟩))
  idx : Exi.Idx w bx s.y
  has : ∀ i k, s.ps i = some k → ShI.ShardAt w k (s.te i) (s.tw i)
  none : ∀ i, s.ps i = none → s.te i = .nil ∧ s.tw i = .nil
  inj : ∀ i j k, s.ps i = some k → s.ps j = some k → i = j
  low : s.n ≤ b ∧ s.n ≤ bx
  lows : ∀ i k, s.ps i = some k → s.n ≤ k
def StoAt (w : World) (b : Nat) (s : Sto) : Prop := ∃ bx cs, StoC w b bx s cs
theorem StoC.ext {w w' : World} {b bx : Nat} {s : Sto} {cs : Array Value} (h : StoC w b bx s cs) (e : Ext w w') : StoC w' b bx s cs :=
  ⟨h.blk.ext e, h.size, h.sh, h.lk, h.ix, h.idx.ext e, fun i k hk => (h.has i k hk).ext e, h.none, h.inj, h.low, h.lows⟩
theorem StoAt.ext {w w' : World} {b : Nat} {s : Sto} (h : StoAt w b s) (e : Ext w w') : StoAt w' b s := by
  obtain ⟨bx, cs, h⟩ := h
  exact ⟨bx, cs, h.ext e⟩
theorem idx_one {w w' : World} {b k : Nat} {y : List (Int × Int)} {cs : Array Value} {E : TypeId} (h : Exi.Idx w b y) (hc : Chg (· = k) w w') (hk : Blk w k cs E) (hE : [126, 203, 172, 177, 157].contains E = false) : Exi.Idx w' b y := by
  obtain ⟨te, tp, tt, ⟨q1, q2, h1, h2, h3, h4⟩, h5⟩ := h
  have n : ∀ x ∈ [126, 203, 172, 177, 157], E ≠ x := fun x hx e => by subst e; rw [List.contains_iff_mem.2 hx] at hE; cases hE
  exact ⟨te, tp, tt, ⟨q1, q2, h1.chg hc (.one hk (n _ (by simp))), h2.chg hc (.one hk (n _ (by simp))) (.one hk (n _ (by simp))), h3.chg hc (.one hk (n _ (by simp))) (.one hk (n _ (by simp))), fun x hx => (h4 x hx).chg hc (.one hk (n _ (by simp))) (.one hk (n _ (by simp)))⟩, h5⟩
theorem blk_ne' {w w' : World} {b k : Nat} {cs : Array Value} {E : TypeId} (h : Blk w b cs E) (hc : Chg (· = k) w w') (hn : b ≠ k) : Blk w' b cs E := (hc.block b h.lt hn).trans h
/-- Another shard changes. -/
theorem shard_other {w w' : World} {b k : Nat} {te : T Int ShI.Ent} {tw : T Int (Int × Int)} {cs : Array Value} (h : ShI.ShardAt w b te tw) (hc : Chg (· = k) w w') (hk : Blk w k cs 108) (hn : b ≠ k) : ShI.ShardAt w' b te tw := by
  obtain ⟨q1, q2, hB, h1, h2⟩ := h
  exact ⟨q1, q2, blk_ne' hB hc hn, h1.chg hc (.one hk (by decide)) (.one hk (by decide)), h2.chg hc (.one hk (by decide)) (.one hk (by decide))⟩
/-- One of the shards changes. -/
theorem StoC.shard {w w' : World} {b bx : Nat} {s : Sto} {cs : Array Value} (h : StoC w b bx s cs) {i k : Nat} (hi : s.ps i = some k) (hc : Chg (· = k) w w') {te' : T Int ShI.Ent} {tw' : T Int (Int × Int)} (hS : ShI.ShardAt w' k te' tw') :
    StoC w' b bx { s with te := updT s.te i te', tw := fun j => if j = i then tw' else s.tw j } cs := by
  obtain ⟨cs0, hk⟩ := (h.has i k hi).blk
  refine ⟨h.blk.chg hc (.one hk (by decide)), h.size, h.sh, h.lk, h.ix, idx_one h.idx hc hk (by decide), fun j m hj => ?_, fun j hj => ?_, h.inj, h.low, h.lows⟩
  · by_cases e : j = i
    · subst e
      have : m = k := Option.some.inj (hj.symm.trans hi)
      subst this
      simp only [updT_self, if_true]
      exact hS
    · simp only [updT_other s.te _ e, if_neg e]
      exact shard_other (h.has j m hj) hc hk (fun e2 => e (h.inj j i k (by rw [hj, e2]) hi))
  · have e : j ≠ i := fun e => by rw [e] at hj; rw [show s.ps i = Option.none from hj] at hi; cases hi
    simp only [updT_other s.te _ e, if_neg e]
    exact h.none j hj
/-- The index changes. -/
theorem StoC.index {w w' : World} {b bx : Nat} {s : Sto} {cs : Array Value} (h : StoC w b bx s cs) (hc : Chg (· = bx) w w') {y' : List (Int × Int)} (hI : Exi.Idx w' bx y') : StoC w' b bx { s with y := y' } cs := by
  obtain ⟨q1, q2, hk⟩ := h.idx.blk
  exact ⟨h.blk.chg hc (.one hk (by decide)), h.size, h.sh, h.lk, h.ix, hI, fun i k hi => (h.has i k hi).one hc hk (by decide), h.none, h.inj, h.low, h.lows⟩
theorem set_get {cs : Array Value} {i j : Nat} {v u : Value} (h : cs[j]? = some u) : (cs.setIfInBounds i v)[j]? = if i = j then some v else some u := by
  have hj := (Array.getElem?_eq_some_iff.1 h).1
  by_cases e : i = j
  · subst e
    simp [hj]
  · simp [e, h]
/-- A shard is laid. -/
theorem StoC.lay {w w2 : World} {b bx : Nat} {s : Sto} {cs : Array Value} (h : StoC w b bx s cs) (e : Ext w w2) {i k : Nat} (hi : i < 256) (h0 : s.ps i = Option.none) (hk : w.heap.size ≤ k) (hS : ShI.ShardAt w2 k .nil .nil) :
    StoC (w2.setCell ⟨b, i, Option.none⟩ (pA (some k))) b bx { s with ps := fun j => if j = i then some k else s.ps j } (cs.setIfInBounds i (pA (some k))) := by
  have h2 := h.ext e
  have hc := Chg.set w2 b i (pA (some k))
  have fresh : ∀ j m, s.ps j = some m → m ≠ k := fun j m hj e2 => by
    obtain ⟨cs0, hb⟩ := (h.has j m hj).blk
    have := hb.lt
    omega
  refine ⟨h2.blk.set i _ rfl, by simp [h2.size], fun j hj => ?_, fun j hj => ?_, ?_, idx_one h2.idx hc h2.blk (by decide), fun j m hj => ?_, fun j hj => ?_, fun j j' m hj hj' => ?_, h.low, fun j m hj => ?_⟩
  · rw [set_get (h2.sh j hj)]
    by_cases e3 : i = j
    · subst e3; simp
    · rw [if_neg e3]
      show _ = some (pA (if j = i then some k else s.ps j))
      rw [if_neg (Ne.symm e3)]
  · rw [set_get (h2.lk j hj), if_neg (by omega)]
  · rw [set_get h2.ix, if_neg (by omega)]
  · dsimp only at hj
    split at hj
    · rename_i e3
      subst e3
      have := Option.some.inj hj
      subst this
      have hn := h.none j h0
      show ShI.ShardAt _ k (s.te j) (s.tw j)
      rw [hn.1, hn.2]
      exact hS.one hc h2.blk (by decide)
    · exact (h2.has j m hj).one hc h2.blk (by decide)
  · dsimp only at hj
    split at hj
    · cases hj
    · exact h.none j hj
  · dsimp only at hj hj'
    split at hj <;> split at hj'
    · omega
    · exact absurd (Option.some.inj hj).symm (fresh j' m hj')
    · exact absurd (Option.some.inj hj').symm (fresh j m hj)
    · exact h.inj j j' m hj hj'
  · dsimp only at hj ⊢
    have := h.low.1
    have := h.blk.lt
    split at hj
    · have := Option.some.inj hj
      omega
    · exact h.lows j m hj
def sto0 (n : Nat) : Sto := ⟨fun _ => none, fun _ => .nil, fun _ => .nil, fun _ => none, [], n⟩
theorem cs0_get (q : Option Addr) {i : Nat} (h : i < 512) : (CS0 q)[i]? = some (.pointer none) := by
  unfold CS0
  rw [Array.getElem?_setIfInBounds, if_neg (by omega), Array.getElem?_replicate, if_pos (by omega)]
theorem cs0_last (q : Option Addr) : (CS0 q)[512]? = some (.pointer q) := by
  unfold CS0
  rw [Array.getElem?_setIfInBounds, if_pos rfl, if_pos (by simp)]
theorem cs0_size (q : Option Addr) : (CS0 q).size = 513 := by
  unfold CS0
  simp
theorem New_index (w : World) : Calls Tryz.prog 39 #[] w fun e w' => ∃ b, e = .returned (.pointer (some ⟨b, 0, none⟩)) ∧ w.heap.size ≤ b ∧ Exi.Idx w' b [] ∧ Ext w w' := by
  go_enter Tryz.func39, Tryz.ntmps39
  go_wp2_with fail
  refine (Exi.none_any _).mono ?_
  rintro e w1 ⟨q1, rfl, hq1, hE1⟩
  have HQ1 := Lib.hid hq1
  have HE1 := Lib.hid hE1
  clear hq1 hE1
  go_wp2_with fail
  refine (TrBk.New_any _).mono ?_
  rintro e w2 ⟨q2, rfl, hq2, hE2⟩
  have HQ2 := Lib.hid hq2
  have HE2 := Lib.hid hE2
  clear hq2 hE2
  go_wp2_with fail
  go_ret
  have hA : Ext w2 (w2.alloc (.cells #[.pointer q1, .pointer q2] 126)) := (Below.refl _ _).alloc (Nat.le_refl _) _
  refine ⟨_, rfl, (HE1.out.trans HE2.out).size, ⟨.nil, .nil, fun _ => .nil, ⟨q1, q2, Blk.new _ _ _, (HQ1.out.ext HE2.out).ext hA, HQ2.out.ext hA, fun x hx => by simp [T.toL] at hx⟩, Inv.nil, rfl⟩, HE1.out.trans (HE2.out.trans hA)⟩
theorem New_store (n : Nat) (w : World) (hn : n ≤ w.heap.size) : Calls Tryz.prog 6 #[] w fun e w' => ∃ b, e = .returned (.pointer (some ⟨b, 0, none⟩)) ∧ StoAt w' b (sto0 n) ∧ Ext w w' := by
  go_enter Tryz.func6, Tryz.ntmps6
  go_wp2_with fail
  refine (New_index _).mono ?_
  rintro e w1 ⟨bx, rfl, hlo, hI, hE1⟩
  have HLO := Lib.hid (And.intro hlo hE1.size)
  clear hlo
  have HI := Lib.hid hI
  have HE1 := Lib.hid hE1
  clear hI hE1
  go_wp2_with fail
  go_ret
  rw [zero_cells]
  have hA : Ext w1 (w1.alloc (.cells (CS0 (some ⟨bx, 0, none⟩)) SE)) := (Below.refl _ _).alloc (Nat.le_refl _) _
  exact ⟨_, rfl, ⟨bx, CS0 _, Blk.new _ _ _, cs0_size _, fun i hi => cs0_get _ (by omega), fun i hi => cs0_get _ (by omega), cs0_last _, HI.out.ext hA, (fun i k hk => by cases hk), fun i _ => ⟨rfl, rfl⟩, (fun i j k hk => by cases hk), ⟨by have := HLO.out.2; simp only [sto0]; omega, by have := HLO.out.1; simp only [sto0]; omega⟩, (fun i k hk => by cases hk)⟩, HE1.out.trans hA⟩
/-- Where a hash belongs. -/
theorem Shard_key (h : Int) (h0 : 0 ≤ h) (h1 : h ≤ 18446744073709551615) (w : World) : Calls Tryz.prog 59 #[.int .u64 h] w fun e w' => e = .returned (.int .i64 (shd h)) ∧ w = w' := by
  obtain ⟨i, hi⟩ : ∃ i : Nat, h % 256 = (i : Int) := ⟨(h % 256).toNat, by omega⟩
  have hlt : i < 256 := by omega
  have HS := Lib.hid (shd_of hi)
  go_enter Tryz.func59, Tryz.ntmps59
  go_wp2_with fail
  go_ret
  exact ⟨by (rw [HS.out]; try rfl), rfl⟩
end Go.Proofs.YtdfbfcglacalmaaGreat.Sto
end

section
namespace Go.Proofs.YtdfbfcglacalmaaGreat.Sto
open Go.RowKit Go.Seg Go.Open Go.Lib Rk Ex St

/-- What is told where a shard is asked for. -/
def Wayed (b : Nat) (s : Sto) (i : Nat) (w : World) (e : Ending) (w' : World) : Prop :=
  ∃ k bx cs s', e = .returned (.pointer (some ⟨k, 0, none⟩)) ∧ StoC w' b bx s' cs ∧ s'.ps i = some k ∧ s'.te = s.te ∧ s'.tw = s.tw ∧ s'.lk = s.lk ∧ s'.y = s.y ∧ s'.n = s.n ∧ Chg (· = b) w w'
set_option maxRecDepth 100000 in
set_option maxHeartbeats 2000000 in
theorem Ways_any (b : Nat) (s : Sto) (h : Int) (w : World) (hS : StoAt w b s) (h0 : 0 ≤ h) (h1 : h ≤ 18446744073709551615) :
    Calls Tryz.prog 28 #[.pointer (some ⟨b, 0, none⟩), .int .u64 h] w (Wayed b s (shd h) w) := by
  obtain ⟨bx, cs, hC⟩ := hS
  obtain ⟨i, hii⟩ : ∃ i, shd h = i := ⟨_, rfl⟩
  have hi : i < 256 := by rw [← hii]; exact shd_lt h
  have HS := Lib.hid hC
  have HI := Lib.hid hii
  have b0 : (0 : Int) ≤ (i : Int) := by omega
  have b1 : (i : Int) < 256 := by omega
  rw [hii]
  have c1 := (Blk.cells hC.blk i).trans (hC.sh i hi)
  have HK := Lib.hid (Shard_key h h0 h1 w)
  clear hC hii
  cases hps : s.ps i with
  | some k =>
    rw [hps] at c1
    unfold pA at c1
    have HP := Lib.hid hps
    clear hps
    go_enter Tryz.func28, Tryz.ntmps28
    go_wp2_with fail
    refine HK.out.mono ?_
    rintro e w' ⟨rfl, rfl⟩
    rw [HI.out]
    go_wp2_with fail
    go_ret
    exact ⟨k, bx, cs, s, rfl, HS.out, HP.out, rfl, rfl, rfl, rfl, rfl, Chg.refl _⟩
  | none =>
    rw [hps] at c1
    unfold pA at c1
    go_enter Tryz.func28, Tryz.ntmps28
    go_wp2_with fail
    refine HK.out.mono ?_
    rintro e w' ⟨rfl, rfl⟩
    rw [HI.out]
    go_wp2_with fail
    clear c1
    refine wp_region_segsK [([2, 1, 2, 2], 0, 0), ([1, 2], 1, 0), ([1, 1], 0, 0), ([1], 1, 0)] (by kernel_rfl) (by kernel_rfl) ?_
    apply segsK_pure
    · intro W
      simp only [runsT, runsF, rep, pick]
      go_wp2_with fail
      exact ⟨rfl, rfl⟩
    simp only [runsT, runsF, rep, left]
    apply segsK_op
    go_wp2_with fail
    refine (ShI.New_shard _).mono ?_
    rintro e w2 ⟨k, rfl, hk, hS, hE⟩
    have HN := Lib.hid (And.intro hk (And.intro hS (Ext.trans (Ext.drew _) hE)))
    have cb := (HS.out.ext HN.out.2.2).blk
    have c2 := (Blk.cells cb i).trans (HS.out.sh i hi)
    have f2 := cb.frozen i
    rw [hps] at c2
    unfold pA at c2
    clear hk hS hE cb
    go_wp2_with fail
    refine ⟨fun h => (by cases h), ?_⟩
    apply segsK_pure
    · intro W
      simp only [runsT, runsF, rep, pick]
      go_wp2_with fail
      exact ⟨rfl, rfl⟩
    simp only [runsT, runsF, rep, left]
    apply segsK_op
    go_wp2_with fail
    refine ⟨fun h => (by cases h), ?_⟩
    apply segsK_nil
    go_upto_region 6 with fail
    obtain ⟨w3, hw3⟩ : ∃ w3, w2.setCell ⟨b, i, Option.none⟩ (.pointer (some ⟨k, 0, Option.none⟩)) = w3 := ⟨_, rfl⟩
    rw [hw3]
    have hL := HS.out.lay HN.out.2.2 hi hps HN.out.1 HN.out.2.1
    have hC : Chg (· = b) w w3 := by rw [← hw3]; exact (Chg.of_below HN.out.2.2).trans (Chg.set _ _ _ _)
    unfold pA at hL
    rw [hw3] at hL
    have c3 : w3.cell? ⟨b, i, Option.none⟩ = some (.pointer (some ⟨k, 0, Option.none⟩)) := by
      have h3 := (Blk.cells hL.blk i).trans (hL.sh i hi)
      simpa [pA] using h3
    have HL := Lib.hid (And.intro hL hC)
    clear c2 f2 hw3 hL hC
    go_wp2_with fail
    go_ret
    exact ⟨k, bx, _, _, rfl, HL.out.1, by simp, rfl, rfl, rfl, rfl, rfl, HL.out.2⟩
end Go.Proofs.YtdfbfcglacalmaaGreat.Sto
end

section
namespace Go.Arr
open Go.RowKit Go.Seg Go.Open Go.Lib
variable {α : Type}

/-- A block holds these things, from its start on (f lays n cells for each). -/
def At (f : α → List Value) (n : Nat) (E : TypeId) (w : World) (b : Nat) (T : List α) : Prop :=
  ∃ cur, w.heap[b]? = some (.cells cur E (0, 0)) ∧ T.length * n ≤ cur.size ∧ cur.toList.take (T.length * n) = T.flatMap f
variable {f : α → List Value} {n : Nat} {E : TypeId} {w w' : World} {b : Nat} {T : List α} {P : Program}
theorem At.lt (h : At f n E w b T) : b < w.heap.size := by
  obtain ⟨cur, h1, _⟩ := h
  exact (Array.getElem?_eq_some_iff.1 h1).1
theorem At.ext (h : At f n E w b T) (e : Ext w w') : At f n E w' b T := by
  have hl := h.lt
  obtain ⟨cur, h1, h2⟩ := h
  exact ⟨cur, (e.block b hl).trans h1, h2⟩
theorem At.cell (hf : ∀ x, (f x).length = n) (h : At f n E w b T) (i : Nat) (hi : i < T.length) (j : Nat) (hj : j < n) : w.cell? ⟨b, i * n + j, none⟩ = (f T[i])[j]? := by
  obtain ⟨cur, h1, h2, h3⟩ := h
  have hlt : i * n + j < T.length * n := by
    have : (i + 1) * n ≤ T.length * n := Nat.mul_le_mul_right _ hi
    rw [Nat.add_mul] at this
    omega
  rw [cell_of_row w b (i * n + j) cur E (0, 0) h1, ← Row.flat_get f n hf T i hi j hj, ← h3, List.getElem?_take, if_pos hlt]
  simp
theorem At.load (hf : ∀ x, (f x).length = n) (h : At f n E w b T) (i : Nat) (hi : i < T.length) : (loadCellsFrom ⟨b, i * n, none⟩ 0 n #[]).run P w = .ok (f T[i]).toArray w :=
  Row.loadE (hf _) (fun j hj => h.cell hf i hi j hj)
theorem flat_set (hf : ∀ x, (f x).length = n) : ∀ (T : List α) (i : Nat) (x : α), i < T.length → (T.set i x).flatMap f = (T.flatMap f).take (i * n) ++ f x ++ (T.flatMap f).drop (i * n + n)
  | [], i, x, h => by simp at h
  | y :: T, 0, x, _ => by
    simp only [List.set_cons_zero, List.flatMap_cons, Nat.zero_mul, List.take_zero, List.nil_append, Nat.zero_add]
    rw [List.drop_append_of_le_length (by rw [hf]; exact Nat.le_refl _), show List.drop n (f y) = [] from List.drop_of_length_le (by rw [hf]; exact Nat.le_refl _), List.nil_append]
  | y :: T, i + 1, x, h => by
    have h' : i < T.length := by simpa using h
    simp only [List.set_cons_succ, List.flatMap_cons]
    rw [flat_set hf T i x h', show (i + 1) * n = n + i * n by rw [Nat.add_mul]; omega]
    have e1 : (f y ++ T.flatMap f).take (n + i * n) = f y ++ (T.flatMap f).take (i * n) := by
      rw [show n + i * n = (f y).length + i * n by rw [hf], List.take_length_add_append]
    have e2 : (f y ++ T.flatMap f).drop (n + i * n + n) = (T.flatMap f).drop (i * n + n) := by
      rw [show n + i * n + n = (f y).length + (i * n + n) by rw [hf]; omega, List.drop_length_add_append]
    rw [e1, e2]
    simp
theorem At.store (hf : ∀ x, (f x).length = n) (h1' : ∀ x, ∀ v ∈ f x, v.oneCell' = true) (h : At f n E w b T) (i : Nat) (hi : i < T.length) (x : α) :
    ∃ W, (storeCells ⟨b, i * n, none⟩ (f x).toArray.toList 0).run P w = .ok () W ∧ At f n E W b (T.set i x) ∧ Chg (· = b) w W := by
  obtain ⟨cur, h1, h2, h3⟩ := h
  have hin : i * n + n ≤ T.length * n := by
    have : (i + 1) * n ≤ T.length * n := Nat.mul_le_mul_right _ hi
    rw [Nat.add_mul] at this
    omega
  have hs := run_storeCells_at (P := P) b (i * n) E (f x) 0 cur w h1 (by rw [hf]; omega) (h1' x)
  rw [hf, Nat.add_zero] at hs
  refine ⟨_, by simpa using hs, ⟨_, setRow_heap w b cur _ E (0, 0) h1, ?_, ?_⟩, ?_⟩
  · rw [List.length_set]
    simp only [List.size_toArray, List.length_append, List.length_take, List.length_drop, Array.length_toList, hf]
    omega
  · rw [List.length_set, flat_set hf T i x hi, ← h3]
    have hc : cur.toList.length = cur.size := Array.length_toList
    have hl2 : T.length * n = i * n + (n + (T.length * n - (i * n + n))) := by omega
    simp only []
    rw [List.take_take, Nat.min_eq_left (show i * n ≤ T.length * n by omega), List.drop_take, List.append_assoc]
    try rw [List.append_assoc]
    have e0 : (List.take (i * n) cur.toList).length = i * n := by rw [List.length_take]; omega
    rw [show T.length * n = (List.take (i * n) cur.toList).length + (n + (T.length * n - (i * n + n))) by rw [e0]; exact hl2, List.take_length_add_append]
    rw [e0]
    congr 1
    rw [show n + (T.length * n - (i * n + n)) = (f x).length + (T.length * n - (i * n + n)) by rw [hf], List.take_length_add_append]
    congr 2
    have hfx := hf x
    omega
  · refine ⟨rfl, rfl, rfl, by simp [World.setRow], fun k hk hne => ?_⟩
    simp only [World.setRow, Array.getElem?_modify]
    rw [if_neg (fun e => hne e.symm)]

/-- Two things change their places. -/
theorem set2 (X Y Z : List α) (a c : α) : ((X ++ a :: (Y ++ c :: Z)).set X.length c).set (X.length + 1 + Y.length) a = X ++ c :: (Y ++ a :: Z) := by
  rw [List.set_append_right _ _ (Nat.le_refl _), Nat.sub_self, List.set_cons_zero, List.set_append_right _ _ (by omega), show X.length + 1 + Y.length - X.length = Y.length + 1 by omega, List.set_cons_succ, List.set_append_right _ _ (Nat.le_refl _), Nat.sub_self, List.set_cons_zero]
theorem set2r (X Y Z : List α) (a c : α) : ((X ++ a :: (Y ++ c :: Z)).set (X.length + 1 + Y.length) a).set X.length c = X ++ c :: (Y ++ a :: Z) := by
  rw [List.set_append_right _ _ (by omega), show X.length + 1 + Y.length - X.length = Y.length + 1 by omega, List.set_cons_succ, List.set_append_right _ _ (Nat.le_refl _), Nat.sub_self, List.set_cons_zero, List.set_append_right _ _ (Nat.le_refl _), Nat.sub_self, List.set_cons_zero]
theorem at1 (X Y Z : List α) (a c : α) (h : X.length < (X ++ a :: (Y ++ c :: Z)).length) : (X ++ a :: (Y ++ c :: Z))[X.length] = a := by simp
theorem at2 (X Y Z : List α) (a c : α) (h : X.length + 1 + Y.length < (X ++ a :: (Y ++ c :: Z)).length) : (X ++ a :: (Y ++ c :: Z))[X.length + 1 + Y.length] = c := by
  rw [List.getElem_append_right (by omega)]
  simp only [show X.length + 1 + Y.length - X.length = Y.length + 1 by omega, List.getElem_cons_succ]
  simp

/-- A load carried out as one. -/
theorem wpList_ldA {w : World} {ops : Array Oper} {rest : List Oper} {o : Oper} {a : Act} {Q : Exit → Act → World → Prop} (hw : Region.wanted o (yielded ops a.tmps) = true) (t : TypeId) (x : Operand) (ho : o.op = .load t x) (v : Value)
    (hl : (Instr.loadAt t (a.eval x)).run P w = .ok v w) (h : wpList P ops Q rest (a.put o.dst v) w) : wpList P ops Q (o :: rest) a w := by
  refine wpList_step fun K hK => ?_
  rw [if_pos hw]
  unfold Oper.wp
  simp [execOp, ho, hl, Result.andThen]
  exact hK _ _ h
/-- A store carried out as one. -/
theorem wpList_stA {w w' : World} {ops : Array Oper} {rest : List Oper} {o : Oper} {a : Act} {Q : Exit → Act → World → Prop} (hw : Region.wanted o (yielded ops a.tmps) = true) (t : TypeId) (x y : Operand) (ho : o.op = .store t x y) (hd : o.dst = none)
    (hl : (Instr.storeAt t (a.eval x) (a.eval y)).run P w = .ok () w') (h : wpList P ops Q rest a w') : wpList P ops Q (o :: rest) a w := by
  refine wpList_step fun K hK => ?_
  rw [if_pos hw]
  unfold Oper.wp
  simp [execOp, ho, hl, Result.andThen]
  exact hK _ _ (by rw [hd]; exact h)
theorem run_loadA {w : World} {t : TypeId} {ad : Addr} {cs : Array Value} (ha : (isAgg t).run P w = .ok true w) (hs : (sizeOf t).run P w = .ok n w) (hl : (loadCellsFrom ad 0 n #[]).run P w = .ok cs w) : (Instr.loadAt t (.pointer (some ad))).run P w = .ok (.agg cs) w := by
  simp [Instr.loadAt, Instr.sureAddr, loadVar, ha, hs, loadCells, hl]
theorem run_storeA {w w' : World} {t : TypeId} {ad : Addr} {cs : Array Value} (hs : (sizeOf t).run P w = .ok n w) (hn : cs.size = n) (hl : (storeCells ad cs.toList 0).run P w = .ok () w') : (Instr.storeAt t (.pointer (some ad)) (.agg cs)).run P w = .ok () w' := by
  simp [Instr.storeAt, Instr.sureAddr, storeVar, hs, Value.cells, hn, hl]
end Go.Arr
end

section
namespace Go.Proofs.YtdfbfcglacalmaaGreat.Sto
open Go.RowKit Go.Seg Go.Open Go.Lib Rk Ex St

/-- What a store holds; where its shards lie isn't told. -/
def Has (n : Nat) (w : World) (b : Nat) (te : Nat → T Int ShI.Ent) (tw : Nat → T Int (Int × Int)) (lk : Nat → Option Addr) (y : List (Int × Int)) : Prop :=
  ∃ ps, StoAt w b ⟨ps, te, tw, lk, y, n⟩
theorem Has.ext {w w' : World} {n b : Nat} {te tw lk y} (h : Has n w b te tw lk y) (e : Ext w w') : Has n w' b te tw lk y := by
  obtain ⟨ps, h⟩ := h
  exact ⟨ps, h.ext e⟩
theorem Has.blk {w : World} {n b : Nat} {te tw lk y} (h : Has n w b te tw lk y) : ∃ cs, Blk w b cs SE := by
  obtain ⟨ps, bx, cs, h⟩ := h
  exact ⟨cs, h.blk⟩
theorem StoC.one {w w' : World} {b bx k : Nat} {s : Sto} {cs c : Array Value} {E : TypeId} (h : StoC w b bx s cs) (hc : Chg (· = k) w w') (hk : Blk w k c E) (hE : [126, 203, 172, 177, 157, 108, 163, 167, 181, 142, SE].contains E = false) : StoC w' b bx s cs := by
  have n : ∀ x ∈ [126, 203, 172, 177, 157, 108, 163, 167, 181, 142, SE], E ≠ x := fun x hx e => by subst e; rw [List.contains_iff_mem.2 hx] at hE; cases hE
  refine ⟨h.blk.chg hc (.one hk (n _ (by simp))), h.size, h.sh, h.lk, h.ix, idx_one h.idx hc hk ?_, fun i m hm => (h.has i m hm).one hc hk ?_, h.none, h.inj, h.low, h.lows⟩
  · rw [← Bool.not_eq_true, List.contains_iff_mem]
    intro hm
    exact n E (by simp only [List.mem_cons] at hm ⊢; rcases hm with h | h | h | h | h | h <;> simp [h] at *) rfl
  · rw [← Bool.not_eq_true, List.contains_iff_mem]
    intro hm
    exact n E (by simp only [List.mem_cons] at hm ⊢; rcases hm with h | h | h | h | h | h <;> simp [h] at *) rfl
theorem Has.one {w w' : World} {n b k : Nat} {te tw lk y} {c : Array Value} {E : TypeId} (h : Has n w b te tw lk y) (hc : Chg (· = k) w w') (hk : Blk w k c E) (hE : [126, 203, 172, 177, 157, 108, 163, 167, 181, 142, SE].contains E = false) : Has n w' b te tw lk y := by
  obtain ⟨ps, bx, cs, h⟩ := h
  exact ⟨ps, bx, cs, h.one hc hk hE⟩

theorem agg_e (w : World) : (isAgg 41).run Tryz.prog w = .ok true w := by kernel_rfl
theorem size_e (w : World) : (sizeOf 41).run Tryz.prog w = .ok 6 w := by kernel_rfl
theorem agg_p (w : World) : (isAgg 39).run Tryz.prog w = .ok true w := by kernel_rfl
theorem size_p (w : World) : (sizeOf 39).run Tryz.prog w = .ok 2 w := by kernel_rfl
theorem ldE {w : World} {k : Nat} {c : Array Value} (h : Blk w k c 41) (hn : c.size = 6) : (Instr.loadAt 41 (.pointer (some ⟨k, 0, none⟩))).run Tryz.prog w = .ok (.agg c) w :=
  Arr.run_loadA (agg_e w) (size_e w) (struct_load h 6 hn)
theorem ldP {w : World} {k : Nat} {c : Array Value} (h : Blk w k c 39) (hn : c.size = 2) : (Instr.loadAt 39 (.pointer (some ⟨k, 0, none⟩))).run Tryz.prog w = .ok (.agg c) w :=
  Arr.run_loadA (agg_p w) (size_p w) (struct_load h 2 hn)
theorem stE {w : World} {k : Nat} {c : Array Value} (h : Blk w k c 41) (hn : c.size = 6) (v : ShI.Ent) :
    ∃ W, (Instr.storeAt 41 (.pointer (some ⟨k, 0, none⟩)) (.agg #[.int .u64 v.1, .int .i64 v.2.1, .int .i64 v.2.2.1, .int .i64 v.2.2.2.1, .int .i64 v.2.2.2.2.1, .int .i64 v.2.2.2.2.2])).run Tryz.prog w = .ok () W ∧ Blk W k #[.int .u64 v.1, .int .i64 v.2.1, .int .i64 v.2.2.1, .int .i64 v.2.2.2.1, .int .i64 v.2.2.2.2.1, .int .i64 v.2.2.2.2.2] 41 ∧ Chg (· = k) w W := by
  obtain ⟨W, h1, h2, h3⟩ := struct_store (P := Tryz.prog) #[.int .u64 v.1, .int .i64 v.2.1, .int .i64 v.2.2.1, .int .i64 v.2.2.2.1, .int .i64 v.2.2.2.2.1, .int .i64 v.2.2.2.2.2] h (by kernel_rfl) hn (by simp [Value.oneCell'])
  exact ⟨W, Arr.run_storeA (size_e w) rfl h1, h2, h3⟩
def ev (o : Option ShI.Ent) : ShI.Ent := o.getD ShI.zE
def tup (v : ShI.Ent) (ok : Bool) : Value := .tuple #[.agg #[.int .u64 v.1, .int .i64 v.2.1, .int .i64 v.2.2.1, .int .i64 v.2.2.2.1, .int .i64 v.2.2.2.2.1, .int .i64 v.2.2.2.2.2], .bool ok]
/-- The shard of a hash, whether or not it was there. -/
theorem Ways_has {n b : Nat} {te : Nat → T Int ShI.Ent} {tw : Nat → T Int (Int × Int)} {lk : Nat → Option Addr} {y : List (Int × Int)} (h : Int) {w : World} (hS : Has n w b te tw lk y) (h0 : 0 ≤ h) (h1 : h ≤ 18446744073709551615) :
    Calls Tryz.prog 28 #[.pointer (some ⟨b, 0, none⟩), .int .u64 h] w fun e w' => ∃ ps k, e = .returned (.pointer (some ⟨k, 0, none⟩)) ∧ StoAt w' b ⟨ps, te, tw, lk, y, n⟩ ∧ ps (shd h) = some k ∧ Chg (· = b) w w' := by
  obtain ⟨ps, hS⟩ := hS
  refine (Ways_any b _ h w hS h0 h1).mono ?_
  rintro e w' ⟨k, bx, cs, ⟨ps', te', tw', lk', y', n'⟩, rfl, hC, hk, rfl, rfl, rfl, rfl, rfl, hG⟩
  exact ⟨ps', k, rfl, ⟨bx, cs, hC⟩, hk, hG⟩
theorem StoAt.shardAt {w : World} {b : Nat} {s : Sto} (h : StoAt w b s) {i k : Nat} (hk : s.ps i = some k) : ShI.ShardAt w k (s.te i) (s.tw i) := by
  obtain ⟨bx, cs, h⟩ := h
  exact h.has i k hk
theorem Shard_look (k : Nat) (te : T Int ShI.Ent) (tw : T Int (Int × Int)) (h : Int) (w : World) (hS : ShI.ShardAt w k te tw) (hs : te.sz < 1000000) :
    Calls Tryz.prog 47 #[.pointer (some ⟨k, 0, none⟩), .int .u64 h] w fun e w' => e = .returned (tup (ev (T.get cint h te)) (T.get cint h te).isSome) ∧ Ext w w' :=
  ShI.Look_any k te tw h w hS hs
/-- What is there of a pair. -/
def findO (te : T Int ShI.Ent) (h c : Int) : Option ShI.Ent := match T.get cint h te with
  | some v => if v.1 = c then some v else none
  | none => none
theorem Shard_find (k : Nat) (te : T Int ShI.Ent) (tw : T Int (Int × Int)) (h c : Int) (w : World) (hS : ShI.ShardAt w k te tw) (hs : te.sz < 1000000) :
    Calls Tryz.prog 58 #[.pointer (some ⟨k, 0, none⟩), .agg #[.int .u64 h, .int .u64 c]] w fun e w' => e = .returned (tup (ev (findO te h c)) (findO te h c).isSome) ∧ Ext w w' := by
  unfold findO
  cases hg : T.get cint h te with
  | none => exact ShI.Find_none k te tw h c w hS hs hg
  | some v =>
    dsimp only
    by_cases hc : v.1 = c
    · rw [if_pos hc]
      exact ShI.Find_some k te tw h c v w hS hs hg hc
    · rw [if_neg hc]
      exact ShI.Find_other k te tw h c v w hS hs hg hc
set_option maxRecDepth 100000 in
set_option maxHeartbeats 4000000 in
theorem Look_any {n b : Nat} {te : Nat → T Int ShI.Ent} {tw : Nat → T Int (Int × Int)} {lk : Nat → Option Addr} {y : List (Int × Int)} (h : Int) {w : World} (hS : Has n w b te tw lk y) (h0 : 0 ≤ h) (h1 : h ≤ 18446744073709551615) (hz : (te (shd h)).sz < 1000000) :
    Calls Tryz.prog 8 #[.pointer (some ⟨b, 0, none⟩), .int .u64 h] w fun e w' => e = .returned (tup (ev (T.get cint h (te (shd h)))) (T.get cint h (te (shd h))).isSome) ∧ Has n w' b te tw lk y ∧ Chg (· = b) w w' := by
  obtain ⟨i, hi⟩ : ∃ i, shd h = i := ⟨_, rfl⟩
  rw [hi] at hz ⊢
  have HZ := Lib.hid hz
  have HI := Lib.hid hi
  have HS := Lib.hid hS
  clear hz hi hS
  have hA : Ext w (w.alloc (Obj.cells #[.int .u64 0, .int .i64 0, .int .i64 0, .int .i64 0, .int .i64 0, .int .i64 0] 41)) := (Below.refl _ _).alloc (Nat.le_refl _) _
  have HA := Lib.hid hA
  have HR := Lib.hid (show Blk (w.alloc (Obj.cells #[.int .u64 0, .int .i64 0, .int .i64 0, .int .i64 0, .int .i64 0, .int .i64 0] 41)) w.heap.size #[.int .u64 0, .int .i64 0, .int .i64 0, .int .i64 0, .int .i64 0, .int .i64 0] 41 from Blk.new _ _ _)
  go_enter Tryz.func8, Tryz.ntmps8
  go_wp2_with fail
  refine (Ways_has h (HS.out.ext HA.out) h0 h1).mono ?_
  rintro e w1 ⟨ps, k, rfl, hS1, hk1, hC1⟩
  obtain ⟨c0, hB⟩ := (HS.out.ext HA.out).blk
  have HS1 := Lib.hid hS1
  have HC1 := Lib.hid ((Chg.of_below HA.out).trans hC1)
  have HR1 := Lib.hid (HR.out.chg hC1 (.one hB (by decide)))
  rw [HI.out] at hk1
  have HK := Lib.hid (hS1.shardAt hk1)
  clear hS1 hk1 hC1 hA hB
  go_wp2_with fail
  refine (Shard_look k _ _ h _ HK.out HZ.out).mono ?_
  rintro e w2 ⟨rfl, hE2⟩
  obtain ⟨v, hv⟩ : ∃ v, ev (T.get cint h (te i)) = v := ⟨_, rfl⟩
  obtain ⟨ok, hok⟩ : ∃ ok, (T.get cint h (te i)).isSome = ok := ⟨_, rfl⟩
  rw [hv, hok]
  unfold tup
  have HR2 := Lib.hid (HR1.out.ext hE2)
  have HS2 := Lib.hid (HS1.out.ext hE2)
  have HC2 := Lib.hid (HC1.out.trans (Chg.of_below hE2))
  have hcr : ∀ i, w2.cell? ⟨w.heap.size, i, none⟩ = (#[.int .u64 0, .int .i64 0, .int .i64 0, .int .i64 0, .int .i64 0, .int .i64 0] : Array Value)[i]? := fun i => HR2.out.cells i
  have hfr : ∀ i, w2.frozen? ⟨w.heap.size, i, none⟩ = false := fun i => HR2.out.frozen i
  have HV := Lib.hid (And.intro hv hok)
  clear hE2 hv hok
  go_wp2_with fail
  (try simp only [Exit.inBlock, Exit.then])
  have hX := Chg.set6 w2 w.heap.size (.int .u64 v.1) (.int .i64 v.2.1) (.int .i64 v.2.2.1) (.int .i64 v.2.2.2.1) (.int .i64 v.2.2.2.2.1) (.int .i64 v.2.2.2.2.2)
  refine bodyPost_ret (results_struct (ty := 41) rfl rfl rfl (c := #[.int .u64 v.1, .int .i64 v.2.1, .int .i64 v.2.2.1, .int .i64 v.2.2.2.1, .int .i64 v.2.2.2.2.1, .int .i64 v.2.2.2.2.2]) (Blk.set6 HR2.out rfl _ _ _ _ _ _) (by kernel_rfl) (by kernel_rfl)) rfl ?_
  exact ⟨by rw [HV.out.1, HV.out.2]; rfl, Has.one ⟨ps, HS2.out⟩ hX HR2.out (by decide), HC2.out.onNew hX (Nat.le_refl _)⟩
set_option maxRecDepth 100000 in
set_option maxHeartbeats 4000000 in
theorem Find_any {n b : Nat} {te : Nat → T Int ShI.Ent} {tw : Nat → T Int (Int × Int)} {lk : Nat → Option Addr} {y : List (Int × Int)} (h c : Int) {w : World} (hS : Has n w b te tw lk y) (h0 : 0 ≤ h) (h1 : h ≤ 18446744073709551615) (hz : (te (shd h)).sz < 1000000) :
    Calls Tryz.prog 22 #[.pointer (some ⟨b, 0, none⟩), .agg #[.int .u64 h, .int .u64 c]] w fun e w' => e = .returned (tup (ev (findO (te (shd h)) h c)) (findO (te (shd h)) h c).isSome) ∧ Has n w' b te tw lk y ∧ Chg (· = b) w w' := by
  obtain ⟨i, hi⟩ : ∃ i, shd h = i := ⟨_, rfl⟩
  rw [hi] at hz ⊢
  obtain ⟨o, ho⟩ : ∃ o, findO (te i) h c = o := ⟨_, rfl⟩
  obtain ⟨v, hv⟩ : ∃ v, ev o = v := ⟨_, rfl⟩
  obtain ⟨ok, hok⟩ : ∃ ok, o.isSome = ok := ⟨_, rfl⟩
  rw [ho, hv, hok]
  unfold tup
  have HV := Lib.hid (And.intro ho (And.intro hv hok))
  have HZ := Lib.hid hz
  have HI := Lib.hid hi
  have hA : Ext w ((w.alloc (Obj.cells #[.int .u64 h, .int .u64 c] 39)).alloc (Obj.cells #[.int .u64 0, .int .i64 0, .int .i64 0, .int .i64 0, .int .i64 0, .int .i64 0] 41)) := ((Below.refl _ _).alloc (Nat.le_refl _) _).alloc (by simp) _
  have HA := Lib.hid hA
  have HP := Lib.hid (show Blk ((w.alloc (Obj.cells #[.int .u64 h, .int .u64 c] 39)).alloc (Obj.cells #[.int .u64 0, .int .i64 0, .int .i64 0, .int .i64 0, .int .i64 0, .int .i64 0] 41)) w.heap.size #[.int .u64 h, .int .u64 c] 39 from (Blk.new _ _ _).ext ((Below.refl _ _).alloc (Nat.le_refl _) _))
  have HR := Lib.hid (show Blk ((w.alloc (Obj.cells #[.int .u64 h, .int .u64 c] 39)).alloc (Obj.cells #[.int .u64 0, .int .i64 0, .int .i64 0, .int .i64 0, .int .i64 0, .int .i64 0] 41)) (w.heap.size + 1) #[.int .u64 0, .int .i64 0, .int .i64 0, .int .i64 0, .int .i64 0, .int .i64 0] 41 from ShI.blk_at (by simp))
  have HS0 := Lib.hid (hS.ext hA)
  clear hz hi hS hA ho hv hok
  go_enter Tryz.func22, Tryz.ntmps22
  go_wp2_with fail
  refine wp_region_segsE (fun W => Blk W w.heap.size #[.int .u64 h, .int .u64 c] 39) (.quiet [3, 1, 1, 5] (.alt 0 (.alt 0 (.quiet [2, 2] (.alt 0 (.quiet [1] .done) .stop)) .stop) .stop)) (by kernel_rfl) (by kernel_rfl) (HP.out.ext (Ext.drew _)) ?_
  apply segE_quiet
  · intro W hW
    have cp : ∀ i, W.cell? ⟨w.heap.size, i, none⟩ = (#[.int .u64 h, .int .u64 c] : Array Value)[i]? := fun i => hW.cells i
    simp only [runsT, runsF, rep, pick]
    go_wp2_with fail
    exact ⟨rfl, rfl⟩
  simp only [runsT, runsF, rep, left]
  refine segE_alt _ rfl ?_ ?_
  · skip
    go_wp2_with fail
    refine (Ways_has h (HS0.out.ext (Ext.drew _)) h0 h1).mono ?_
    rintro e w1 ⟨ps, k, rfl, hS1, hk1, hC1⟩
    obtain ⟨c0, hB⟩ := (HS0.out.ext (Ext.drew _)).blk
    rw [HI.out] at hk1
    have HS1 := Lib.hid hS1
    have HK1 := Lib.hid (hS1.shardAt hk1)
    have HC1 := Lib.hid ((Chg.of_below (HA.out.trans (Ext.drew _))).trans hC1)
    have HP1 := Lib.hid ((HP.out.ext (Ext.drew _)).chg hC1 (.one hB (by decide)))
    have HR1 := Lib.hid ((HR.out.ext (Ext.drew _)).chg hC1 (.one hB (by decide)))
    clear hS1 hk1 hC1 hB
    go_wp2_with fail
    refine ⟨HP1.out, ?_⟩
    try dsimp only [List.eraseIdx]
    refine segE_alt _ rfl ?_ ?_
    · skip
      go_wp2_with fail
      refine (Shard_find k _ _ h c _ HK1.out HZ.out).mono ?_
      rintro e w2 ⟨rfl, hE2⟩
      rw [HV.out.1, HV.out.2.1, HV.out.2.2]
      unfold tup
      have HS2 := Lib.hid (HS1.out.ext hE2)
      have HC2 := Lib.hid (HC1.out.trans (Chg.of_below hE2))
      have HP2 := Lib.hid (HP1.out.ext hE2)
      have HR2 := Lib.hid (HR1.out.ext hE2)
      obtain ⟨w3, s1, hR3, hX⟩ := stE HR2.out rfl v
      have HR3 := Lib.hid hR3
      have HX := Lib.hid hX
      have HP3 := Lib.hid (HP2.out.chg hX (.one HR2.out (by decide)))
      clear hE2 hR3 hX
      go_wp2_with fail
      refine ⟨HP2.out, ?_⟩
      try dsimp only [List.eraseIdx]
      apply segE_quiet
      · intro W hW
        have cp : ∀ i, W.cell? ⟨w.heap.size, i, none⟩ = (#[.int .u64 h, .int .u64 c] : Array Value)[i]? := fun i => hW.cells i
        simp only [runsT, runsF, rep, pick]
        go_wp2_with fail
        exact ⟨rfl, rfl⟩
      simp only [runsT, runsF, rep, left]
      refine segE_alt _ rfl ?_ ?_
      · skip
        go_wp2_with (first | refine Arr.wpList_stA rfl _ _ _ rfl rfl s1 ?_)
        refine ⟨HP3.out, ?_⟩
        try dsimp only [List.eraseIdx]
        apply segE_quiet
        · intro W hW
          have cp : ∀ i, W.cell? ⟨w.heap.size, i, none⟩ = (#[.int .u64 h, .int .u64 c] : Array Value)[i]? := fun i => hW.cells i
          simp only [runsT, runsF, rep, pick]
          go_wp2_with fail
          exact ⟨rfl, rfl⟩
        simp only [runsT, runsF, rep, left]
        apply segE_done
        go_wp2_with fail
        (try simp only [Exit.inBlock, Exit.then])
        refine bodyPost_ret (results_struct (ty := 41) rfl rfl rfl (c := #[.int .u64 v.1, .int .i64 v.2.1, .int .i64 v.2.2.1, .int .i64 v.2.2.2.1, .int .i64 v.2.2.2.2.1, .int .i64 v.2.2.2.2.2]) HR3.out (by kernel_rfl) (by kernel_rfl)) rfl ?_
        exact ⟨rfl, Has.one ⟨ps, HS2.out⟩ HX.out HR2.out (by decide), HC2.out.onNew HX.out (Nat.le_succ _)⟩
      exact segE_stop
    exact segE_stop
  exact segE_stop
end Go.Proofs.YtdfbfcglacalmaaGreat.Sto
end

section
namespace Go.Proofs.YtdfbfcglacalmaaGreat.Sto
open Go.RowKit Go.Seg Go.Open Go.Lib Rk Ex St

/-- Only blocks of stores, shards and indices change. -/
def Own3 (n : Nat) (w : World) (k : Nat) : Prop := n ≤ k ∧ ∃ cs E f, w.heap[k]? = some (.cells cs E f) ∧ (E = SE ∨ E = 108 ∨ E = 126)
def Frm (n : Nat) (w w' : World) : Prop := Chg (Own3 n w) w w'
theorem Frm.trans {n : Nat} {a c d : World} (h : Frm n a c) (k : Frm n c d) : Frm n a d :=
  ⟨k.os.trans h.os, k.tape.trans h.tape, k.output.trans h.output, Nat.le_trans h.size k.size, fun i hi hs => by
    have e := h.block i hi hs
    exact (k.block i (Nat.lt_of_lt_of_le hi h.size) (fun ⟨hn, cs, E, f, hb, hE⟩ => hs ⟨hn, cs, E, f, by rw [← e]; exact hb, hE⟩)).trans e⟩
theorem Frm.of {n : Nat} {w w' : World} {k : Nat} {cs : Array Value} {E : TypeId} (h : Chg (· = k) w w') (hB : Blk w k cs E) (hn : n ≤ k) (hE : E = SE ∨ E = 108 ∨ E = 126) : Frm n w w' :=
  ⟨h.os, h.tape, h.output, h.size, fun i hi hs => h.block i hi (fun e => hs (by subst e; exact ⟨hn, cs, E, _, hB, hE⟩))⟩
theorem Frm.ext {n : Nat} {w w' : World} (h : Ext w w') : Frm n w w' := ⟨(Chg.of_below (S := fun _ => False) h).os, (Chg.of_below (S := fun _ => False) h).tape, (Chg.of_below (S := fun _ => False) h).output, h.size, fun i hi _ => h.block i hi⟩
theorem Frm.new {n : Nat} {w a c : World} (h : Frm n w a) {j : Nat} (k : Chg (· = j) a c) (hj : w.heap.size ≤ j) : Frm n w c := Chg.onNew h k hj
theorem blk_frm {n : Nat} {w w' : World} {k : Nat} {cs : Array Value} {E : TypeId} (h : Blk w k cs E) (hF : Frm n w w') (h1 : E ≠ SE) (h2 : E ≠ 108) (h3 : E ≠ 126) : Blk w' k cs E :=
  (hF.block k h.lt (fun ⟨_, cs', E', f, hb, hE⟩ => by
    rw [show w.heap[k]? = some (.cells cs E (0, 0)) from h] at hb
    have he : E = E' := by injection hb with hb; injection hb
    subst he
    rcases hE with h | h | h
    · exact h1 h
    · exact h2 h
    · exact h3 h)).trans h
/-- A shard of a store changes. -/
theorem StoAt.put {w w' : World} {n b i k : Nat} {ps : Nat → Option Nat} {te : Nat → T Int ShI.Ent} {tw : Nat → T Int (Int × Int)} {lk : Nat → Option Addr} {y : List (Int × Int)} {te' : T Int ShI.Ent}
    (h : StoAt w b ⟨ps, te, tw, lk, y, n⟩) (hk : ps i = some k) (hc : Chg (· = k) w w') (hS : ShI.ShardAt w' k te' (tw i)) : StoAt w' b ⟨ps, updT te i te', tw, lk, y, n⟩ ∧ Frm n w w' := by
  obtain ⟨bx, cs, h⟩ := h
  obtain ⟨c0, hB⟩ := (h.has i k hk).blk
  have h2 := h.shard hk hc hS
  have e : (fun j => if j = i then tw i else tw j) = tw := by funext j; split <;> simp [*]
  refine ⟨⟨bx, cs, ?_⟩, .of hc hB (h.lows i k hk) (.inr (.inl rfl))⟩
  dsimp only at h2
  rw [e] at h2
  exact h2
/-- The index of a store. -/
theorem StoAt.ix {w : World} {n b : Nat} {ps : Nat → Option Nat} {te : Nat → T Int ShI.Ent} {tw : Nat → T Int (Int × Int)} {lk : Nat → Option Addr} {y : List (Int × Int)}
    (h : StoAt w b ⟨ps, te, tw, lk, y, n⟩) : ∃ bx, w.cell? ⟨b, 512, none⟩ = some (.pointer (some ⟨bx, 0, none⟩)) ∧ Exi.Idx w bx y ∧ ∀ w' y', Chg (· = bx) w w' → Exi.Idx w' bx y' → StoAt w' b ⟨ps, te, tw, lk, y', n⟩ ∧ Frm n w w' := by
  obtain ⟨bx, cs, h⟩ := h
  refine ⟨bx, (Blk.cells h.blk 512).trans h.ix, h.idx, fun w' y' hc hI => ⟨⟨bx, cs, h.index hc hI⟩, ?_⟩⟩
  obtain ⟨q1, q2, hk⟩ := h.idx.blk
  exact .of hc hk h.low.2 (.inr (.inr rfl))
theorem StoAt.blk {w : World} {b : Nat} {s : Sto} (h : StoAt w b s) : ∃ cs, Blk w b cs SE := by
  obtain ⟨bx, cs, h⟩ := h
  exact ⟨cs, h.blk⟩
theorem Has.frm {w w' : World} {n b : Nat} {te tw lk y} (h : Has n w b te tw lk y) (hc : Chg (· = b) w w') : Frm n w w' := by
  obtain ⟨ps, bx, cs, h⟩ := h
  exact .of hc h.blk h.low.1 (.inl rfl)
/-- Is an entry renewed? -/
def renB (te : T Int ShI.Ent) (h : Int) (v : ShI.Ent) : Bool := match T.get cint h te with
  | some u => decide (u.1 = v.1 ∧ u.2.2.2.1 = v.2.2.2.1)
  | none => false
theorem Shard_renew (k : Nat) (te : T Int ShI.Ent) (tw : T Int (Int × Int)) (h : Int) (v : ShI.Ent) (w : World) (hS : ShI.ShardAt w k te tw) (hs : te.sz < 1000000) :
    Calls Tryz.prog 80 #[.pointer (some ⟨k, 0, none⟩), .int .u64 h, .agg #[.int .u64 v.1, .int .i64 v.2.1, .int .i64 v.2.2.1, .int .i64 v.2.2.2.1, .int .i64 v.2.2.2.2.1, .int .i64 v.2.2.2.2.2]] w fun e w' => e = .returned (.bool (renB te h v)) ∧ ShI.ShardAt w' k (if renB te h v = true then T.put cint h v te else te) tw ∧ Chg (· = k) w w' := by
  unfold renB
  cases hg : T.get cint h te with
  | none =>
    refine (ShI.Renew_none k te tw h v w hS hs hg).mono ?_
    rintro e w' ⟨rfl, hE⟩
    exact ⟨rfl, by simpa using hS.ext hE, Chg.of_below hE⟩
  | some u =>
    by_cases hc : u.1 = v.1
    · by_cases he : u.2.2.2.1 = v.2.2.2.1
      · refine (ShI.Renew_yes k te tw h v u w hS hs hg hc he).mono ?_
        rintro e w' ⟨rfl, hS', hE⟩
        exact ⟨by simp [hc, he], by simpa [hc, he] using hS', hE⟩
      · refine (ShI.Renew_old k te tw h v u w hS hs hg hc he).mono ?_
        rintro e w' ⟨rfl, hE⟩
        exact ⟨by simp [he], by simpa [he] using hS.ext hE, Chg.of_below hE⟩
    · refine (ShI.Renew_other k te tw h v u w hS hs hg hc).mono ?_
      rintro e w' ⟨rfl, hE⟩
      exact ⟨by simp [hc], by simpa [hc] using hS.ext hE, Chg.of_below hE⟩
theorem Shard_remove (k : Nat) (te : T Int ShI.Ent) (tw : T Int (Int × Int)) (h : Int) (w : World) (hS : ShI.ShardAt w k te tw) (hs : te.sz < 1000000) :
    Calls Tryz.prog 81 #[.pointer (some ⟨k, 0, none⟩), .int .u64 h] w fun e w' => e = .returned (tup (ev (T.get cint h te)) (T.get cint h te).isSome) ∧ ShI.ShardAt w' k (if (T.get cint h te).isSome = true then T.drop cint h te else te) tw ∧ Chg (· = k) w w' := by
  cases hg : T.get cint h te with
  | none =>
    refine (ShI.Remove_none k te tw h w hS hs hg).mono ?_
    rintro e w' ⟨rfl, hE⟩
    exact ⟨rfl, by simpa using hS.ext hE, Chg.of_below hE⟩
  | some u =>
    refine (ShI.Remove_some k te tw h u w hS hs hg).mono ?_
    rintro e w' ⟨rfl, hS', hE⟩
    exact ⟨rfl, by simpa using hS', hE⟩
theorem over_any (e now : Int) (w : World) : Calls Tryz.prog 52 #[.int .i64 e, .int .i64 now] w fun v w' => v = .returned (.bool (decide (0 < e ∧ e ≤ now))) ∧ w = w' := by
  by_cases h : 0 < e
  · go_enter Tryz.func52, Tryz.ntmps52
    go_wp2_with fail
    go_ret
    exact ⟨by simp [h], rfl⟩
  · go_enter Tryz.func52, Tryz.ntmps52
    go_wp2_with fail
    go_ret
    exact ⟨by simp; omega, rfl⟩
/-- What is seen. -/
def seenB (v : ShI.Ent) (epoch now : Int) : Bool := decide (v.2.2.2.1 = epoch) && !decide (0 < v.2.2.1 ∧ v.2.2.1 ≤ now)
set_option maxHeartbeats 1000000 in
theorem Seen_any (v : ShI.Ent) (epoch now : Int) (w : World) : Calls Tryz.prog 16 #[.agg #[.int .u64 v.1, .int .i64 v.2.1, .int .i64 v.2.2.1, .int .i64 v.2.2.2.1, .int .i64 v.2.2.2.2.1, .int .i64 v.2.2.2.2.2], .int .i64 epoch, .int .i64 now] w fun e w' => e = .returned (.bool (seenB v epoch now)) ∧ Ext w w' := by
  have hA : Ext w (w.alloc (Obj.cells #[.int .u64 v.1, .int .i64 v.2.1, .int .i64 v.2.2.1, .int .i64 v.2.2.2.1, .int .i64 v.2.2.2.2.1, .int .i64 v.2.2.2.2.2] 41)) := (Below.refl _ _).alloc (Nat.le_refl _) _
  have HA := Lib.hid hA
  clear hA
  unfold seenB
  by_cases h : v.2.2.2.1 = epoch
  · have d : (v.2.2.2.1 == epoch) = true := by simp [h]
    have HH := Lib.hid h
    clear h
    go_enter Tryz.func16, Tryz.ntmps16
    go_wp2_with fail
    refine (over_any _ _ _).mono ?_
    rintro e w' ⟨rfl, rfl⟩
    go_wp2_with fail
    go_ret
    exact ⟨by simp [HH.out], HA.out⟩
  · have d : (v.2.2.2.1 == epoch) = false := by simp [h]
    have HH := Lib.hid h
    clear h
    go_enter Tryz.func16, Tryz.ntmps16
    go_wp2_with fail
    go_ret
    exact ⟨by simp [HH.out], HA.out⟩
end Go.Proofs.YtdfbfcglacalmaaGreat.Sto
end

section
namespace Go.Proofs.YtdfbfcglacalmaaGreat.Sto
open Go.RowKit Go.Seg Go.Open Go.Lib Rk Ex St

section
variable {n b : Nat} {te : Nat → T Int ShI.Ent} {tw : Nat → T Int (Int × Int)} {lk : Nat → Option Addr} {y : List (Int × Int)}
/-- What is told of the first that is due. -/
def dueV : List (Int × Int) → Value
  | [] => .tuple #[.int .u64 0, .bool false]
  | x :: _ => .tuple #[.int .u64 x.1, .bool true]
/-- What is got. -/
def gotV (o : Option ShI.Ent) (epoch now : Int) : Value := match o with
  | some v => if seenB v epoch now = true then .tuple #[.int .i64 v.2.1, .bool true] else .tuple #[.int .i64 0, .bool false]
  | none => .tuple #[.int .i64 0, .bool false]
set_option maxRecDepth 100000 in
set_option maxHeartbeats 2000000 in
theorem Get_any (h c epoch now : Int) {w : World} (hS : Has n w b te tw lk y) (h0 : 0 ≤ h) (h1 : h ≤ 18446744073709551615) (hz : (te (shd h)).sz < 1000000) :
    Calls Tryz.prog 10 #[.pointer (some ⟨b, 0, none⟩), .agg #[.int .u64 h, .int .u64 c], .int .i64 epoch, .int .i64 now] w fun e w' => e = .returned (gotV (findO (te (shd h)) h c) epoch now) ∧ Has n w' b te tw lk y ∧ Chg (· = b) w w' := by
  have hA : Ext w (w.alloc (Obj.cells #[.int .u64 h, .int .u64 c] 39)) := (Below.refl _ _).alloc (Nat.le_refl _) _
  have HA := Lib.hid hA
  have HS := Lib.hid (hS.ext hA)
  have l1 := ldP (Blk.new w #[.int .u64 h, .int .u64 c] 39) rfl
  have HF := Lib.hid (Find_any h c (hS.ext hA) h0 h1 hz)
  clear hA hS hz
  obtain ⟨o, ho⟩ : ∃ o, findO (te (shd h)) h c = o := ⟨_, rfl⟩
  rw [ho] at HF
  rw [ho]
  have hlt : w.heap.size < (w.alloc (Obj.cells #[.int .u64 h, .int .u64 c] 39)).heap.size := by simp
  have HL := Lib.hid hlt
  clear ho hlt
  go_enter Tryz.func10, Tryz.ntmps10
  go_wp2_with (first | refine Arr.wpList_ldA rfl _ _ rfl _ l1 ?_)
  refine HF.out.mono ?_
  rintro e w1 ⟨rfl, hS1, hC1⟩
  unfold tup
  have HS1 := Lib.hid hS1
  have HC1 := Lib.hid ((Chg.of_below HA.out).trans hC1)
  clear hS1 hC1 l1
  obtain ⟨v, hv⟩ : ∃ v, ev o = v := ⟨_, rfl⟩
  rw [hv]
  have hlw : w.heap.size ≤ w1.heap.size := HC1.out.size
  have HLW := Lib.hid hlw
  obtain ⟨w2, s1, hB2, hX2⟩ := stE (Blk.new w1 #[.int .u64 0, .int .i64 0, .int .i64 0, .int .i64 0, .int .i64 0, .int .i64 0] 41) rfl v
  have HB2 := Lib.hid hB2
  have l2 := ldE hB2 rfl
  have e1 : Ext w1 (w1.alloc (Obj.cells #[.int .u64 0, .int .i64 0, .int .i64 0, .int .i64 0, .int .i64 0, .int .i64 0] 41)) := (Below.refl _ _).alloc (Nat.le_refl _) _
  have HS2 := Lib.hid ((HS1.out.ext e1).one hX2 (Blk.new w1 #[.int .u64 0, .int .i64 0, .int .i64 0, .int .i64 0, .int .i64 0, .int .i64 0] 41) (by decide))
  have HC2 := Lib.hid ((HC1.out.trans (Chg.of_below e1)).onNew hX2 hlw)
  have hcv : ∀ i, w2.cell? ⟨w1.heap.size, i, none⟩ = (#[.int .u64 v.1, .int .i64 v.2.1, .int .i64 v.2.2.1, .int .i64 v.2.2.2.1, .int .i64 v.2.2.2.2.1, .int .i64 v.2.2.2.2.2] : Array Value)[i]? := fun i => HB2.out.cells i
  clear hB2 hX2 e1 hlw
  cases o with
  | none =>
    go_wp2_with (first | refine Arr.wpList_stA rfl _ _ _ rfl rfl s1 ?_ | refine Arr.wpList_ldA rfl _ _ rfl _ l2 ?_)
    go_ret2
    exact ⟨rfl, HS2.out, HC2.out⟩
  | some u =>
    have hu : v = u := hv.symm
    subst hu
    clear hv
    go_wp2_with (first | refine Arr.wpList_stA rfl _ _ _ rfl rfl s1 ?_ | refine Arr.wpList_ldA rfl _ _ rfl _ l2 ?_)
    refine (Seen_any _ _ _ _).mono ?_
    rintro e w3 ⟨rfl, hE3⟩
    have HS3 := Lib.hid (HS2.out.ext hE3)
    have HC3 := Lib.hid (HC2.out.trans (Chg.of_below hE3))
    have hcw : ∀ i, w3.cell? ⟨w1.heap.size, i, none⟩ = (#[.int .u64 v.1, .int .i64 v.2.1, .int .i64 v.2.2.1, .int .i64 v.2.2.2.1, .int .i64 v.2.2.2.2.1, .int .i64 v.2.2.2.2.2] : Array Value)[i]? := fun i => (HB2.out.ext hE3).cells i
    clear hE3 l2 s1 hcv
    cases hs : seenB v epoch now with
    | true =>
      go_wp2_with fail
      go_ret2
      exact ⟨by simp [gotV, hs], HS3.out, HC3.out⟩
    | false =>
      go_wp2_with fail
      go_ret2
      exact ⟨by simp [gotV, hs], HS3.out, HC3.out⟩
set_option maxRecDepth 100000 in
set_option maxHeartbeats 2000000 in
theorem First_any (now : Int) {w : World} (hS : Has n w b te tw lk y) :
    Calls Tryz.prog 12 #[.pointer (some ⟨b, 0, none⟩), .int .i64 now] w fun e w' => e = .returned (dueV (dueL now y)) ∧ Ext w w' := by
  obtain ⟨ps, hS⟩ := hS
  obtain ⟨bx, c1, hI, _⟩ := hS.ix
  have HF := Lib.hid (Exi.First_any bx y now w hI)
  clear hI hS
  obtain ⟨l, hl⟩ : ∃ l, dueL now y = l := ⟨_, rfl⟩
  rw [hl] at HF ⊢
  clear hl
  go_enter Tryz.func12, Tryz.ntmps12
  go_wp2_with fail
  refine HF.out.mono ?_
  rintro e w1 ⟨rfl, hE⟩
  have HE := Lib.hid hE
  clear hE
  cases l with
  | nil =>
    unfold Exi.firstV
    go_wp2_with fail
    go_ret2
    exact ⟨rfl, HE.out⟩
  | cons x l =>
    unfold Exi.firstV
    go_wp2_with fail
    go_ret2
    exact ⟨rfl, HE.out⟩
end
end Go.Proofs.YtdfbfcglacalmaaGreat.Sto
end

section
namespace Go.Proofs.YtdfbfcglacalmaaGreat.Sto
open Go.RowKit Go.Seg Go.Open Go.Lib Rk Ex St

section
variable {n b : Nat} {te : Nat → T Int ShI.Ent} {tw : Nat → T Int (Int × Int)} {lk : Nat → Option Addr} {y : List (Int × Int)}
set_option maxRecDepth 100000 in
set_option maxHeartbeats 4000000 in
theorem Put_any (h : Int) (v : ShI.Ent) {w : World} (hS : Has n w b te tw lk y) (h0 : 0 ≤ h) (h1 : h ≤ 18446744073709551615) (hz : (te (shd h)).sz < 1000000) (hl : y.length < 1000000) :
    Calls Tryz.prog 21 #[.pointer (some ⟨b, 0, none⟩), .int .u64 h, .agg #[.int .u64 v.1, .int .i64 v.2.1, .int .i64 v.2.2.1, .int .i64 v.2.2.2.1, .int .i64 v.2.2.2.2.1, .int .i64 v.2.2.2.2.2]] w fun e w' => e = .returned (.tuple #[]) ∧ Has n w' b (updT te (shd h) (T.put cint h v (te (shd h)))) tw lk (refPut y h v.2.2.1) ∧ Frm n w w' := by
  obtain ⟨i, hi⟩ : ∃ i, shd h = i := ⟨_, rfl⟩
  rw [hi] at hz ⊢
  have HI := Lib.hid hi
  have HZ := Lib.hid hz
  have HL := Lib.hid hl
  have hA : Ext w (w.alloc (Obj.cells #[.int .u64 v.1, .int .i64 v.2.1, .int .i64 v.2.2.1, .int .i64 v.2.2.2.1, .int .i64 v.2.2.2.2.1, .int .i64 v.2.2.2.2.2] 41)) := (Below.refl _ _).alloc (Nat.le_refl _) _
  have HA := Lib.hid hA
  have HP := Lib.hid (show Blk (w.alloc (Obj.cells #[.int .u64 v.1, .int .i64 v.2.1, .int .i64 v.2.2.1, .int .i64 v.2.2.2.1, .int .i64 v.2.2.2.2.1, .int .i64 v.2.2.2.2.2] 41)) w.heap.size #[.int .u64 v.1, .int .i64 v.2.1, .int .i64 v.2.2.1, .int .i64 v.2.2.2.1, .int .i64 v.2.2.2.2.1, .int .i64 v.2.2.2.2.2] 41 from Blk.new _ _ _)
  have HS0 := Lib.hid (hS.ext hA)
  clear hA hi hz hl hS
  go_enter Tryz.func21, Tryz.ntmps21
  go_wp2_with fail
  refine wp_region_segsE (fun W => Blk W w.heap.size #[.int .u64 v.1, .int .i64 v.2.1, .int .i64 v.2.2.1, .int .i64 v.2.2.2.1, .int .i64 v.2.2.2.2.1, .int .i64 v.2.2.2.2.2] 41) (.quiet [2, 1, 2, 1] (.alt 0 (.alt 0 .done .stop) .stop)) (by kernel_rfl) (by kernel_rfl) (HP.out.ext (Ext.drew _)) ?_
  apply segE_quiet
  · intro W hW
    have cp : ∀ i, W.cell? ⟨w.heap.size, i, none⟩ = (#[.int .u64 v.1, .int .i64 v.2.1, .int .i64 v.2.2.1, .int .i64 v.2.2.2.1, .int .i64 v.2.2.2.2.1, .int .i64 v.2.2.2.2.2] : Array Value)[i]? := fun i => hW.cells i
    simp only [runsT, runsF, rep, pick]
    go_wp2_with fail
    exact ⟨rfl, rfl⟩
  simp only [runsT, runsF, rep, left]
  refine segE_alt _ rfl ?_ ?_
  · skip
    go_wp2_with fail
    refine (Ways_has h (HS0.out.ext (Ext.drew _)) h0 h1).mono ?_
    rintro e w1 ⟨ps, k, rfl, hS1, hk1, hC1⟩
    have hB := (HS0.out.ext (Ext.drew _)).frm hC1
    rw [HI.out] at hk1
    have HS1 := Lib.hid hS1
    have HK1 := Lib.hid (And.intro hk1 (hS1.shardAt hk1))
    have HC1 := Lib.hid ((Frm.ext (HA.out.trans (Ext.drew _))).trans hB)
    have HP1 := Lib.hid (blk_frm (HP.out.ext (Ext.drew _)) hB (by decide) (by decide) (by decide))
    clear hS1 hk1 hC1 hB
    go_wp2_with fail
    refine ⟨HP1.out, ?_⟩
    try dsimp only [List.eraseIdx]
    refine segE_alt _ rfl ?_ ?_
    · skip
      go_wp2_with fail
      refine (ShI.Put_entry k _ _ h v _ HK1.out.2 HZ.out).mono ?_
      rintro e w2 ⟨rfl, hS2, hC2⟩
      have hS3 := HS1.out.put HK1.out.1 hC2 hS2
      have HS2 := Lib.hid hS3.1
      have HC2 := Lib.hid (HC1.out.trans hS3.2)
      have HP2 := Lib.hid (blk_frm HP1.out hS3.2 (by decide) (by decide) (by decide))
      clear hS2 hC2 hS3
      go_wp2_with fail
      refine ⟨HP2.out, ?_⟩
      try dsimp only [List.eraseIdx]
      apply segE_done
      obtain ⟨bx, d1, hI, hF⟩ := HS2.out.ix
      have HIX := Lib.hid (And.intro hI hF)
      have dv : ∀ i, w2.cell? ⟨w.heap.size, i, none⟩ = (#[.int .u64 v.1, .int .i64 v.2.1, .int .i64 v.2.2.1, .int .i64 v.2.2.2.1, .int .i64 v.2.2.2.2.1, .int .i64 v.2.2.2.2.2] : Array Value)[i]? := fun i => HP2.out.cells i
      clear hI hF
      go_wp2_with fail
      refine wp_region_segsK [([3, 1, 2, 2], 0, 0), ([2, 1], 2, 7), ([1], 1, 0)] (by kernel_rfl) (by kernel_rfl) ?_
      apply segsK_pure
      · intro W
        simp only [runsT, runsF, rep, pick]
        go_wp2_with fail
        exact ⟨rfl, rfl⟩
      simp only [runsT, runsF, rep, left]
      apply segsK_look
      · simp only [runsT, runsF, rep, pick]
        go_wp2_with fail
        exact ⟨rfl, rfl⟩
      simp only [runsT, runsF, rep, left]
      apply segsK_op
      go_wp2_with fail
      refine (Exi.Put_any bx y h v.2.2.1 _ (HIX.out.1.ext (Ext.drew _)) HL.out).mono ?_
      rintro e w3 ⟨rfl, hI3, hC3⟩
      have HS3 := Lib.hid (HIX.out.2 _ _ ((Chg.of_below (Ext.drew _)).trans hC3) hI3)
      clear hI3 hC3
      go_wp2_with fail
      refine ⟨fun h => (by cases h), ?_⟩
      apply segsK_nil
      go_wp2_with fail
      go_end0
      exact ⟨rfl, ⟨ps, HS3.out.1⟩, HC2.out.trans HS3.out.2⟩
    exact segE_stop
  exact segE_stop
theorem updT_id (te : Nat → T Int ShI.Ent) (i : Nat) : updT te i (te i) = te := by
  funext j
  unfold updT
  split <;> simp [*]
set_option maxRecDepth 100000 in
set_option maxHeartbeats 4000000 in
theorem Renew_any (h : Int) (v : ShI.Ent) {w : World} (hS : Has n w b te tw lk y) (h0 : 0 ≤ h) (h1 : h ≤ 18446744073709551615) (hz : (te (shd h)).sz < 1000000) (hl : y.length < 1000000) :
    Calls Tryz.prog 41 #[.pointer (some ⟨b, 0, none⟩), .int .u64 h, .agg #[.int .u64 v.1, .int .i64 v.2.1, .int .i64 v.2.2.1, .int .i64 v.2.2.2.1, .int .i64 v.2.2.2.2.1, .int .i64 v.2.2.2.2.2]] w fun e w' => e = .returned (.bool (renB (te (shd h)) h v)) ∧
      Has n w' b (if renB (te (shd h)) h v = true then updT te (shd h) (T.put cint h v (te (shd h))) else te) tw lk (if renB (te (shd h)) h v = true then refPut y h v.2.2.1 else y) ∧ Frm n w w' := by
  obtain ⟨i, hi⟩ : ∃ i, shd h = i := ⟨_, rfl⟩
  rw [hi] at hz ⊢
  have HI := Lib.hid hi
  have HZ := Lib.hid hz
  have HL := Lib.hid hl
  have hA : Ext w (w.alloc (Obj.cells #[.int .u64 v.1, .int .i64 v.2.1, .int .i64 v.2.2.1, .int .i64 v.2.2.2.1, .int .i64 v.2.2.2.2.1, .int .i64 v.2.2.2.2.2] 41)) := (Below.refl _ _).alloc (Nat.le_refl _) _
  have HA := Lib.hid hA
  have HP := Lib.hid (show Blk (w.alloc (Obj.cells #[.int .u64 v.1, .int .i64 v.2.1, .int .i64 v.2.2.1, .int .i64 v.2.2.2.1, .int .i64 v.2.2.2.2.1, .int .i64 v.2.2.2.2.2] 41)) w.heap.size #[.int .u64 v.1, .int .i64 v.2.1, .int .i64 v.2.2.1, .int .i64 v.2.2.2.1, .int .i64 v.2.2.2.2.1, .int .i64 v.2.2.2.2.2] 41 from Blk.new _ _ _)
  have HS0 := Lib.hid (hS.ext hA)
  clear hA hi hz hl hS
  obtain ⟨r, hr⟩ : ∃ r, renB (te i) h v = r := ⟨_, rfl⟩
  rw [hr]
  have HR := Lib.hid hr
  clear hr
  cases r with
  | true =>
    go_enter Tryz.func41, Tryz.ntmps41
    go_wp2_with fail
    refine wp_region_segsE (fun W => Blk W w.heap.size #[.int .u64 v.1, .int .i64 v.2.1, .int .i64 v.2.2.1, .int .i64 v.2.2.2.1, .int .i64 v.2.2.2.2.1, .int .i64 v.2.2.2.2.2] 41) (.quiet [2, 1, 2, 2] (.alt 0 (.alt 0 (.quiet [1] .done) .stop) .stop)) (by kernel_rfl) (by kernel_rfl) (HP.out.ext (Ext.drew _)) ?_
    apply segE_quiet
    · intro W hW
      have cp : ∀ i, W.cell? ⟨w.heap.size, i, none⟩ = (#[.int .u64 v.1, .int .i64 v.2.1, .int .i64 v.2.2.1, .int .i64 v.2.2.2.1, .int .i64 v.2.2.2.2.1, .int .i64 v.2.2.2.2.2] : Array Value)[i]? := fun i => hW.cells i
      simp only [runsT, runsF, rep, pick]
      go_wp2_with fail
      exact ⟨rfl, rfl⟩
    simp only [runsT, runsF, rep, left]
    refine segE_alt _ rfl ?_ ?_
    · skip
      go_wp2_with fail
      refine (Ways_has h (HS0.out.ext (Ext.drew _)) h0 h1).mono ?_
      rintro e w1 ⟨ps, k, rfl, hS1, hk1, hC1⟩
      have hB := (HS0.out.ext (Ext.drew _)).frm hC1
      rw [HI.out] at hk1
      have HS1 := Lib.hid hS1
      have HK1 := Lib.hid (And.intro hk1 (hS1.shardAt hk1))
      have HC1 := Lib.hid ((Frm.ext (HA.out.trans (Ext.drew _))).trans hB)
      have HP1 := Lib.hid (blk_frm (HP.out.ext (Ext.drew _)) hB (by decide) (by decide) (by decide))
      clear hS1 hk1 hC1 hB
      go_wp2_with fail
      refine ⟨HP1.out, ?_⟩
      try dsimp only [List.eraseIdx]
      refine segE_alt _ rfl ?_ ?_
      · skip
        go_wp2_with fail
        refine (Shard_renew k _ _ h v _ HK1.out.2 HZ.out).mono ?_
        rintro e w2 ⟨rfl, hS2, hC2⟩
        rw [HR.out]
        rw [HR.out] at hS2
        have hS3 := HS1.out.put HK1.out.1 hC2 hS2
        have HS2 := Lib.hid hS3.1
        have HC2 := Lib.hid (HC1.out.trans hS3.2)
        have HP2 := Lib.hid (blk_frm HP1.out hS3.2 (by decide) (by decide) (by decide))
        clear hS2 hC2 hS3
        go_wp2_with fail
        refine ⟨HP2.out, ?_⟩
        try dsimp only [List.eraseIdx]
        apply segE_quiet
        · intro W hW
          have cp : ∀ i, W.cell? ⟨w.heap.size, i, none⟩ = (#[.int .u64 v.1, .int .i64 v.2.1, .int .i64 v.2.2.1, .int .i64 v.2.2.2.1, .int .i64 v.2.2.2.2.1, .int .i64 v.2.2.2.2.2] : Array Value)[i]? := fun i => hW.cells i
          simp only [runsT, runsF, rep, pick]
          go_wp2_with fail
          exact ⟨rfl, rfl⟩
        simp only [runsT, runsF, rep, left]
        apply segE_done
        obtain ⟨bx, d1, hI, hF⟩ := HS2.out.ix
        have HIX := Lib.hid (And.intro hI hF)
        have dv : ∀ i, w2.cell? ⟨w.heap.size, i, none⟩ = (#[.int .u64 v.1, .int .i64 v.2.1, .int .i64 v.2.2.1, .int .i64 v.2.2.2.1, .int .i64 v.2.2.2.2.1, .int .i64 v.2.2.2.2.2] : Array Value)[i]? := fun i => HP2.out.cells i
        clear hI hF
        go_wp2_with fail
        refine wp_region_segsK [([3, 1, 2, 2], 0, 0), ([2, 1], 2, 7), ([1], 1, 0)] (by kernel_rfl) (by kernel_rfl) ?_
        apply segsK_pure
        · intro W
          simp only [runsT, runsF, rep, pick]
          go_wp2_with fail
          exact ⟨rfl, rfl⟩
        simp only [runsT, runsF, rep, left]
        apply segsK_look
        · simp only [runsT, runsF, rep, pick]
          go_wp2_with fail
          exact ⟨rfl, rfl⟩
        simp only [runsT, runsF, rep, left]
        apply segsK_op
        go_wp2_with fail
        refine (Exi.Put_any bx y h v.2.2.1 _ (HIX.out.1.ext (Ext.drew _)) HL.out).mono ?_
        rintro e w3 ⟨rfl, hI3, hC3⟩
        have HS3 := Lib.hid (HIX.out.2 _ _ ((Chg.of_below (Ext.drew _)).trans hC3) hI3)
        clear hI3 hC3
        go_wp2_with fail
        refine ⟨fun h => (by cases h), ?_⟩
        apply segsK_nil
        go_wp2_with fail
        go_ret
        exact ⟨rfl, ⟨ps, by simpa using HS3.out.1⟩, HC2.out.trans HS3.out.2⟩
      exact segE_stop
    exact segE_stop
  | false =>
    go_enter Tryz.func41, Tryz.ntmps41
    go_wp2_with fail
    refine wp_region_segsE (fun W => Blk W w.heap.size #[.int .u64 v.1, .int .i64 v.2.1, .int .i64 v.2.2.1, .int .i64 v.2.2.2.1, .int .i64 v.2.2.2.2.1, .int .i64 v.2.2.2.2.2] 41) (.quiet [2, 1, 2, 2] (.alt 0 (.alt 0 (.quiet [1] .done) .stop) .stop)) (by kernel_rfl) (by kernel_rfl) (HP.out.ext (Ext.drew _)) ?_
    apply segE_quiet
    · intro W hW
      have cp : ∀ i, W.cell? ⟨w.heap.size, i, none⟩ = (#[.int .u64 v.1, .int .i64 v.2.1, .int .i64 v.2.2.1, .int .i64 v.2.2.2.1, .int .i64 v.2.2.2.2.1, .int .i64 v.2.2.2.2.2] : Array Value)[i]? := fun i => hW.cells i
      simp only [runsT, runsF, rep, pick]
      go_wp2_with fail
      exact ⟨rfl, rfl⟩
    simp only [runsT, runsF, rep, left]
    refine segE_alt _ rfl ?_ ?_
    · skip
      go_wp2_with fail
      refine (Ways_has h (HS0.out.ext (Ext.drew _)) h0 h1).mono ?_
      rintro e w1 ⟨ps, k, rfl, hS1, hk1, hC1⟩
      have hB := (HS0.out.ext (Ext.drew _)).frm hC1
      rw [HI.out] at hk1
      have HS1 := Lib.hid hS1
      have HK1 := Lib.hid (And.intro hk1 (hS1.shardAt hk1))
      have HC1 := Lib.hid ((Frm.ext (HA.out.trans (Ext.drew _))).trans hB)
      have HP1 := Lib.hid (blk_frm (HP.out.ext (Ext.drew _)) hB (by decide) (by decide) (by decide))
      clear hS1 hk1 hC1 hB
      go_wp2_with fail
      refine ⟨HP1.out, ?_⟩
      try dsimp only [List.eraseIdx]
      refine segE_alt _ rfl ?_ ?_
      · skip
        go_wp2_with fail
        refine (Shard_renew k _ _ h v _ HK1.out.2 HZ.out).mono ?_
        rintro e w2 ⟨rfl, hS2, hC2⟩
        rw [HR.out]
        rw [HR.out] at hS2
        have hS3 := HS1.out.put HK1.out.1 hC2 hS2
        have HS2 := Lib.hid hS3.1
        have HC2 := Lib.hid (HC1.out.trans hS3.2)
        have HP2 := Lib.hid (blk_frm HP1.out hS3.2 (by decide) (by decide) (by decide))
        clear hS2 hC2 hS3
        go_wp2_with fail
        refine ⟨HP2.out, ?_⟩
        try dsimp only [List.eraseIdx]
        apply segE_quiet
        · intro W hW
          have cp : ∀ i, W.cell? ⟨w.heap.size, i, none⟩ = (#[.int .u64 v.1, .int .i64 v.2.1, .int .i64 v.2.2.1, .int .i64 v.2.2.2.1, .int .i64 v.2.2.2.2.1, .int .i64 v.2.2.2.2.2] : Array Value)[i]? := fun i => hW.cells i
          simp only [runsT, runsF, rep, pick]
          go_wp2_with fail
          exact ⟨rfl, rfl⟩
        simp only [runsT, runsF, rep, left]
        apply segE_done
        go_wp2_with fail
        go_ret
        exact ⟨rfl, ⟨ps, by simpa [updT_id] using HS2.out⟩, HC2.out⟩
      exact segE_stop
    exact segE_stop
set_option maxRecDepth 100000 in
set_option maxHeartbeats 4000000 in
theorem Remove_any (h : Int) {w : World} (hS : Has n w b te tw lk y) (h0 : 0 ≤ h) (h1 : h ≤ 18446744073709551615) (hz : (te (shd h)).sz < 1000000) (hl : y.length < 1000000) :
    Calls Tryz.prog 45 #[.pointer (some ⟨b, 0, none⟩), .int .u64 h] w fun e w' => e = .returned (tup (ev (T.get cint h (te (shd h)))) (T.get cint h (te (shd h))).isSome) ∧
      Has n w' b (if (T.get cint h (te (shd h))).isSome = true then updT te (shd h) (T.drop cint h (te (shd h))) else te) tw lk (if (T.get cint h (te (shd h))).isSome = true then rest y h else y) ∧ Frm n w w' := by
  obtain ⟨i, hi⟩ : ∃ i, shd h = i := ⟨_, rfl⟩
  rw [hi] at hz ⊢
  have HI := Lib.hid hi
  have HZ := Lib.hid hz
  have HL := Lib.hid hl
  have hA : Ext w (w.alloc (Obj.cells #[.int .u64 0, .int .i64 0, .int .i64 0, .int .i64 0, .int .i64 0, .int .i64 0] 41)) := (Below.refl _ _).alloc (Nat.le_refl _) _
  have HA := Lib.hid hA
  have HP := Lib.hid (show Blk (w.alloc (Obj.cells #[.int .u64 0, .int .i64 0, .int .i64 0, .int .i64 0, .int .i64 0, .int .i64 0] 41)) w.heap.size #[.int .u64 0, .int .i64 0, .int .i64 0, .int .i64 0, .int .i64 0, .int .i64 0] 41 from Blk.new _ _ _)
  have HS0 := Lib.hid (hS.ext hA)
  clear hA hi hz hl hS
  obtain ⟨o, ho⟩ : ∃ o, T.get cint h (te i) = o := ⟨_, rfl⟩
  obtain ⟨v, hv⟩ : ∃ v, ev o = v := ⟨_, rfl⟩
  obtain ⟨r, hr⟩ : ∃ r, o.isSome = r := ⟨_, rfl⟩
  rw [ho, hv, hr]
  have HR := Lib.hid (And.intro ho (And.intro hv hr))
  clear ho hv hr
  unfold tup
  go_enter Tryz.func45, Tryz.ntmps45
  go_wp2_with fail
  refine (Ways_has h HS0.out h0 h1).mono ?_
  rintro e w1 ⟨ps, k, rfl, hS1, hk1, hC1⟩
  have hB := HS0.out.frm hC1
  rw [HI.out] at hk1
  have HS1 := Lib.hid hS1
  have HK1 := Lib.hid (And.intro hk1 (hS1.shardAt hk1))
  have HC1 := Lib.hid ((Frm.ext HA.out).trans hB)
  have HP1 := Lib.hid (blk_frm HP.out hB (by decide) (by decide) (by decide))
  clear hS1 hk1 hC1 hB
  go_wp2_with fail
  refine (Shard_remove k _ _ h _ HK1.out.2 HZ.out).mono ?_
  rintro e w2 ⟨rfl, hS2, hC2⟩
  rw [HR.out.1, HR.out.2.1, HR.out.2.2]
  rw [HR.out.1, HR.out.2.2] at hS2
  unfold tup
  have hS3 := HS1.out.put HK1.out.1 hC2 hS2
  have HS2 := Lib.hid hS3.1
  have HC2 := Lib.hid (HC1.out.trans hS3.2)
  have HP2 := Lib.hid (blk_frm HP1.out hS3.2 (by decide) (by decide) (by decide))
  have hlw : w.heap.size ≤ w2.heap.size := HC2.out.size
  obtain ⟨w3, s1, hB3, hX3⟩ := stE (Blk.new w2 #[.int .u64 0, .int .i64 0, .int .i64 0, .int .i64 0, .int .i64 0, .int .i64 0] 41) rfl v
  have e1 : Ext w2 (w2.alloc (Obj.cells #[.int .u64 0, .int .i64 0, .int .i64 0, .int .i64 0, .int .i64 0, .int .i64 0] 41)) := (Below.refl _ _).alloc (Nat.le_refl _) _
  have HB3 := Lib.hid hB3
  have hS4 : StoAt w3 b ⟨ps, updT te i (if r = true then T.drop cint h (te i) else te i), tw, lk, y, n⟩ := by
    obtain ⟨bx, cs, hC⟩ := HS2.out.ext e1
    exact ⟨bx, cs, hC.one hX3 (Blk.new w2 #[.int .u64 0, .int .i64 0, .int .i64 0, .int .i64 0, .int .i64 0, .int .i64 0] 41) (by decide)⟩
  have HS3 := Lib.hid hS4
  have HP3 := Lib.hid (blk_ne' (HP2.out.ext e1) hX3 (Nat.ne_of_lt HP2.out.lt))
  have HC3 := Lib.hid ((HC2.out.trans (.ext e1)).new hX3 hlw)
  obtain ⟨bx, d1, hI, hF⟩ := hS4.ix
  have HIX := Lib.hid (And.intro hI hF)
  clear hS2 hC2 hS3 hB3 hX3 hS4 hI hF e1 hlw
  cases r with
  | true =>
    go_wp2_with (first | refine Arr.wpList_stA rfl _ _ _ rfl rfl s1 ?_)
    refine (Exi.Drop_any bx y h _ HIX.out.1 (by have := HL.out; omega)).mono ?_
    rintro e w4 ⟨rfl, hI4, hC4⟩
    have hS4 := HIX.out.2 _ _ hC4 hI4
    have HS4 := Lib.hid hS4.1
    have HP4 := Lib.hid (blk_frm HP3.out hS4.2 (by decide) (by decide) (by decide))
    have HB4 := Lib.hid (blk_frm HB3.out hS4.2 (by decide) (by decide) (by decide))
    have HC4 := Lib.hid (HC3.out.trans hS4.2)
    clear hI4 hC4 hS4 s1
    obtain ⟨w5, s2, hB5, hX5⟩ := stE HP4.out rfl v
    have HB5 := Lib.hid hB5
    have HX5 := Lib.hid hX5
    have l2 := ldE HB4.out rfl
    clear hB5 hX5
    go_wp2_with (first | refine Arr.wpList_ldA rfl _ _ rfl _ l2 ?_ | refine Arr.wpList_stA rfl _ _ _ rfl rfl s2 ?_)
    (try simp only [Exit.inBlock, Exit.then])
    refine bodyPost_ret (results_struct (ty := 41) rfl rfl rfl (c := #[.int .u64 v.1, .int .i64 v.2.1, .int .i64 v.2.2.1, .int .i64 v.2.2.2.1, .int .i64 v.2.2.2.2.1, .int .i64 v.2.2.2.2.2]) HB5.out (by kernel_rfl) (by kernel_rfl)) rfl ?_
    exact ⟨rfl, by simpa using Has.one ⟨ps, HS4.out⟩ HX5.out HP4.out (by decide), HC4.out.new HX5.out (Nat.le_refl _)⟩
  | false =>
    have l2 := ldE HB3.out rfl
    obtain ⟨w5, s2, hB5, hX5⟩ := stE HP3.out rfl v
    have HB5 := Lib.hid hB5
    have HX5 := Lib.hid hX5
    clear hB5 hX5
    go_wp2_with (first | refine Arr.wpList_stA rfl _ _ _ rfl rfl s1 ?_ | refine Arr.wpList_ldA rfl _ _ rfl _ l2 ?_ | refine Arr.wpList_stA rfl _ _ _ rfl rfl s2 ?_)
    (try simp only [Exit.inBlock, Exit.then])
    refine bodyPost_ret (results_struct (ty := 41) rfl rfl rfl (c := #[.int .u64 v.1, .int .i64 v.2.1, .int .i64 v.2.2.1, .int .i64 v.2.2.2.1, .int .i64 v.2.2.2.2.1, .int .i64 v.2.2.2.2.2]) HB5.out (by kernel_rfl) (by kernel_rfl)) rfl ?_
    exact ⟨rfl, by simpa [updT_id] using Has.one ⟨ps, HS3.out⟩ HX5.out HP3.out (by decide), HC3.out.new HX5.out (Nat.le_refl _)⟩
set_option maxRecDepth 100000 in
set_option maxHeartbeats 4000000 in
theorem Cut_any (h c : Int) {w : World} (hS : Has n w b te tw lk y) (h0 : 0 ≤ h) (h1 : h ≤ 18446744073709551615) (hz : (te (shd h)).sz < 1000000) (hl : y.length < 1000000) :
    Calls Tryz.prog 42 #[.pointer (some ⟨b, 0, none⟩), .agg #[.int .u64 h, .int .u64 c]] w fun e w' => e = .returned (tup (ev (findO (te (shd h)) h c)) (findO (te (shd h)) h c).isSome) ∧
      Has n w' b (if (findO (te (shd h)) h c).isSome = true then updT te (shd h) (T.drop cint h (te (shd h))) else te) tw lk (if (findO (te (shd h)) h c).isSome = true then rest y h else y) ∧ Frm n w w' := by
  have hget : ∀ u, findO (te (shd h)) h c = some u → T.get cint h (te (shd h)) = some u := fun u hu => by
    unfold findO at hu
    split at hu
    · split at hu
      · rename_i hg _; rw [hg]; exact hu
      · cases hu
    · cases hu
  have HG := Lib.hid hget
  have HZ := Lib.hid hz
  have HL := Lib.hid hl
  have hA : Ext w ((w.alloc (Obj.cells #[.int .u64 h, .int .u64 c] 39)).alloc (Obj.cells #[.int .u64 0, .int .i64 0, .int .i64 0, .int .i64 0, .int .i64 0, .int .i64 0] 41)) := ((Below.refl _ _).alloc (Nat.le_refl _) _).alloc (by simp) _
  have HA := Lib.hid hA
  have HP := Lib.hid (show Blk ((w.alloc (Obj.cells #[.int .u64 h, .int .u64 c] 39)).alloc (Obj.cells #[.int .u64 0, .int .i64 0, .int .i64 0, .int .i64 0, .int .i64 0, .int .i64 0] 41)) w.heap.size #[.int .u64 h, .int .u64 c] 39 from (Blk.new _ _ _).ext ((Below.refl _ _).alloc (Nat.le_refl _) _))
  have HR := Lib.hid (show Blk ((w.alloc (Obj.cells #[.int .u64 h, .int .u64 c] 39)).alloc (Obj.cells #[.int .u64 0, .int .i64 0, .int .i64 0, .int .i64 0, .int .i64 0, .int .i64 0] 41)) (w.heap.size + 1) #[.int .u64 0, .int .i64 0, .int .i64 0, .int .i64 0, .int .i64 0, .int .i64 0] 41 from ShI.blk_at (by simp))
  have HS0 := Lib.hid (hS.ext hA)
  have l0 := ldP HP.out rfl
  clear hz hl hS hA hget
  obtain ⟨o, ho⟩ : ∃ o, findO (te (shd h)) h c = o := ⟨_, rfl⟩
  obtain ⟨v, hv⟩ : ∃ v, ev o = v := ⟨_, rfl⟩
  obtain ⟨r, hr⟩ : ∃ r, o.isSome = r := ⟨_, rfl⟩
  rw [ho, hv, hr]
  have HO := Lib.hid ho
  have HR0 := Lib.hid (And.intro hv hr)
  clear ho hv hr
  go_enter Tryz.func42, Tryz.ntmps42
  go_wp2_with (first | refine Arr.wpList_ldA rfl _ _ rfl _ l0 ?_)
  refine (Find_any h c HS0.out h0 h1 HZ.out).mono ?_
  rintro e w2 ⟨rfl, hS2, hC2⟩
  rw [HO.out, HR0.out.1, HR0.out.2]
  unfold tup
  have hF2 := HS0.out.frm hC2
  have HC2 := Lib.hid ((Frm.ext HA.out).trans hF2)
  have HP2 := Lib.hid (blk_frm HP.out hF2 (by decide) (by decide) (by decide))
  have HR2 := Lib.hid (blk_frm HR.out hF2 (by decide) (by decide) (by decide))
  obtain ⟨w3, s1, hB3, hX3⟩ := stE (Blk.new w2 #[.int .u64 0, .int .i64 0, .int .i64 0, .int .i64 0, .int .i64 0, .int .i64 0] 41) rfl v
  have e1 : Ext w2 (w2.alloc (Obj.cells #[.int .u64 0, .int .i64 0, .int .i64 0, .int .i64 0, .int .i64 0, .int .i64 0] 41)) := (Below.refl _ _).alloc (Nat.le_refl _) _
  have HS3 := Lib.hid ((hS2.ext e1).one hX3 (Blk.new w2 #[.int .u64 0, .int .i64 0, .int .i64 0, .int .i64 0, .int .i64 0, .int .i64 0] 41) (by decide))
  have hlw : w.heap.size ≤ w2.heap.size := HC2.out.size
  have HC3 := Lib.hid ((HC2.out.trans (.ext e1)).new hX3 hlw)
  have HR3 := Lib.hid (blk_ne' (HR2.out.ext e1) hX3 (Nat.ne_of_lt HR2.out.lt))
  have HP3 := Lib.hid (blk_ne' (HP2.out.ext e1) hX3 (Nat.ne_of_lt HP2.out.lt))
  have hcp : ∀ i, w3.cell? ⟨w.heap.size, i, none⟩ = (#[.int .u64 h, .int .u64 c] : Array Value)[i]? := fun i => HP3.out.cells i
  clear hF2 hS2 hC2 hB3 hX3 e1 hlw l0
  cases r with
  | false =>
    obtain ⟨w5, s2, hB5, hX5⟩ := stE HR3.out rfl ShI.zE
    have HB5 := Lib.hid hB5
    have HX5 := Lib.hid hX5
    clear hB5 hX5
    go_wp2_with (first | refine Arr.wpList_stA rfl _ _ _ rfl rfl s1 ?_ | refine Arr.wpList_stA rfl _ _ _ rfl rfl s2 ?_)
    (try simp only [Exit.inBlock, Exit.then])
    refine bodyPost_ret (results_struct (ty := 41) rfl rfl rfl (c := #[.int .u64 0, .int .i64 0, .int .i64 0, .int .i64 0, .int .i64 0, .int .i64 0]) HB5.out (by kernel_rfl) (by kernel_rfl)) rfl ?_
    refine ⟨?_, by simpa using Has.one HS3.out HX5.out HR3.out (by decide), HC3.out.new HX5.out (Nat.le_succ _)⟩
    have h1 := HR0.out.1
    have h2 := HR0.out.2
    cases o with
    | none => subst h1; rfl
    | some u => cases h2
  | true =>
    go_wp2_with (first | refine Arr.wpList_stA rfl _ _ _ rfl rfl s1 ?_)
    refine (Remove_any h HS3.out h0 h1 HZ.out HL.out).mono ?_
    rintro e w4 ⟨rfl, hS4, hF4⟩
    obtain ⟨u, hu⟩ : ∃ u, o = some u := Option.isSome_iff_exists.1 HR0.out.2
    have hg := HG.out u (HO.out.trans hu)
    rw [hg] at hS4 ⊢
    have HU := Lib.hid hu
    have HS4 := Lib.hid hS4
    have HC4 := Lib.hid (HC3.out.trans hF4)
    have HR4 := Lib.hid (blk_frm HR3.out hF4 (by decide) (by decide) (by decide))
    obtain ⟨w5, s2, hB5, hX5⟩ := stE HR4.out rfl u
    have HB5 := Lib.hid hB5
    have HX5 := Lib.hid hX5
    clear hB5 hX5 hS4 hF4 hg hu s1 hcp
    unfold tup ev
    dsimp only [Option.getD_some, Option.isSome_some]
    go_wp2_with (first | refine Arr.wpList_stA rfl _ _ _ rfl rfl s2 ?_)
    (try simp only [Exit.inBlock, Exit.then])
    refine bodyPost_ret (results_struct (ty := 41) rfl rfl rfl (c := #[.int .u64 u.1, .int .i64 u.2.1, .int .i64 u.2.2.1, .int .i64 u.2.2.2.1, .int .i64 u.2.2.2.2.1, .int .i64 u.2.2.2.2.2]) HB5.out (by kernel_rfl) (by kernel_rfl)) rfl ?_
    have h1 := HR0.out.1
    rw [HU.out] at h1
    subst h1
    exact ⟨rfl, by simpa using Has.one HS4.out HX5.out HR4.out (by decide), HC4.out.new HX5.out (Nat.le_succ _)⟩
end
end Go.Proofs.YtdfbfcglacalmaaGreat.Sto
end

section
namespace Go.Proofs
open Go.Shelf
def Tryz.laysClone_ren : Go.Shelf.Ren := ⟨fun | 15 => 66 | n => n, fun | 22 => 98 | 3 => 3 | 4 => 4 | n => n, fun | n => n⟩
theorem Tryz.laysClone : Go.Proofs.Lays2.n15 Tryz.prog Tryz.laysClone_ren := {
  mixed := by kernel_rfl
  f15 := Tryz.func66.trans (congrArg some (by kernel_rfl))
  t3 := Tryz.underlying3
  a3 := Tryz.isAgg3
  z3 := Tryz.sizeOf3
  v3 := Tryz.zeroValue3
  t4 := Tryz.underlying4
  a4 := Tryz.isAgg4
  z4 := Tryz.sizeOf4
  v4 := Tryz.zeroValue4
  t22 := Tryz.underlying98
  a22 := Tryz.isAgg98
  z22 := Tryz.sizeOf98
  v22 := Tryz.zeroValue98
  i3 := by kernel_rfl }
def Tryz.laysDelete_ren : Go.Shelf.Ren := ⟨fun | 23 => 65 | n => n, fun | 22 => 98 | 3 => 3 | 4 => 4 | 0 => 0 | n => n, fun | n => n⟩
theorem Tryz.laysDelete : Go.Proofs.Lays2.n23 Tryz.prog Tryz.laysDelete_ren := {
  mixed := by kernel_rfl
  f23 := Tryz.func65.trans (congrArg some (by kernel_rfl))
  t0 := Tryz.underlying0
  a0 := Tryz.isAgg0
  z0 := Tryz.sizeOf0
  v0 := Tryz.zeroValue0
  t3 := Tryz.underlying3
  a3 := Tryz.isAgg3
  z3 := Tryz.sizeOf3
  v3 := Tryz.zeroValue3
  t4 := Tryz.underlying4
  a4 := Tryz.isAgg4
  z4 := Tryz.sizeOf4
  v4 := Tryz.zeroValue4
  t22 := Tryz.underlying98
  a22 := Tryz.isAgg98
  z22 := Tryz.sizeOf98
  v22 := Tryz.zeroValue98
  i3 := by kernel_rfl }
def Tryz.laysSearch_ren : Go.Shelf.Ren := ⟨fun | 25 => 92 | 31 => 123 | 32 => 124 | 37 => 109 | n => n, fun | 22 => 98 | 3 => 3 | 4 => 4 | 40 => 32 | 0 => 0 | n => n, fun | n => n⟩
theorem Tryz.laysSearch : Go.Proofs.Lays2.n25 Tryz.prog Tryz.laysSearch_ren := {
  mixed := by kernel_rfl
  f25 := Tryz.func92.trans (congrArg some (by kernel_rfl))
  f31 := Tryz.func123.trans (congrArg some (by kernel_rfl))
  f32 := Tryz.func124.trans (congrArg some (by kernel_rfl))
  f37 := Tryz.func109.trans (congrArg some (by kernel_rfl))
  t0 := Tryz.underlying0
  a0 := Tryz.isAgg0
  z0 := Tryz.sizeOf0
  v0 := Tryz.zeroValue0
  t3 := Tryz.underlying3
  a3 := Tryz.isAgg3
  z3 := Tryz.sizeOf3
  v3 := Tryz.zeroValue3
  t4 := Tryz.underlying4
  a4 := Tryz.isAgg4
  z4 := Tryz.sizeOf4
  v4 := Tryz.zeroValue4
  t22 := Tryz.underlying98
  a22 := Tryz.isAgg98
  z22 := Tryz.sizeOf98
  v22 := Tryz.zeroValue98
  t40 := Tryz.underlying32
  a40 := Tryz.isAgg32
  z40 := Tryz.sizeOf32
  v40 := Tryz.zeroValue32 }
end Go.Proofs
end

section
namespace Lk

/-- Who holds a lock. -/
structure L where
  rs : List Int
  wr : Option Int

def L.holds (l : L) (id : Int) : Bool := l.rs.contains id || decide (l.wr = some id)
def L.idle (l : L) : Bool := l.rs.isEmpty && l.wr.isNone
/-- Where somebody stands, or would stand. -/
def cnt (rs : List Int) (id : Int) : Nat := rs.countP (· < id)
def insI (rs : List Int) (id : Int) : List Int := rs.take (cnt rs id) ++ id :: rs.drop (cnt rs id)
def delI (rs : List Int) (id : Int) : List Int := rs.take (cnt rs id) ++ rs.drop (cnt rs id + 1)
def L.mayRead (l : L) (id : Int) : Bool := l.wr.isNone && !l.holds id
def L.mayWrite (l : L) (id : Int) : Bool := l.idle && !l.holds id
def L.read (l : L) (id : Int) : L := if l.mayRead id = true then { l with rs := insI l.rs id } else l
def L.write (l : L) (id : Int) : L := if l.mayWrite id = true then { l with wr := some id } else l
def L.free (l : L) (id : Int) : L := if l.holds id = true then (if l.wr.isSome = true then { l with wr := none } else { l with rs := delI l.rs id }) else l

/-- What holds of a lock at any time. -/
structure Inv (l : L) : Prop where
  up : l.rs.Pairwise (· < ·)
  one : l.wr.isSome = true → l.rs = []

theorem Inv.nil : Inv ⟨[], none⟩ := ⟨List.Pairwise.nil, fun _ => rfl⟩

theorem cnt_le (rs : List Int) (id : Int) : cnt rs id ≤ rs.length := List.countP_le_length

theorem cnt_cons (x : Int) (rs : List Int) (id : Int) : cnt (x :: rs) id = cnt rs id + (if x < id then 1 else 0) := by
  unfold cnt
  rw [List.countP_cons]
  simp

theorem cnt_zero {rs : List Int} {id : Int} (h : ∀ x ∈ rs, id ≤ x) : cnt rs id = 0 := by
  unfold cnt
  rw [List.countP_eq_zero]
  intro x hx
  have := h x hx
  simp
  omega

/-- Of a rising row those below stand ahead. -/
theorem split_at : ∀ (rs : List Int) (id : Int), rs.Pairwise (· < ·) → (∀ x ∈ rs.take (cnt rs id), x < id) ∧ (∀ x ∈ rs.drop (cnt rs id), id ≤ x)
  | [], id, _ => by simp [cnt]
  | x :: rs, id, h => by
    obtain ⟨hx, hr⟩ := List.pairwise_cons.1 h
    rw [cnt_cons]
    by_cases hlt : x < id
    · rw [if_pos hlt]
      obtain ⟨h1, h2⟩ := split_at rs id hr
      refine ⟨fun y hy => ?_, fun y hy => ?_⟩
      · rw [List.take_succ_cons] at hy
        rcases List.mem_cons.1 hy with rfl | hy
        · exact hlt
        · exact h1 y hy
      · rw [List.drop_succ_cons] at hy
        exact h2 y hy
    · rw [if_neg hlt]
      have hz : cnt rs id = 0 := cnt_zero (fun y hy => by have := hx y hy; omega)
      rw [hz]
      refine ⟨fun y hy => by simp at hy, fun y hy => ?_⟩
      simp at hy
      rcases hy with rfl | hy
      · omega
      · have := hx y hy; omega

theorem mem_insI {rs : List Int} {id x : Int} : x ∈ insI rs id ↔ x = id ∨ x ∈ rs := by
  unfold insI
  constructor
  · intro h
    rcases List.mem_append.1 h with h | h
    · exact .inr (List.mem_of_mem_take h)
    · rcases List.mem_cons.1 h with h | h
      · exact .inl h
      · exact .inr (List.mem_of_mem_drop h)
  · intro h
    rcases h with rfl | h
    · simp
    · rw [← List.take_append_drop (cnt rs id) rs] at h
      rcases List.mem_append.1 h with h | h
      · simp [h]
      · simp [h]

theorem up_insI {rs : List Int} {id : Int} (h : rs.Pairwise (· < ·)) (hn : id ∉ rs) : (insI rs id).Pairwise (· < ·) := by
  obtain ⟨h1, h2⟩ := split_at rs id h
  have h' := h
  rw [← List.take_append_drop (cnt rs id) rs] at h'
  obtain ⟨ha, hb, hc⟩ := List.pairwise_append.1 h'
  unfold insI
  refine List.pairwise_append.2 ⟨ha, List.pairwise_cons.2 ⟨fun x hx => ?_, hb⟩, fun x hx y hy => ?_⟩
  · have := h2 x hx
    have hne : x ≠ id := fun e => hn (e ▸ List.mem_of_mem_drop hx)
    omega
  · rcases List.mem_cons.1 hy with rfl | hy
    · exact h1 x hx
    · exact hc x hx y hy

theorem drop_mem {rs : List Int} {id : Int} (h : rs.Pairwise (· < ·)) (hm : id ∈ rs) : ∃ r, rs.drop (cnt rs id) = id :: r := by
  obtain ⟨h1, h2⟩ := split_at rs id h
  have hm' := hm
  rw [← List.take_append_drop (cnt rs id) rs] at hm'
  have hd : id ∈ rs.drop (cnt rs id) := by
    rcases List.mem_append.1 hm' with h | h
    · exact absurd (h1 _ h) (by omega)
    · exact h
  cases hr : rs.drop (cnt rs id) with
  | nil => rw [hr] at hd; cases hd
  | cons y r =>
    rw [hr] at hd h2
    have hp : (y :: r).Pairwise (· < ·) := by rw [← hr]; exact List.Pairwise.sublist (List.drop_sublist _ _) h
    obtain ⟨hy, _⟩ := List.pairwise_cons.1 hp
    rcases List.mem_cons.1 hd with rfl | hd
    · exact ⟨r, rfl⟩
    · have a := hy id hd
      have b := h2 y (by simp)
      omega

theorem cnt_lt {rs : List Int} {id : Int} (h : rs.Pairwise (· < ·)) (hm : id ∈ rs) : cnt rs id < rs.length := by
  obtain ⟨r, hr⟩ := drop_mem h hm
  have : (rs.drop (cnt rs id)).length = (id :: r).length := by rw [hr]
  simp at this
  omega

theorem mem_delI {rs : List Int} {id x : Int} (h : rs.Pairwise (· < ·)) (hm : id ∈ rs) : x ∈ delI rs id ↔ x ∈ rs ∧ x ≠ id := by
  obtain ⟨r, hr⟩ := drop_mem h hm
  have hr' : rs.drop (cnt rs id + 1) = r := by
    have : (rs.drop (cnt rs id)).drop 1 = r := by rw [hr]; rfl
    rwa [List.drop_drop] at this
  obtain ⟨h1, _⟩ := split_at rs id h
  have e : rs = rs.take (cnt rs id) ++ id :: r := by rw [← hr, List.take_append_drop]
  have hp := h
  rw [e] at hp
  obtain ⟨_, hb, _⟩ := List.pairwise_append.1 hp
  obtain ⟨hid, _⟩ := List.pairwise_cons.1 hb
  unfold delI
  rw [hr']
  constructor
  · intro hx
    rcases List.mem_append.1 hx with hx | hx
    · exact ⟨List.mem_of_mem_take hx, fun e => by have := h1 x hx; omega⟩
    · exact ⟨by rw [e]; simp [hx], fun e => by have := hid x hx; omega⟩
  · rintro ⟨hx, hne⟩
    rw [e] at hx
    rcases List.mem_append.1 hx with hx | hx
    · simp [hx]
    · rcases List.mem_cons.1 hx with hx | hx
      · exact absurd hx hne
      · simp [hx]

theorem up_delI {rs : List Int} {id : Int} (h : rs.Pairwise (· < ·)) : (delI rs id).Pairwise (· < ·) := by
  refine List.Pairwise.sublist ?_ h
  unfold delI
  have : (rs.take (cnt rs id) ++ rs.drop (cnt rs id + 1)).Sublist (rs.take (cnt rs id) ++ rs.drop (cnt rs id)) := by
    refine List.Sublist.append_left ?_ _
    rw [← List.drop_drop]
    exact List.drop_sublist _ _
  rwa [List.take_append_drop] at this

theorem length_insI (rs : List Int) (id : Int) : (insI rs id).length = rs.length + 1 := by
  have := cnt_le rs id
  unfold insI
  simp
  omega
theorem length_delI {rs : List Int} {id : Int} (h : rs.Pairwise (· < ·)) (hm : id ∈ rs) : (delI rs id).length + 1 = rs.length := by
  have := cnt_lt h hm
  unfold delI
  simp
  omega

theorem Inv.read {l : L} (h : Inv l) (id : Int) : Inv (l.read id) := by
  unfold L.read
  split
  · rename_i hm
    simp [L.mayRead, L.holds] at hm
    exact ⟨up_insI h.up hm.2.1, fun hw => by simp [hm.1] at hw⟩
  · exact h
theorem Inv.write {l : L} (h : Inv l) (id : Int) : Inv (l.write id) := by
  unfold L.write
  split
  · rename_i hm
    simp [L.mayWrite, L.idle] at hm
    exact ⟨h.up, fun _ => hm.1.1⟩
  · exact h
theorem Inv.free {l : L} (h : Inv l) (id : Int) : Inv (l.free id) := by
  unfold L.free
  split
  · split
    · exact ⟨h.up, fun hw => by simp at hw⟩
    · rename_i h1 h2
      exact ⟨up_delI h.up, fun hw => absurd hw h2⟩
  · exact h

theorem holds_read {l : L} (id x : Int) : (l.read id).holds x = true ↔ l.holds x = true ∨ (l.mayRead id = true ∧ x = id) := by
  unfold L.read
  split
  · rename_i hm
    simp only [L.holds, Bool.or_eq_true, List.contains_iff_mem, mem_insI, hm]
    simp
    constructor
    · rintro ((h | h) | h)
      · exact .inr h
      · exact .inl (.inl h)
      · exact .inl (.inr h)
    · rintro ((h | h) | h)
      · exact .inl (.inr h)
      · exact .inr h
      · exact .inl (.inl h)
  · rename_i hm
    simp [hm]
theorem holds_write {l : L} (id x : Int) : (l.write id).holds x = true ↔ l.holds x = true ∨ (l.mayWrite id = true ∧ x = id) := by
  unfold L.write
  split
  · rename_i hm
    have hm' := hm
    simp [L.mayWrite, L.idle] at hm'
    obtain ⟨⟨h1, h2⟩, _⟩ := hm'
    simp [L.holds, h1, h2, hm]
    exact eq_comm
  · rename_i hm
    simp [hm]
theorem holds_free {l : L} (id x : Int) (hi : Inv l) : (l.free id).holds x = true ↔ l.holds x = true ∧ x ≠ id := by
  unfold L.free
  split
  · rename_i hh
    split
    · rename_i hw
      have hr := hi.one hw
      simp [L.holds, hr] at hh ⊢
      intro e
      rw [hh] at e
      injection e with e
      exact e.symm
    · rename_i hw
      have hn : l.wr = none := by cases h : l.wr <;> simp_all
      simp [L.holds, hn] at hh ⊢
      exact mem_delI hi.up hh
  · rename_i hh
    constructor
    · intro h
      exact ⟨h, fun e => hh (e ▸ h)⟩
    · exact fun h => h.1

theorem idle_iff {l : L} : l.idle = true ↔ ∀ x, l.holds x = false := by
  constructor
  · intro h x
    simp [L.idle] at h
    simp [L.holds, h.1, h.2]
  · intro h
    obtain ⟨rs, wr⟩ := l
    simp [L.idle]
    constructor
    · cases rs with
      | nil => rfl
      | cons x rs => have := h x; simp [L.holds] at this
    · cases wr with
      | none => rfl
      | some x => have := h x; simp [L.holds] at this

theorem mayRead_not {l : L} {id : Int} (h : l.mayRead id = true) : l.holds id = false := by simp [L.mayRead] at h; exact h.2
theorem mayWrite_not {l : L} {id : Int} (h : l.mayWrite id = true) : l.holds id = false := by simp [L.mayWrite] at h; exact h.2
end Lk
end
