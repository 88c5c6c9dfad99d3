/-
  The ranked tree's All: what it hands to a yield, in order: for every loop body that keeps what lay below.
-/
import Derived.RangeFuncNested
import Derived.RangeFuncBound
import Derived.RangeFuncCalls
import Derived.RangeFuncLeaves
import Derived.RangeFuncFrom
import Derived.Shelf.Abstract
import Derived.Shelf.RegionOpen
import Derived.WalkKit
import Derived.OwnWalkIn
import Derived.TacticsInMore
import Derived.LoopNIn
import Derived.LoopIn
import Derived.Test.YtnpfikabcmngpaaSegJ
import Derived.Test.YtnpfikabcmngpaaSeqN
import Derived.Test.YtnpfikabcmngpaaTrEi
namespace Go.Proofs.Ytnpfikabcmngpaa.TrEi
open Go.RowKit Go.Shelf Go.Seg Go.Open Rk
attribute [local go_sem] Oper.semAt_some

theorem anyDepth {F : Fence} (hd : F.depth = none) {m : Nat} (m' : Nat) {P : Program} {l : Nat} {args : Array Value} {W : World} {R : Ending → World → Prop} (h : YieldAt F m P l args W R) : YieldAt F m' P l args W R := by
  obtain ⟨fn, tmps, assign, body, hy, hR⟩ := h
  exact ⟨fn, tmps, assign, body, hy, hR.1, fun c cs _ => hR.2 c cs (fun d h => by rw [hd] at h; cases h)⟩

/-- The tree lies there, in blocks below n₀. -/
def isB (n₀ : Nat) (w : World) : Option Addr → T Int (Int × Int × Int × Int × Int × Int) → Prop
  | p, .nil => p = none
  | p, .node k v l r => ∃ b pl pr, p = some ⟨b, 0, none⟩ ∧ b < n₀ ∧ NodeAt w b k v pl pr (l.sz + r.sz + 1) (max l.dp r.dp + 1) ∧ isB n₀ w pl l ∧ isB n₀ w pr r
theorem isT.low {w : World} : ∀ {t : T Int (Int × Int × Int × Int × Int × Int)} {p : Option Addr}, isT w p t → isB w.heap.size w p t
  | .nil, _, h => h
  | .node _ _ _ _, _, ⟨b, pl, pr, hp, hb, hl, hr⟩ => ⟨b, pl, pr, hp, Blk.lt hb, hb, hl.low, hr.low⟩
theorem blk_below {n₀ : Nat} {A B : World} {b : Nat} {cs : Array Value} {E : TypeId} (h : Below n₀ A B) (hb : b < n₀) (k : Blk A b cs E) : Blk B b cs E := by
  unfold Blk at *
  rw [h.block b hb]; exact k
theorem isB.below {n₀ : Nat} {A B : World} (h : Below n₀ A B) : ∀ {t : T Int (Int × Int × Int × Int × Int × Int)} {p : Option Addr}, isB n₀ A p t → isB n₀ B p t
  | .nil, _, k => k
  | .node _ _ _ _, _, ⟨b, pl, pr, hp, hlt, hb, hl, hr⟩ => ⟨b, pl, pr, hp, hlt, blk_below h hlt hb, hl.below h, hr.below h⟩

theorem may_true (k : Int) (w : World) : Calls Try.prog 89 #[.int .u64 k] w fun e w' => e = .returned (.bool true) ∧ w = w' := by
  go_enter Try.func89, Try.ntmps89
  go_wp2_with fail
  go_ret
  exact ⟨rfl, rfl⟩

set_option maxRecDepth 100000 in
set_option maxHeartbeats 2000000 in
theorem walkT_in (l n₀ : Nat) (L0 : List (Int × Int × Int × Int × Int × Int × Int)) (J Jx : List (Int × Int × Int × Int × Int × Int × Int) → World → Prop) (hJd : ∀ s W, J s W → J s W.drew)
    (hY : ∀ m pre x W, J pre W → pre ++ [x] <+: L0 → YieldAt Fence.wide m Try.prog l #[.int .u64 x.1, .agg #[.int .u64 x.2.1, .int .i64 x.2.2.1, .int .i64 x.2.2.2.1, .int .i64 x.2.2.2.2.1, .int .i64 x.2.2.2.2.2.1, .int .i64 x.2.2.2.2.2.2]] W fun e W' =>
      (e = .returned (.bool true) ∧ J (pre ++ [x]) W' ∧ Below n₀ W W') ∨ (e = .returned (.bool false) ∧ Jx (pre ++ [x]) W')) (t : T Int (Int × Int × Int × Int × Int × Int)) :
    ∀ (n : Nat) (p : Option Addr) (pre : List (Int × Int × Int × Int × Int × Int × Int)) (W : World), isB n₀ W p t → J pre W → pre ++ t.toL <+: L0 →
      CallsIn Fence.wide n Try.prog 88 #[.pointer p, .func (.func 89) #[] #[], .func (.yield l) #[] #[]] W fun e W' =>
        (e = .returned (.bool true) ∧ J (pre ++ t.toL) W' ∧ Below n₀ W W') ∨ (e = .returned (.bool false) ∧ ∃ q, q <+: t.toL ∧ Jx (pre ++ q) W') := by
  induction t with
  | nil =>
    intro n p pre W ht hJ _
    obtain rfl : p = none := ht
    refine callsIn_wide.2 ?_
    go_enter Try.func88, Try.ntmps88
    go_wp2_with fail
    go_ret
    exact .inl ⟨rfl, by simpa [T.toL] using hJ, Below.refl _ _⟩
  | node xk xv tl tr ihl ihr =>
    intro n p pre W ht hJ hN
    obtain ⟨b, pl, pr, rfl, hlt, hb, hl, hr⟩ := ht
    simp only [T.toL] at hN
    have c0 := hb.c0
    have HB := Lib.hid hb
    have HL := Lib.hid hl
    have HR := Lib.hid hr
    have HJ := Lib.hid hJ
    have IHL := Lib.hid ihl
    have IHR := Lib.hid ihr
    have HY := Lib.hid hY
    clear hb hl hr hJ ihl ihr hY
    refine callsIn_wide.2 ?_
    go_enter Try.func88, Try.ntmps88
    go_wp2_with fail
    refine (may_true _ _).mono ?_
    rintro e w' ⟨rfl, rfl⟩
    go_wp2_with fail
    clear c0
    refine wpIn_wide (n := n).1 ?_
    refine wpIn_region_segsJ [([6, 23], 6), ([10, 12], 17), ([8, 3], 26), ([2], 29)] (by kernel_rfl) (by kernel_rfl) ?_
    apply segsJ_cons
    · have hb9 := blk_below ((Below.refl n₀ W).drew) hlt HB.out
      have c0 := NodeAt.c0 hb9
      have c1 := NodeAt.c1 hb9
      have c2 := NodeAt.c2 hb9
      have c3 := NodeAt.c3 hb9
      have c4 := NodeAt.c4 hb9
      have c5 := NodeAt.c5 hb9
      have c6 := NodeAt.c6 hb9
      have c7 := NodeAt.c7 hb9
      have c8 := NodeAt.c8 hb9
      have c9 := NodeAt.c9 hb9
      clear hb9
      simp only [runsT, runsF, rep, pick]
      go_wp2_with fail
      exact ⟨rfl, rfl⟩
    simp only [runsT, runsF, rep, left]
    have ih1 := IHL.out (n - 1) pl pre W.drew (HL.out.below ((Below.refl n₀ W).drew)) (hJd _ _ HJ.out) (List.IsPrefix.trans ⟨(xk, xv) :: tr.toL, by simp⟩ hN)
    gi_wp2
    refine ⟨trivial, fun h => (by simp [Fence.wide] at h), ?_⟩
    refine ih1.mono ?_
    clear ih1
    rintro e W1 (⟨rfl, hJ1, hb1⟩ | ⟨rfl, q, hq, hx1⟩)
    · (try dsimp only)
      apply_assumption
      change SegsJ _ _ _ _ _ _ _ _
      apply segsJ_cons
      · have hb9 := blk_below (((Below.refl n₀ W).drew).trans hb1) hlt HB.out
        have c0 := NodeAt.c0 hb9
        have c1 := NodeAt.c1 hb9
        have c2 := NodeAt.c2 hb9
        have c3 := NodeAt.c3 hb9
        have c4 := NodeAt.c4 hb9
        have c5 := NodeAt.c5 hb9
        have c6 := NodeAt.c6 hb9
        have c7 := NodeAt.c7 hb9
        have c8 := NodeAt.c8 hb9
        have c9 := NodeAt.c9 hb9
        clear hb9
        simp only [runsT, runsF, rep, pick]
        go_wp2_with fail
        exact ⟨rfl, rfl⟩
      simp only [runsT, runsF, rep, left]
      obtain ⟨fn, tmps, assign, body, hy, hR⟩ := HY.out (n - 1) (pre ++ tl.toL) (xk, xv) W1 hJ1 (List.IsPrefix.trans ⟨tr.toL, by simp⟩ hN)
      gi_wp2
      refine ⟨fun h => (by simp [Fence.wide] at h), ?_⟩
      refine hR.mono ?_
      clear hR
      rintro e W2 (⟨rfl, hJ2, hb2⟩ | ⟨rfl, hx2⟩)
      · (try dsimp only)
        apply_assumption
        change SegsJ _ _ _ _ _ _ _ _
        apply segsJ_cons
        · have hb9 := blk_below ((((Below.refl n₀ W).drew).trans hb1).trans hb2) hlt HB.out
          have c0 := NodeAt.c0 hb9
          have c1 := NodeAt.c1 hb9
          have c2 := NodeAt.c2 hb9
          have c3 := NodeAt.c3 hb9
          have c4 := NodeAt.c4 hb9
          have c5 := NodeAt.c5 hb9
          have c6 := NodeAt.c6 hb9
          have c7 := NodeAt.c7 hb9
          have c8 := NodeAt.c8 hb9
          have c9 := NodeAt.c9 hb9
          clear hb9
          simp only [runsT, runsF, rep, pick]
          go_wp2_with fail
          exact ⟨rfl, rfl⟩
        simp only [runsT, runsF, rep, left]
        have ih3 := IHR.out (n - 1) pr _ W2 (HR.out.below ((((Below.refl n₀ W).drew).trans hb1).trans hb2)) hJ2 (by simpa [List.append_assoc] using hN)
        gi_wp2
        refine ⟨trivial, fun h => (by simp [Fence.wide] at h), ?_⟩
        refine ih3.mono ?_
        clear ih3
        rintro e W3 (⟨rfl, hJ3, hb3⟩ | ⟨rfl, q, hq, hx3⟩)
        · (try dsimp only)
          apply_assumption
          change SegsJ _ _ _ _ _ _ _ _
          apply segsJ_cons
          · skip
            simp only [runsT, runsF, rep, pick]
            go_wp2_with fail
            exact ⟨rfl, rfl⟩
          simp only [runsT, runsF, rep, left]
          go_wp2_with fail
          go_ret
          exact .inl ⟨rfl, by simpa [T.toL, List.append_assoc] using hJ3, ((((Below.refl n₀ W).drew).trans hb1).trans hb2).trans hb3⟩
        · (try dsimp only)
          apply_assumption
          change SegsJ _ _ _ _ _ _ _ _
          apply segsJ_cons
          · skip
            simp only [runsT, runsF, rep, pick]
            go_wp2_with fail
            exact ⟨rfl, rfl⟩
          simp only [runsT, runsF, rep, left]
          go_wp2_with fail
          go_ret
          obtain ⟨r, hr'⟩ := hq
          exact .inr ⟨rfl, tl.toL ++ (xk, xv) :: q, ⟨r, by simp [T.toL, ← hr']⟩, by simpa [List.append_assoc] using hx3⟩
      · (try dsimp only)
        apply_assumption
        change SegsJ _ _ _ _ _ _ _ _
        apply segsJ_cons
        · skip
          simp only [runsT, runsF, rep, pick]
          go_wp2_with fail
          exact ⟨rfl, rfl⟩
        simp only [runsT, runsF, rep, left]
        gi_wp2
        refine ⟨(by first | exact trivial | (intro f h; cases h)), ?_⟩
        (try apply_assumption)
        change SegsJ _ _ _ _ _ _ _ _
        apply segsJ_cons
        · skip
          simp only [runsT, runsF, rep, pick]
          go_wp2_with fail
          exact ⟨rfl, rfl⟩
        simp only [runsT, runsF, rep, left]
        go_wp2_with fail
        go_ret
        exact .inr ⟨rfl, tl.toL ++ [(xk, xv)], ⟨tr.toL, by simp [T.toL]⟩, by simpa [List.append_assoc] using hx2⟩
    · (try dsimp only)
      apply_assumption
      change SegsJ _ _ _ _ _ _ _ _
      apply segsJ_cons
      · skip
        simp only [runsT, runsF, rep, pick]
        go_wp2_with fail
        exact ⟨rfl, rfl⟩
      simp only [runsT, runsF, rep, left]
      gi_wp2
      refine ⟨(by first | exact trivial | (intro f h; cases h)), ?_⟩
      (try apply_assumption)
      change SegsJ _ _ _ _ _ _ _ _
      apply segsJ_cons
      · skip
        simp only [runsT, runsF, rep, pick]
        go_wp2_with fail
        exact ⟨rfl, rfl⟩
      simp only [runsT, runsF, rep, left]
      gi_wp2
      refine ⟨(by first | exact trivial | (intro f h; cases h)), ?_⟩
      (try apply_assumption)
      change SegsJ _ _ _ _ _ _ _ _
      apply segsJ_cons
      · skip
        simp only [runsT, runsF, rep, pick]
        go_wp2_with fail
        exact ⟨rfl, rfl⟩
      simp only [runsT, runsF, rep, left]
      go_wp2_with fail
      go_ret
      exact .inr ⟨rfl, q, hq.trans (by simp [T.toL]), hx1⟩

/-- The tree, in blocks below n₀. -/
def isTreeB (n₀ : Nat) (w : World) (p : Option Addr) (t : T Int (Int × Int × Int × Int × Int × Int)) : Prop := ∃ b root, p = some ⟨b, 0, none⟩ ∧ b < n₀ ∧ TreeAt w b root ∧ isB n₀ w root t
theorem isTree.low {w : World} {t : T Int (Int × Int × Int × Int × Int × Int)} {p : Option Addr} : isTree w p t → isTreeB w.heap.size w p t := fun ⟨b, root, hp, hb, ht⟩ => ⟨b, root, hp, Blk.lt hb, hb, ht.low⟩
theorem isTreeB.below {n₀ : Nat} {A B : World} (h : Below n₀ A B) {t : T Int (Int × Int × Int × Int × Int × Int)} {p : Option Addr} : isTreeB n₀ A p t → isTreeB n₀ B p t := fun ⟨b, root, hp, hl, hb, ht⟩ => ⟨b, root, hp, hl, blk_below h hl hb, ht.below h⟩

theorem All_any (p : Option Addr) (w : World) : Calls Try.prog 60 #[.pointer p] w fun e w' =>
    e = .returned (.func (.func 87) #[] #[.pointer (some ⟨w.heap.size, 0, none⟩)]) ∧ w' = w.alloc (.cells #[.pointer p] 77) := by
  go_enter Try.func60, Try.ntmps60
  go_wp2_with fail
  go_ret
  exact ⟨rfl, rfl⟩

set_option maxRecDepth 100000 in
set_option maxHeartbeats 1000000 in
theorem all1_in (n l Bt n₀ : Nat) (p : Option Addr) (t : T Int (Int × Int × Int × Int × Int × Int)) (J Jx : List (Int × Int × Int × Int × Int × Int × Int) → World → Prop) (hJd : ∀ s W, J s W → J s W.drew)
    (hY : ∀ pre x W, J pre W → pre ++ [x] <+: t.toL → YieldAt Fence.wide (n - 1) Try.prog l #[.int .u64 x.1, .agg #[.int .u64 x.2.1, .int .i64 x.2.2.1, .int .i64 x.2.2.2.1, .int .i64 x.2.2.2.2.1, .int .i64 x.2.2.2.2.2.1, .int .i64 x.2.2.2.2.2.2]] W fun e W' =>
      (e = .returned (.bool true) ∧ J (pre ++ [x]) W' ∧ Below n₀ W W') ∨ (e = .returned (.bool false) ∧ Jx (pre ++ [x]) W'))
    (W : World) (hBt : W.cell? ⟨Bt, 0, none⟩ = some (.pointer p)) (hT : isTreeB n₀ W p t) (h0 : J [] W) :
    CallsIn Fence.wide n Try.prog 87 #[.func (.yield l) #[] #[], .pointer (some ⟨Bt, 0, none⟩)] W fun e W' => (∃ v, e = .returned v) ∧
      ((∃ ys, ys = t.toL ∧ J ys W') ∨ (∃ pre, pre <+: t.toL ∧ Jx pre W')) := by
  obtain ⟨tb, root, rfl, hlt, hb, ht⟩ := hT
  have hp := callsIn_wide.1 (walkT_in l n₀ t.toL J Jx hJd (fun m pre x W hj hl => anyDepth rfl m (hY pre x W hj hl)) t 0 root [] W ht h0 (List.prefix_refl _))
  have t1 := hb.c1
  have HP := Lib.hid hp
  clear hp hb ht hY hJd
  refine callsIn_wide.2 ?_
  go_enter Try.func87, Try.ntmps87
  go_wp2_with fail
  refine HP.out.mono ?_
  rintro e W1 (⟨rfl, hJ1, _⟩ | ⟨rfl, q, hq, hx⟩)
  · go_wp2_with fail
    go_end0
    exact ⟨⟨_, rfl⟩, .inl ⟨_, rfl, by simpa using hJ1⟩⟩
  · go_wp2_with fail
    go_end0
    exact ⟨⟨_, rfl⟩, .inr ⟨q, hq, by simpa using hx⟩⟩

theorem grown_drew (W : World) : W.grownBy W.drew none := ⟨rfl, rfl, rfl, Nat.le_refl _, fun _ _ _ => rfl⟩

theorem YieldAt.mono' {F : Fence} {m : Nat} {P : Program} {l : Nat} {args : Array Value} {W : World} {R R' : Ending → World → Prop} (h : YieldAt F m P l args W R) (hr : ∀ e w', R e w' → R' e w') : YieldAt F m P l args W R' := by
  obtain ⟨fn, tmps, assign, body, hy, hR⟩ := h
  exact ⟨fn, tmps, assign, body, hy, hR.mono hr⟩
/-- What All hands back goes through the tree's keys and things, in order. -/
theorem all_N (n Bt n₀ : Nat) (Kp : World → World → Prop) (hKp : ∀ A B, Kp A B → Below n₀ A B) (p : Option Addr) (t : T Int (Int × Int × Int × Int × Int × Int)) (w : World) (hBt : Bt < w.heap.size) (hn₀ : n₀ ≤ w.heap.size)
    (hc : w.cell? ⟨Bt, 0, none⟩ = some (.pointer p)) (hT : isTreeB n₀ w p t) :
    SeqN Fence.wide n Try.prog 87 #[.pointer (some ⟨Bt, 0, none⟩)] (fun x : Int × Int × Int × Int × Int × Int × Int => #[Value.int .u64 x.1, Value.agg #[.int .u64 x.2.1, .int .i64 x.2.2.1, .int .i64 x.2.2.2.1, .int .i64 x.2.2.2.2.1, .int .i64 x.2.2.2.2.2.1, .int .i64 x.2.2.2.2.2.2]]) Kp (fun ys => ys = t.toL) (fun pre => pre <+: t.toL) w := fun l J Jx W hW hJ _ hY h0 =>
  all1_in n l Bt n₀ p t J Jx (fun s W h => hJ s W W.drew none h (grown_drew W) (fun r e => by cases e)) (fun pre x W hj hp => YieldAt.mono' (hY pre x W hj hp) (fun e w' h => h.2.elim (fun h => .inl ⟨h.1, h.2.1, hKp _ _ h.2.2⟩) .inr)) W ((hW.cell (p := ⟨Bt, 0, none⟩) hBt).trans hc) (hT.below (hW.mono hn₀)) h0
end Go.Proofs.Ytnpfikabcmngpaa.TrEi
