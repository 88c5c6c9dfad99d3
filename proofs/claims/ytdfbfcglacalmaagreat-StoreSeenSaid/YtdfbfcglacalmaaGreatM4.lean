/-
  The contracts of the ranked tree at pending: each function of package rank comes to the plain tree's. Trees of fewer than 800,000,000 keys; no other condition.
  A region that draws its order, by segments that begin anew. A pure segment: operations that look at no memory are taken whenever they come up. Another segment: its looks are waited for by all that has not come up yet: so they look at the world as it is, and of the call or store behind it nothing is asked. No program in sight; no condition.
  PLAIN LAW: what Get answers of a ranked tree behind Put and Drop. No program in sight; no condition.
  Package shard, at things that are ints: each function comes to what two plain trees say. Fewer than 1,000,000 entries and ways; no other condition.
-/
import Derived.WalkKit
import Derived.KernelRfl
import Derived.Deep.RegionWith
import Derived.Deep.LoopGhost
import Derived.Lib.Hide
import Derived.Laws.ResultCell
import Derived.Test.YtdfbfcglacalmaaGreatM1
import Derived.Test.YtdfbfcglacalmaaGreatM2
import Derived.Test.YtdfbfcglacalmaaGreatProg
import Derived.Test.YtdfbfcglacalmaaGreatM3
section
namespace Go.Proofs.YtdfbfcglacalmaaGreat.TrPe
open Go.RowKit Go.Seg Go.Open Rk
/-- A node's block. -/
def NodeAt (w : World) (b : Nat) (k : Int) (v : Int × Int) (pl pr : Option Addr) (n d : Int) : Prop := Blk w b #[.int .u64 k, .int .i64 v.1, .int .i64 v.2, .pointer pl, .pointer pr, .int .i64 n, .int .i64 d] 181
theorem NodeAt.ext {w w' : World} {b : Nat} {k : Int} {v : Int × Int} {pl pr : Option Addr} {n d : Int} (h : NodeAt w b k v pl pr n d) (e : Ext w w') : NodeAt w' b k v pl pr n d := Blk.ext h e
theorem NodeAt.c0 {w : World} {b : Nat} {k : Int} {v : Int × Int} {pl pr : Option Addr} {n d : Int} (h : NodeAt w b k v pl pr n d) : w.cell? ⟨b, 0, none⟩ = some (.int .u64 k) := Blk.cell h rfl
theorem NodeAt.c1 {w : World} {b : Nat} {k : Int} {v : Int × Int} {pl pr : Option Addr} {n d : Int} (h : NodeAt w b k v pl pr n d) : w.cell? ⟨b, 1, none⟩ = some (.int .i64 v.1) := Blk.cell h rfl
theorem NodeAt.c2 {w : World} {b : Nat} {k : Int} {v : Int × Int} {pl pr : Option Addr} {n d : Int} (h : NodeAt w b k v pl pr n d) : w.cell? ⟨b, 2, none⟩ = some (.int .i64 v.2) := Blk.cell h rfl
theorem NodeAt.c3 {w : World} {b : Nat} {k : Int} {v : Int × Int} {pl pr : Option Addr} {n d : Int} (h : NodeAt w b k v pl pr n d) : w.cell? ⟨b, 3, none⟩ = some (.pointer pl) := Blk.cell h rfl
theorem NodeAt.c4 {w : World} {b : Nat} {k : Int} {v : Int × Int} {pl pr : Option Addr} {n d : Int} (h : NodeAt w b k v pl pr n d) : w.cell? ⟨b, 4, none⟩ = some (.pointer pr) := Blk.cell h rfl
theorem NodeAt.c5 {w : World} {b : Nat} {k : Int} {v : Int × Int} {pl pr : Option Addr} {n d : Int} (h : NodeAt w b k v pl pr n d) : w.cell? ⟨b, 5, none⟩ = some (.int .i64 n) := Blk.cell h rfl
theorem NodeAt.c6 {w : World} {b : Nat} {k : Int} {v : Int × Int} {pl pr : Option Addr} {n d : Int} (h : NodeAt w b k v pl pr n d) : w.cell? ⟨b, 6, none⟩ = some (.int .i64 d) := Blk.cell h rfl
/-- The tree lies there. -/
def isT (w : World) : Option Addr → T Int (Int × Int) → Prop
  | p, .nil => p = none
  | p, .node k v l r => ∃ b pl pr, p = some ⟨b, 0, none⟩ ∧ NodeAt w b k v pl pr (l.sz + r.sz + 1) (max l.dp r.dp + 1) ∧ isT w pl l ∧ isT w pr r
theorem isT.ext {w w' : World} (e : Ext w w') : ∀ {t : T Int (Int × Int)} {p : Option Addr}, isT w p t → isT w' p t
  | .nil, _, hp => hp
  | .node _ _ _ _, _, ⟨b, pl, pr, hp, hb, hl, hr⟩ => ⟨b, pl, pr, hp, hb.ext e, hl.ext e, hr.ext e⟩
theorem isT_node {w : World} {p : Option Addr} {k : Int} {v : Int × Int} {l r : T Int (Int × Int)} (h : isT w p (.node k v l r)) : ∃ b pl pr, p = some ⟨b, 0, none⟩ ∧ NodeAt w b k v pl pr (l.sz + r.sz + 1) (max l.dp r.dp + 1) ∧ isT w pl l ∧ isT w pr r := h
theorem size_any (w : World) (p : Option Addr) (t : T Int (Int × Int)) (h : isT w p t) : Calls Tryz.prog 148 #[.pointer p] w fun e w' => e = .returned (.int .i64 t.sz) ∧ w = w' := by
  cases t with
  | nil =>
    obtain rfl := h
    go_enter Tryz.func148, Tryz.ntmps148
    go_wp2
    go_ret
    exact ⟨rfl, rfl⟩
  | node k v l r =>
    obtain ⟨b, pl, pr, rfl, hb, _, _⟩ := isT_node h
    have c := hb.c5
    clear hb h
    go_enter Tryz.func148, Tryz.ntmps148
    go_wp2
    go_ret
    exact ⟨rfl, rfl⟩
theorem deep_any (w : World) (p : Option Addr) (t : T Int (Int × Int)) (h : isT w p t) : Calls Tryz.prog 149 #[.pointer p] w fun e w' => e = .returned (.int .i64 t.dp) ∧ w = w' := by
  cases t with
  | nil =>
    obtain rfl := h
    go_enter Tryz.func149, Tryz.ntmps149
    go_wp2
    go_ret
    exact ⟨rfl, rfl⟩
  | node k v l r =>
    obtain ⟨b, pl, pr, rfl, hb, _, _⟩ := isT_node h
    have c := hb.c6
    clear hb h
    go_enter Tryz.func149, Tryz.ntmps149
    go_wp2
    go_ret
    exact ⟨rfl, rfl⟩
set_option maxRecDepth 100000 in
theorem made_any (w : World) (k : Int) (v : Int × Int) (pl pr : Option Addr) (l r : T Int (Int × Int)) (hl : isT w pl l) (hr : isT w pr r) (hs : l.sz + r.sz < 1000000000) :
    Calls Tryz.prog 126 #[.int .u64 k, .agg #[.int .i64 v.1, .int .i64 v.2], .pointer pl, .pointer pr] w fun e w' => ∃ p, e = .returned (.pointer p) ∧ isT w' p (.node k v l r) ∧ Ext w w' := by
  have h1 := l.sz_nn
  have h2 := r.sz_nn
  have h3 := l.dp_nn
  have h4 := r.dp_nn
  have h5 := l.dp_le_sz
  have h6 := r.dp_le_sz
  have hA : Ext w (w.alloc (Obj.cells #[.int .i64 v.1, .int .i64 v.2] 111)) := (Below.refl _ _).alloc (Nat.le_refl _) _
  have HP := Lib.hid (show Blk (w.alloc (Obj.cells #[.int .i64 v.1, .int .i64 v.2] 111)) w.heap.size #[.int .i64 v.1, .int .i64 v.2] 111 from Blk.new _ _ _)
  have p0 := HP.out.cell (i := 0) rfl
  have p1 := HP.out.cell (i := 1) rfl
  have H1 := Lib.hid (hl.ext hA)
  have H2 := Lib.hid (hr.ext hA)
  clear hl hr
  rcases Int.lt_or_le l.dp r.dp with hm | hm
  all_goals
    go_enter Tryz.func126, Tryz.ntmps126
    go_wp2_with fail
    refine wp_region_segs 19 [([5, 1, 1, 3, 1, 1, 1, 6], false), ([0, 10], false), ([2, 7], false), ([0, 6], false), ([3, 2], false), ([1], false)] (by kernel_rfl) (by kernel_rfl) ?_
    apply segs_cons
    · intro W hW
      skip
      have p0 := (HP.out.ext hW.of_drew).cell (i := 0) rfl
      have p1 := (HP.out.ext hW.of_drew).cell (i := 1) rfl
      simp only [runsT, runsF, rep, pick]
      go_wp2_with fail
      exact ⟨rfl, rfl⟩
    simp only [runsT, runsF, rep, left]
    go_wp2_with fail
    refine (size_any _ _ _ (H1.out.ext (Ext.drew _))).mono ?_
    rintro e w' ⟨rfl, rfl⟩
    go_wp2_with fail
    refine ⟨fun _ => Ext.refl _, ?_⟩
    apply segs_cons
    · intro W hW
      exact ⟨rfl, rfl⟩
    simp only [runsT, runsF, rep, left]
    go_wp2_with fail
    refine (size_any _ _ _ (H2.out.ext (Ext.drew _))).mono ?_
    rintro e w' ⟨rfl, rfl⟩
    go_wp2_with fail
    refine ⟨fun _ => Ext.refl _, ?_⟩
    apply segs_cons
    · intro W hW
      simp only [runsT, runsF, rep, pick]
      go_wp2_with fail
      exact ⟨rfl, rfl⟩
    simp only [runsT, runsF, rep, left]
    go_wp2_with fail
    refine (deep_any _ _ _ (H1.out.ext (Ext.drew _))).mono ?_
    rintro e w' ⟨rfl, rfl⟩
    go_wp2_with fail
    refine ⟨fun _ => Ext.refl _, ?_⟩
    apply segs_cons
    · intro W hW
      exact ⟨rfl, rfl⟩
    simp only [runsT, runsF, rep, left]
    go_wp2_with fail
    refine (deep_any _ _ _ (H2.out.ext (Ext.drew _))).mono ?_
    rintro e w' ⟨rfl, rfl⟩
    go_wp2_with fail
    refine ⟨fun _ => Ext.refl _, ?_⟩
    apply segs_cons
    · intro W hW
      simp only [runsT, runsF, rep, pick]
      go_wp2_with fail
      exact ⟨rfl, rfl⟩
    simp only [runsT, runsF, rep, left]
    go_wp2_with fail
    refine ⟨fun _ => (Below.refl _ _).alloc (Nat.le_refl _) _, ?_⟩
    apply segs_cons
    · intro W hW
      simp only [runsT, runsF, rep, pick]
      go_wp2_with fail
      exact ⟨rfl, rfl⟩
    simp only [runsT, runsF, rep, left]
    go_wp2_with fail
    have hs0 : ((w.alloc (Obj.cells #[.int .i64 v.1, .int .i64 v.2] 111))).heap.size = w.heap.size + 1 := by exact Array.size_push _
    have hB : Ext (w.alloc (Obj.cells #[.int .i64 v.1, .int .i64 v.2] 111)) (((w.alloc (Obj.cells #[.int .i64 v.1, .int .i64 v.2] 111)).alloc (Obj.cells #[.int .u64 k, .int .i64 v.1, .int .i64 v.2, .pointer pl, .pointer pr, .int .i64 (l.sz + r.sz + 1), .int .i64 (max l.dp r.dp + 1)] 181)).drew) := below_ext ((Below.refl _ _).alloc (Nat.le_refl _) _) (Ext.drew _)
    have hI : isT (((w.alloc (Obj.cells #[.int .i64 v.1, .int .i64 v.2] 111)).alloc (Obj.cells #[.int .u64 k, .int .i64 v.1, .int .i64 v.2, .pointer pl, .pointer pr, .int .i64 (l.sz + r.sz + 1), .int .i64 (max l.dp r.dp + 1)] 181)).drew) (some ⟨w.heap.size + 1, 0, none⟩) (.node k v l r) := by
      rw [← hs0]
      exact ⟨_, pl, pr, rfl, (Blk.new _ _ _).ext (Ext.drew _), H1.out.ext hB, H2.out.ext hB⟩
    first
      | (have e : max l.dp r.dp = l.dp := by omega)
      | (have e : max l.dp r.dp = r.dp := by omega)
    rw [e] at hI hB
    go_ret
    exact ⟨_, rfl, hI, hA.trans hB⟩
set_option maxRecDepth 100000 in
theorem leftUp_deep (w : World) (k : Int) (v : Int × Int) (b bm : Nat) (pr pll pml pmr : Option Addr) (ll ml mr r : T Int (Int × Int)) (lk mk : Int) (lv mv : Int × Int) (ln ld mn md : Int)
    (hb : NodeAt w b lk lv pll (some ⟨bm, 0, none⟩) ln ld) (hm : NodeAt w bm mk mv pml pmr mn md) (hM : isT w (some ⟨bm, 0, none⟩) (.node mk mv ml mr))
    (h1 : isT w pll ll) (h2 : isT w pml ml) (h3 : isT w pmr mr) (h4 : isT w pr r) (hd : ll.dp < (T.node mk mv ml mr).dp) (hs : ll.sz + ml.sz + mr.sz + r.sz < 900000000) :
    Calls Tryz.prog 150 #[.int .u64 k, .agg #[.int .i64 v.1, .int .i64 v.2], .pointer (some ⟨b, 0, none⟩), .pointer pr] w fun e w' => ∃ p, e = .returned (.pointer p) ∧ isT w' p (.node mk mv (.node lk lv ll ml) (.node k v mr r)) ∧ Ext w w' := by
  have g1 := ll.sz_nn
  have g2 := ml.sz_nn
  have g3 := mr.sz_nn
  have g4 := r.sz_nn
  have hD : decide (ll.dp < (T.node mk mv ml mr).dp) = true := decide_eq_true hd
  have hA : Ext w (w.alloc (Obj.cells #[.int .i64 v.1, .int .i64 v.2] 111)) := (Below.refl _ _).alloc (Nat.le_refl _) _
  have HP := Lib.hid (show Blk (w.alloc (Obj.cells #[.int .i64 v.1, .int .i64 v.2] 111)) w.heap.size #[.int .i64 v.1, .int .i64 v.2] 111 from Blk.new _ _ _)
  have c0 := (hb.ext hA).c0
  have c1 := (hb.ext hA).c1
  have c2 := (hb.ext hA).c2
  have c3 := (hb.ext hA).c3
  have c4 := (hb.ext hA).c4
  have c5 := (hb.ext hA).c5
  have c6 := (hb.ext hA).c6
  have HB := Lib.hid (hb.ext hA)
  have HN := Lib.hid (hm.ext hA)
  have H1 := Lib.hid (h1.ext hA)
  have H2 := Lib.hid (h2.ext hA)
  have H3 := Lib.hid (h3.ext hA)
  have H4 := Lib.hid (h4.ext hA)
  have HM := Lib.hid (hM.ext hA)
  clear h1 h2 h3 h4 hm hb hM hd
  go_enter Tryz.func150, Tryz.ntmps150
  go_wp2_with fail
  refine (deep_any _ _ _ H1.out).mono ?_; rintro e w' ⟨rfl, rfl⟩
  go_wp2_with fail
  refine (deep_any _ _ _ HM.out).mono ?_; rintro e w' ⟨rfl, rfl⟩
  go_wp2_with fail
  clear c0 c1 c2 c3 c4 c5 c6
  refine wp_region_segs 35 [([24, 1, 7, 3], false), ([0, 3], false), ([0, 2], false), ([1], false)] (by kernel_rfl) (by kernel_rfl) ?_
  apply segs_cons
  · intro W hW
    have c0 := (HB.out.ext hW.of_drew).c0
    have c1 := (HB.out.ext hW.of_drew).c1
    have c2 := (HB.out.ext hW.of_drew).c2
    have c3 := (HB.out.ext hW.of_drew).c3
    have c4 := (HB.out.ext hW.of_drew).c4
    have c5 := (HB.out.ext hW.of_drew).c5
    have c6 := (HB.out.ext hW.of_drew).c6
    have m0 := (HN.out.ext hW.of_drew).c0
    have m1 := (HN.out.ext hW.of_drew).c1
    have m2 := (HN.out.ext hW.of_drew).c2
    have m3 := (HN.out.ext hW.of_drew).c3
    have m4 := (HN.out.ext hW.of_drew).c4
    have m5 := (HN.out.ext hW.of_drew).c5
    have m6 := (HN.out.ext hW.of_drew).c6
    have p0 := (HP.out.ext hW.of_drew).cell (i := 0) rfl
    have p1 := (HP.out.ext hW.of_drew).cell (i := 1) rfl
    simp only [runsT, runsF, rep, pick]
    go_wp2_with fail
    exact ⟨rfl, rfl⟩
  simp only [runsT, runsF, rep, left]
  go_wp2_with fail
  refine (made_any _ _ _ _ _ _ _ (H1.out.ext (Ext.drew _)) (H2.out.ext (Ext.drew _)) (by omega)).mono ?_
  rintro e w1 ⟨p1, rfl, hp1, hE1⟩
  go_wp2_with fail
  refine ⟨fun _ => hE1, ?_⟩
  apply segs_cons
  · intro W hW
    exact ⟨rfl, rfl⟩
  simp only [runsT, runsF, rep, left]
  go_wp2_with fail
  refine (made_any _ _ _ _ _ _ _ (H3.out.ext ((Ext.drew _).trans hE1)) (H4.out.ext ((Ext.drew _).trans hE1)) (by omega)).mono ?_
  rintro e w2 ⟨p2, rfl, hp2, hE2⟩
  go_wp2_with fail
  refine ⟨fun _ => hE2, ?_⟩
  apply segs_cons
  · intro W hW
    exact ⟨rfl, rfl⟩
  simp only [runsT, runsF, rep, left]
  go_wp2_with fail
  refine (made_any _ _ _ _ _ (.node lk lv ll ml) (.node k v mr r) (hp1.ext hE2) hp2 (by simp only [T.sz]; omega)).mono ?_
  rintro e w3 ⟨p3, rfl, hp3, hE3⟩
  go_wp2_with fail
  refine ⟨fun _ => hE3, ?_⟩
  apply segs_cons
  · intro W hW
    simp only [runsT, runsF, rep, pick]
    go_wp2_with fail
    exact ⟨rfl, rfl⟩
  simp only [runsT, runsF, rep, left]
  go_wp2_with fail
  go_ret
  exact ⟨_, rfl, hp3, hA.trans ((((Ext.drew _).trans hE1).trans hE2).trans hE3)⟩
set_option maxRecDepth 100000 in
theorem leftUp_flat (w : World) (k : Int) (v : Int × Int) (b : Nat) (pr pll plr : Option Addr) (ll lr r : T Int (Int × Int)) (lk : Int) (lv : Int × Int) (ln ld : Int)
    (hb : NodeAt w b lk lv pll plr ln ld) (h1 : isT w pll ll) (h3 : isT w plr lr) (h4 : isT w pr r) (hd : ¬ ll.dp < lr.dp) (hs : ll.sz + lr.sz + r.sz < 900000000) :
    Calls Tryz.prog 150 #[.int .u64 k, .agg #[.int .i64 v.1, .int .i64 v.2], .pointer (some ⟨b, 0, none⟩), .pointer pr] w fun e w' => ∃ p, e = .returned (.pointer p) ∧ isT w' p (.node lk lv ll (.node k v lr r)) ∧ Ext w w' := by
  have g1 := ll.sz_nn
  have g2 := lr.sz_nn
  have g3 := r.sz_nn
  have g4 := r.sz_nn
  have hD : decide (ll.dp < lr.dp) = false := decide_eq_false hd
  have hA : Ext w (w.alloc (Obj.cells #[.int .i64 v.1, .int .i64 v.2] 111)) := (Below.refl _ _).alloc (Nat.le_refl _) _
  have HP := Lib.hid (show Blk (w.alloc (Obj.cells #[.int .i64 v.1, .int .i64 v.2] 111)) w.heap.size #[.int .i64 v.1, .int .i64 v.2] 111 from Blk.new _ _ _)
  have c0 := (hb.ext hA).c0
  have c1 := (hb.ext hA).c1
  have c2 := (hb.ext hA).c2
  have c3 := (hb.ext hA).c3
  have c4 := (hb.ext hA).c4
  have c5 := (hb.ext hA).c5
  have c6 := (hb.ext hA).c6
  have HB := Lib.hid (hb.ext hA)
  have H1 := Lib.hid (h1.ext hA)
  have H3 := Lib.hid (h3.ext hA)
  have H4 := Lib.hid (h4.ext hA)
  clear h1 h3 h4 hb hd
  go_enter Tryz.func150, Tryz.ntmps150
  go_wp2_with fail
  refine (deep_any _ _ _ H1.out).mono ?_; rintro e w' ⟨rfl, rfl⟩
  go_wp2_with fail
  refine (deep_any _ _ _ H3.out).mono ?_; rintro e w' ⟨rfl, rfl⟩
  go_wp2_with fail
  clear c0 c1 c2 c3 c4 c5 c6
  refine wp_region_segs 22 [([19, 3], false), ([0, 2], false), ([1], false)] (by kernel_rfl) (by kernel_rfl) ?_
  apply segs_cons
  · intro W hW
    have c0 := (HB.out.ext hW.of_drew).c0
    have c1 := (HB.out.ext hW.of_drew).c1
    have c2 := (HB.out.ext hW.of_drew).c2
    have c3 := (HB.out.ext hW.of_drew).c3
    have c4 := (HB.out.ext hW.of_drew).c4
    have c5 := (HB.out.ext hW.of_drew).c5
    have c6 := (HB.out.ext hW.of_drew).c6
    have p0 := (HP.out.ext hW.of_drew).cell (i := 0) rfl
    have p1 := (HP.out.ext hW.of_drew).cell (i := 1) rfl
    simp only [runsT, runsF, rep, pick]
    go_wp2_with fail
    exact ⟨rfl, rfl⟩
  simp only [runsT, runsF, rep, left]
  go_wp2_with fail
  refine (made_any _ _ _ _ _ _ _ (H3.out.ext (Ext.drew _)) (H4.out.ext (Ext.drew _)) (by omega)).mono ?_
  rintro e w1 ⟨p1, rfl, hp1, hE1⟩
  go_wp2_with fail
  refine ⟨fun _ => hE1, ?_⟩
  apply segs_cons
  · intro W hW
    exact ⟨rfl, rfl⟩
  simp only [runsT, runsF, rep, left]
  go_wp2_with fail
  refine (made_any _ _ _ _ _ ll (.node k v lr r) (H1.out.ext ((Ext.drew _).trans hE1)) hp1 (by simp only [T.sz]; omega)).mono ?_
  rintro e w2 ⟨p2, rfl, hp2, hE2⟩
  go_wp2_with fail
  refine ⟨fun _ => hE2, ?_⟩
  apply segs_cons
  · intro W hW
    simp only [runsT, runsF, rep, pick]
    go_wp2_with fail
    exact ⟨rfl, rfl⟩
  simp only [runsT, runsF, rep, left]
  go_wp2_with fail
  go_ret
  exact ⟨_, rfl, hp2, hA.trans (((Ext.drew _).trans hE1).trans hE2)⟩
theorem leftUp_any (w : World) (k : Int) (v : Int × Int) (pl pr : Option Addr) (l r : T Int (Int × Int)) (hl : isT w pl l) (hr : isT w pr r) (hd : 0 < l.dp) (hs : l.sz + r.sz < 900000000) :
    Calls Tryz.prog 150 #[.int .u64 k, .agg #[.int .i64 v.1, .int .i64 v.2], .pointer pl, .pointer pr] w fun e w' => ∃ p, e = .returned (.pointer p) ∧ isT w' p (T.leftUp k v l r) ∧ Ext w w' := by
  obtain ⟨lk, lv, ll, lr, rfl⟩ := T.dp_pos hd
  obtain ⟨b, pll, plr, rfl, hb, hll, hlr⟩ := isT_node hl
  simp only [T.sz] at hs
  by_cases h : ll.dp < lr.dp
  · obtain ⟨mk, mv, ml, mr, rfl⟩ := T.dp_pos (t := lr) (by have := ll.dp_nn; omega)
    obtain ⟨bm, pml, pmr, rfl, hm, hml, hmr⟩ := isT_node hlr
    have e : T.leftUp k v (.node lk lv ll (.node mk mv ml mr)) r = .node mk mv (.node lk lv ll ml) (.node k v mr r) := by simp only [T.leftUp]; rw [if_pos h]
    rw [e]
    simp only [T.sz] at hs
    exact leftUp_deep w k v b bm pr pll pml pmr ll ml mr r lk mk lv mv _ _ _ _ hb hm hlr hll hml hmr hr h (by omega)
  · have e : T.leftUp k v (.node lk lv ll lr) r = .node lk lv ll (.node k v lr r) := by simp only [T.leftUp]; rw [if_neg h]
    rw [e]
    exact leftUp_flat w k v b pr pll plr ll lr r lk lv _ _ hb hll hlr hr h (by omega)
set_option maxRecDepth 100000 in
theorem rightUp_deep (w : World) (k : Int) (v : Int × Int) (b bm : Nat) (pl prr pml pmr : Option Addr) (l ml mr rr : T Int (Int × Int)) (rk mk : Int) (rv mv : Int × Int) (rn rd mn md : Int)
    (hb : NodeAt w b rk rv (some ⟨bm, 0, none⟩) prr rn rd) (hm : NodeAt w bm mk mv pml pmr mn md) (hM : isT w (some ⟨bm, 0, none⟩) (.node mk mv ml mr))
    (h1 : isT w pl l) (h2 : isT w pml ml) (h3 : isT w pmr mr) (h4 : isT w prr rr) (hd : rr.dp < (T.node mk mv ml mr).dp) (hs : l.sz + ml.sz + mr.sz + rr.sz < 900000000) :
    Calls Tryz.prog 151 #[.int .u64 k, .agg #[.int .i64 v.1, .int .i64 v.2], .pointer pl, .pointer (some ⟨b, 0, none⟩)] w fun e w' => ∃ p, e = .returned (.pointer p) ∧ isT w' p (.node mk mv (.node k v l ml) (.node rk rv mr rr)) ∧ Ext w w' := by
  have g1 := l.sz_nn
  have g2 := ml.sz_nn
  have g3 := mr.sz_nn
  have g4 := rr.sz_nn
  have hD : decide (rr.dp < (T.node mk mv ml mr).dp) = true := decide_eq_true hd
  have hA : Ext w (w.alloc (Obj.cells #[.int .i64 v.1, .int .i64 v.2] 111)) := (Below.refl _ _).alloc (Nat.le_refl _) _
  have HP := Lib.hid (show Blk (w.alloc (Obj.cells #[.int .i64 v.1, .int .i64 v.2] 111)) w.heap.size #[.int .i64 v.1, .int .i64 v.2] 111 from Blk.new _ _ _)
  have c0 := (hb.ext hA).c0
  have c1 := (hb.ext hA).c1
  have c2 := (hb.ext hA).c2
  have c3 := (hb.ext hA).c3
  have c4 := (hb.ext hA).c4
  have c5 := (hb.ext hA).c5
  have c6 := (hb.ext hA).c6
  have HB := Lib.hid (hb.ext hA)
  have HN := Lib.hid (hm.ext hA)
  have H1 := Lib.hid (h1.ext hA)
  have H2 := Lib.hid (h2.ext hA)
  have H3 := Lib.hid (h3.ext hA)
  have H4 := Lib.hid (h4.ext hA)
  have HM := Lib.hid (hM.ext hA)
  clear h1 h2 h3 h4 hm hb hM hd
  go_enter Tryz.func151, Tryz.ntmps151
  go_wp2_with fail
  refine (deep_any _ _ _ H4.out).mono ?_; rintro e w' ⟨rfl, rfl⟩
  go_wp2_with fail
  refine (deep_any _ _ _ HM.out).mono ?_; rintro e w' ⟨rfl, rfl⟩
  go_wp2_with fail
  clear c0 c1 c2 c3 c4 c5 c6
  refine wp_region_segs 35 [([15, 1, 16, 3], false), ([0, 3], false), ([0, 2], false), ([1], false)] (by kernel_rfl) (by kernel_rfl) ?_
  apply segs_cons
  · intro W hW
    have c0 := (HB.out.ext hW.of_drew).c0
    have c1 := (HB.out.ext hW.of_drew).c1
    have c2 := (HB.out.ext hW.of_drew).c2
    have c3 := (HB.out.ext hW.of_drew).c3
    have c4 := (HB.out.ext hW.of_drew).c4
    have c5 := (HB.out.ext hW.of_drew).c5
    have c6 := (HB.out.ext hW.of_drew).c6
    have m0 := (HN.out.ext hW.of_drew).c0
    have m1 := (HN.out.ext hW.of_drew).c1
    have m2 := (HN.out.ext hW.of_drew).c2
    have m3 := (HN.out.ext hW.of_drew).c3
    have m4 := (HN.out.ext hW.of_drew).c4
    have m5 := (HN.out.ext hW.of_drew).c5
    have m6 := (HN.out.ext hW.of_drew).c6
    have p0 := (HP.out.ext hW.of_drew).cell (i := 0) rfl
    have p1 := (HP.out.ext hW.of_drew).cell (i := 1) rfl
    simp only [runsT, runsF, rep, pick]
    go_wp2_with fail
    exact ⟨rfl, rfl⟩
  simp only [runsT, runsF, rep, left]
  go_wp2_with fail
  refine (made_any _ _ _ _ _ _ _ (H1.out.ext (Ext.drew _)) (H2.out.ext (Ext.drew _)) (by omega)).mono ?_
  rintro e w1 ⟨p1, rfl, hp1, hE1⟩
  go_wp2_with fail
  refine ⟨fun _ => hE1, ?_⟩
  apply segs_cons
  · intro W hW
    exact ⟨rfl, rfl⟩
  simp only [runsT, runsF, rep, left]
  go_wp2_with fail
  refine (made_any _ _ _ _ _ _ _ (H3.out.ext ((Ext.drew _).trans hE1)) (H4.out.ext ((Ext.drew _).trans hE1)) (by omega)).mono ?_
  rintro e w2 ⟨p2, rfl, hp2, hE2⟩
  go_wp2_with fail
  refine ⟨fun _ => hE2, ?_⟩
  apply segs_cons
  · intro W hW
    exact ⟨rfl, rfl⟩
  simp only [runsT, runsF, rep, left]
  go_wp2_with fail
  refine (made_any _ _ _ _ _ (.node k v l ml) (.node rk rv mr rr) (hp1.ext hE2) hp2 (by simp only [T.sz]; omega)).mono ?_
  rintro e w3 ⟨p3, rfl, hp3, hE3⟩
  go_wp2_with fail
  refine ⟨fun _ => hE3, ?_⟩
  apply segs_cons
  · intro W hW
    simp only [runsT, runsF, rep, pick]
    go_wp2_with fail
    exact ⟨rfl, rfl⟩
  simp only [runsT, runsF, rep, left]
  go_wp2_with fail
  go_ret
  exact ⟨_, rfl, hp3, hA.trans ((((Ext.drew _).trans hE1).trans hE2).trans hE3)⟩
set_option maxRecDepth 100000 in
theorem rightUp_flat (w : World) (k : Int) (v : Int × Int) (b : Nat) (pl prl prr : Option Addr) (l rl rr : T Int (Int × Int)) (rk : Int) (rv : Int × Int) (rn rd : Int)
    (hb : NodeAt w b rk rv prl prr rn rd) (h1 : isT w pl l) (h3 : isT w prl rl) (h4 : isT w prr rr) (hd : ¬ rr.dp < rl.dp) (hs : l.sz + rl.sz + rr.sz < 900000000) :
    Calls Tryz.prog 151 #[.int .u64 k, .agg #[.int .i64 v.1, .int .i64 v.2], .pointer pl, .pointer (some ⟨b, 0, none⟩)] w fun e w' => ∃ p, e = .returned (.pointer p) ∧ isT w' p (.node rk rv (.node k v l rl) rr) ∧ Ext w w' := by
  have g1 := l.sz_nn
  have g2 := rl.sz_nn
  have g3 := rr.sz_nn
  have g4 := rr.sz_nn
  have hD : decide (rr.dp < rl.dp) = false := decide_eq_false hd
  have hA : Ext w (w.alloc (Obj.cells #[.int .i64 v.1, .int .i64 v.2] 111)) := (Below.refl _ _).alloc (Nat.le_refl _) _
  have HP := Lib.hid (show Blk (w.alloc (Obj.cells #[.int .i64 v.1, .int .i64 v.2] 111)) w.heap.size #[.int .i64 v.1, .int .i64 v.2] 111 from Blk.new _ _ _)
  have c0 := (hb.ext hA).c0
  have c1 := (hb.ext hA).c1
  have c2 := (hb.ext hA).c2
  have c3 := (hb.ext hA).c3
  have c4 := (hb.ext hA).c4
  have c5 := (hb.ext hA).c5
  have c6 := (hb.ext hA).c6
  have HB := Lib.hid (hb.ext hA)
  have H1 := Lib.hid (h1.ext hA)
  have H3 := Lib.hid (h3.ext hA)
  have H4 := Lib.hid (h4.ext hA)
  clear h1 h3 h4 hb hd
  go_enter Tryz.func151, Tryz.ntmps151
  go_wp2_with fail
  refine (deep_any _ _ _ H4.out).mono ?_; rintro e w' ⟨rfl, rfl⟩
  go_wp2_with fail
  refine (deep_any _ _ _ H3.out).mono ?_; rintro e w' ⟨rfl, rfl⟩
  go_wp2_with fail
  clear c0 c1 c2 c3 c4 c5 c6
  refine wp_region_segs 22 [([15, 1, 4, 2], false), ([0, 2], false), ([1], false)] (by kernel_rfl) (by kernel_rfl) ?_
  apply segs_cons
  · intro W hW
    have c0 := (HB.out.ext hW.of_drew).c0
    have c1 := (HB.out.ext hW.of_drew).c1
    have c2 := (HB.out.ext hW.of_drew).c2
    have c3 := (HB.out.ext hW.of_drew).c3
    have c4 := (HB.out.ext hW.of_drew).c4
    have c5 := (HB.out.ext hW.of_drew).c5
    have c6 := (HB.out.ext hW.of_drew).c6
    have p0 := (HP.out.ext hW.of_drew).cell (i := 0) rfl
    have p1 := (HP.out.ext hW.of_drew).cell (i := 1) rfl
    simp only [runsT, runsF, rep, pick]
    go_wp2_with fail
    exact ⟨rfl, rfl⟩
  simp only [runsT, runsF, rep, left]
  go_wp2_with fail
  refine (made_any _ _ _ _ _ _ _ (H1.out.ext (Ext.drew _)) (H3.out.ext (Ext.drew _)) (by omega)).mono ?_
  rintro e w1 ⟨p1, rfl, hp1, hE1⟩
  go_wp2_with fail
  refine ⟨fun _ => hE1, ?_⟩
  apply segs_cons
  · intro W hW
    exact ⟨rfl, rfl⟩
  simp only [runsT, runsF, rep, left]
  go_wp2_with fail
  refine (made_any _ _ _ _ _ (.node k v l rl) rr hp1 (H4.out.ext ((Ext.drew _).trans hE1)) (by simp only [T.sz]; omega)).mono ?_
  rintro e w2 ⟨p2, rfl, hp2, hE2⟩
  go_wp2_with fail
  refine ⟨fun _ => hE2, ?_⟩
  apply segs_cons
  · intro W hW
    simp only [runsT, runsF, rep, pick]
    go_wp2_with fail
    exact ⟨rfl, rfl⟩
  simp only [runsT, runsF, rep, left]
  go_wp2_with fail
  go_ret
  exact ⟨_, rfl, hp2, hA.trans (((Ext.drew _).trans hE1).trans hE2)⟩
theorem rightUp_any (w : World) (k : Int) (v : Int × Int) (pl pr : Option Addr) (l r : T Int (Int × Int)) (hl : isT w pl l) (hr : isT w pr r) (hd : 0 < r.dp) (hs : l.sz + r.sz < 900000000) :
    Calls Tryz.prog 151 #[.int .u64 k, .agg #[.int .i64 v.1, .int .i64 v.2], .pointer pl, .pointer pr] w fun e w' => ∃ p, e = .returned (.pointer p) ∧ isT w' p (T.rightUp k v l r) ∧ Ext w w' := by
  obtain ⟨rk, rv, rl, rr, rfl⟩ := T.dp_pos hd
  obtain ⟨b, prl, prr, rfl, hb, hrl, hrr⟩ := isT_node hr
  simp only [T.sz] at hs
  by_cases h : rr.dp < rl.dp
  · obtain ⟨mk, mv, ml, mr, rfl⟩ := T.dp_pos (t := rl) (by have := rr.dp_nn; omega)
    obtain ⟨bm, pml, pmr, rfl, hm, hml, hmr⟩ := isT_node hrl
    have e : T.rightUp k v l (.node rk rv (.node mk mv ml mr) rr) = .node mk mv (.node k v l ml) (.node rk rv mr rr) := by simp only [T.rightUp]; rw [if_pos h]
    rw [e]
    simp only [T.sz] at hs
    exact rightUp_deep w k v b bm pl prr pml pmr l ml mr rr rk mk rv mv _ _ _ _ hb hm hrl hl hml hmr hrr h (by omega)
  · have e : T.rightUp k v l (.node rk rv rl rr) = .node rk rv (.node k v l rl) rr := by simp only [T.rightUp]; rw [if_neg h]
    rw [e]
    exact rightUp_flat w k v b pl prl prr l rl rr rk rv _ _ hb hl hrl hrr h (by omega)
theorem joined_any (w : World) (k : Int) (v : Int × Int) (pl pr : Option Addr) (l r : T Int (Int × Int)) (hl : isT w pl l) (hr : isT w pr r) (hs : l.sz + r.sz < 900000000) :
    Calls Tryz.prog 127 #[.int .u64 k, .agg #[.int .i64 v.1, .int .i64 v.2], .pointer pl, .pointer pr] w fun e w' => ∃ p, e = .returned (.pointer p) ∧ isT w' p (T.joined k v l r) ∧ Ext w w' := by
  have h3 := l.dp_nn
  have h4 := r.dp_nn
  have h5 := l.dp_le_sz
  have h6 := r.dp_le_sz
  have h7 := l.sz_nn
  have h8 := r.sz_nn
  have hA : Ext w (w.alloc (Obj.cells #[.int .i64 v.1, .int .i64 v.2] 111)) := (Below.refl _ _).alloc (Nat.le_refl _) _
  have HP := Lib.hid (show Blk (w.alloc (Obj.cells #[.int .i64 v.1, .int .i64 v.2] 111)) w.heap.size #[.int .i64 v.1, .int .i64 v.2] 111 from Blk.new _ _ _)
  have p0 := HP.out.cell (i := 0) rfl
  have p1 := HP.out.cell (i := 1) rfl
  have H1 := Lib.hid (hl.ext hA)
  have H2 := Lib.hid (hr.ext hA)
  clear hl hr
  by_cases c1 : l.dp - r.dp > 1
  · have e : T.joined k v l r = T.leftUp k v l r := by unfold T.joined; rw [if_pos c1]
    rw [e]
    have hd : decide (1 < l.dp - r.dp) = true := decide_eq_true c1
    clear e
    go_enter Tryz.func127, Tryz.ntmps127
    go_wp2_with fail
    refine (deep_any _ _ _ H1.out).mono ?_; rintro e w' ⟨rfl, rfl⟩
    go_wp2_with fail
    refine (deep_any _ _ _ H2.out).mono ?_; rintro e w' ⟨rfl, rfl⟩
    go_wp2_with fail
    refine (leftUp_any _ _ _ _ _ _ _ H1.out H2.out (by omega) hs).mono ?_
    rintro e w1 ⟨p1, rfl, hp1, hE1⟩
    go_wp2_with fail
    go_ret
    exact ⟨_, rfl, hp1, hA.trans hE1⟩
  · by_cases c2 : l.dp - r.dp < -1
    · have e : T.joined k v l r = T.rightUp k v l r := by unfold T.joined; rw [if_neg c1, if_pos c2]
      rw [e]
      have hd : decide (1 < l.dp - r.dp) = false := decide_eq_false c1
      have hd2 : decide (l.dp - r.dp < -1) = true := decide_eq_true c2
      clear e
      go_enter Tryz.func127, Tryz.ntmps127
      go_wp2_with fail
      refine (deep_any _ _ _ H1.out).mono ?_; rintro e w' ⟨rfl, rfl⟩
      go_wp2_with fail
      refine (deep_any _ _ _ H2.out).mono ?_; rintro e w' ⟨rfl, rfl⟩
      go_wp2_with fail
      refine (rightUp_any _ _ _ _ _ _ _ H1.out H2.out (by omega) hs).mono ?_
      rintro e w1 ⟨p1, rfl, hp1, hE1⟩
      go_wp2_with fail
      go_ret
      exact ⟨_, rfl, hp1, hA.trans hE1⟩
    · have e : T.joined k v l r = .node k v l r := by unfold T.joined; rw [if_neg c1, if_neg c2]
      rw [e]
      have hd : decide (1 < l.dp - r.dp) = false := decide_eq_false c1
      have hd2 : decide (l.dp - r.dp < -1) = false := decide_eq_false c2
      clear e
      go_enter Tryz.func127, Tryz.ntmps127
      go_wp2_with fail
      refine (deep_any _ _ _ H1.out).mono ?_; rintro e w' ⟨rfl, rfl⟩
      go_wp2_with fail
      refine (deep_any _ _ _ H2.out).mono ?_; rintro e w' ⟨rfl, rfl⟩
      go_wp2_with fail
      refine (made_any _ _ _ _ _ _ _ H1.out H2.out (by omega)).mono ?_
      rintro e w1 ⟨p1, rfl, hp1, hE1⟩
      go_wp2_with fail
      go_ret
      exact ⟨_, rfl, hp1, hA.trans hE1⟩
/-- The tree's own block. -/
def TreeAt (w : World) (b : Nat) (root : Option Addr) : Prop := Blk w b #[.func (.func 94) #[] #[], .pointer root] 142
theorem TreeAt.ext {w w' : World} {b : Nat} {root : Option Addr} (h : TreeAt w b root) (e : Ext w w') : TreeAt w' b root := Blk.ext h e
theorem TreeAt.c0 {w : World} {b : Nat} {root : Option Addr} (h : TreeAt w b root) : w.cell? ⟨b, 0, none⟩ = some (.func (.func 94) #[] #[]) := Blk.cell h rfl
theorem TreeAt.c1 {w : World} {b : Nat} {root : Option Addr} (h : TreeAt w b root) : w.cell? ⟨b, 1, none⟩ = some (.pointer root) := Blk.cell h rfl
/-- A tree of these keys and things. -/
def isTree (w : World) (p : Option Addr) (t : T Int (Int × Int)) : Prop := ∃ b root, p = some ⟨b, 0, none⟩ ∧ TreeAt w b root ∧ isT w root t
theorem isTree.ext {w w' : World} (e : Ext w w') {t : T Int (Int × Int)} {p : Option Addr} : isTree w p t → isTree w' p t := fun ⟨b, root, hp, hb, ht⟩ => ⟨b, root, hp, hb.ext e, ht.ext e⟩
theorem isT.chg {S : Nat → Prop} {w w' : World} (hc : Chg S w w') (hn : Off S w 181) : ∀ {t : T Int (Int × Int)} {p : Option Addr}, isT w p t → isT w' p t
  | .nil, _, hp => hp
  | .node _ _ _ _, _, ⟨b, pl, pr, hp, hb, hl, hr⟩ => ⟨b, pl, pr, hp, Blk.chg hb hc hn, hl.chg hc hn, hr.chg hc hn⟩
theorem isTree.chg {S : Nat → Prop} {w w' : World} (hc : Chg S w w') (hn : Off S w 181) (hn' : Off S w 142) {t : T Int (Int × Int)} {p : Option Addr} : isTree w p t → isTree w' p t := fun ⟨b, root, hp, hb, ht⟩ => ⟨b, root, hp, Blk.chg hb hc hn', ht.chg hc hn⟩
theorem nan_any (a : Int) (w : World) : Calls Tryz.prog 125 #[.int .u64 a] w fun e w' => e = .returned (.bool false) ∧ w = w' := by
  go_enter Tryz.func125, Tryz.ntmps125
  go_wp2
  go_ret
  exact ⟨rfl, rfl⟩
theorem cmp_any (a b : Int) (w : World) : Calls Tryz.prog 94 #[.int .u64 a, .int .u64 b] w fun e w' => e = .returned (.int .i64 (cint a b)) ∧ w = w' := by
  go_enter Tryz.func94, Tryz.ntmps94
  go_wp2_with (go_at_call 125; refine (nan_any _ _).mono ?_; rintro e w' ⟨rfl, rfl⟩)
  all_goals
    go_ret
    refine ⟨?_, rfl⟩
    unfold cint
    first
      | (rw [if_pos (by omega)]; rfl)
      | (rw [if_neg (by omega), if_pos (by omega)]; rfl)
      | (rw [if_neg (by omega), if_neg (by omega)]; rfl)
set_option maxRecDepth 100000 in
theorem put_any (k : Int) (v : Int × Int) : ∀ (t : T Int (Int × Int)) (p : Option Addr) (w : World) (tb : Nat) (root : Option Addr), isT w p t → TreeAt w tb root → t.sz < 800000000 →
    Calls Tryz.prog 96 #[.pointer (some ⟨tb, 0, none⟩), .pointer p, .int .u64 k, .agg #[.int .i64 v.1, .int .i64 v.2]] w fun e w' => ∃ q, e = .returned (.pointer q) ∧ isT w' q (T.put cint k v t) ∧ Ext w w' := by
  intro t
  induction t with
  | nil =>
    intro p w tb root hp hT _
    obtain rfl := hp
    clear hT
    have hA : Ext w (w.alloc (Obj.cells #[.int .i64 v.1, .int .i64 v.2] 111)) := (Below.refl _ _).alloc (Nat.le_refl _) _
    have HP := Lib.hid (show Blk (w.alloc (Obj.cells #[.int .i64 v.1, .int .i64 v.2] 111)) w.heap.size #[.int .i64 v.1, .int .i64 v.2] 111 from Blk.new _ _ _)
    have p0 := HP.out.cell (i := 0) rfl
    have p1 := HP.out.cell (i := 1) rfl
    go_enter Tryz.func96, Tryz.ntmps96
    go_wp2_with fail
    refine (made_any _ _ _ _ _ .nil .nil rfl rfl (by simp [T.sz])).mono ?_
    rintro e w1 ⟨p1, rfl, hp1, hE1⟩
    go_wp2_with fail
    go_ret
    exact ⟨_, rfl, hp1, hA.trans hE1⟩
  | node xk xv l r ihl ihr =>
    intro p w tb root hp hT hs
    obtain ⟨b, pl, pr, rfl, hb, hl, hr⟩ := isT_node hp
    simp only [T.sz] at hs
    have g1 := l.sz_nn
    have g2 := r.sz_nn
    have hA : Ext w (w.alloc (Obj.cells #[.int .i64 v.1, .int .i64 v.2] 111)) := (Below.refl _ _).alloc (Nat.le_refl _) _
    have HP := Lib.hid (show Blk (w.alloc (Obj.cells #[.int .i64 v.1, .int .i64 v.2] 111)) w.heap.size #[.int .i64 v.1, .int .i64 v.2] 111 from Blk.new _ _ _)
    have p0 := HP.out.cell (i := 0) rfl
    have p1 := HP.out.cell (i := 1) rfl
    have HB := Lib.hid (hb.ext hA)
    have HT := Lib.hid (hT.ext hA)
    have H1 := Lib.hid (hl.ext hA)
    have H2 := Lib.hid (hr.ext hA)
    have IHL0 := Lib.hid ihl
    have IHR0 := Lib.hid ihr
    clear hb hT hl hr hp ihl ihr
    by_cases q1 : cint k xk < 0
    · have e : T.put cint k v (.node xk xv l r) = T.joined xk xv (T.put cint k v l) r := by simp only [T.put]; rw [if_pos q1]
      rw [e]
      have hd : decide (cint k xk < 0) = true := decide_eq_true q1
      clear e
      go_enter Tryz.func96, Tryz.ntmps96
      go_wp2_with fail
      refine wp_region_segs 11 [([9, 2], false), ([1], false)] (by kernel_rfl) (by kernel_rfl) ?_
      apply segs_cons
      · intro W hW
        have c0 := (HB.out.ext hW.of_drew).c0
        have c1 := (HB.out.ext hW.of_drew).c1
        have c2 := (HB.out.ext hW.of_drew).c2
        have c3 := (HB.out.ext hW.of_drew).c3
        have c4 := (HB.out.ext hW.of_drew).c4
        have c5 := (HB.out.ext hW.of_drew).c5
        have c6 := (HB.out.ext hW.of_drew).c6
        have t0 := (HT.out.ext hW.of_drew).c0
        have t1 := (HT.out.ext hW.of_drew).c1
        have p0 := (HP.out.ext hW.of_drew).cell (i := 0) rfl
        have p1 := (HP.out.ext hW.of_drew).cell (i := 1) rfl
        simp only [runsT, runsF, rep, pick]
        go_wp2_with fail
        exact ⟨rfl, rfl⟩
      simp only [runsT, runsF, rep, left]
      go_wp2_with fail
      refine (cmp_any _ _ _).mono ?_
      rintro e w' ⟨rfl, rfl⟩
      go_wp2_with fail
      refine ⟨fun _ => Ext.refl _, ?_⟩
      apply segs_cons
      · intro W hW
        simp only [runsT, runsF, rep, pick]
        go_wp2_with fail
        exact ⟨rfl, rfl⟩
      simp only [runsT, runsF, rep, left]
      go_wp2_with fail
      have IHL := IHL0.out
      refine wp_region_segs 22 [([15, 1, 4, 2], false), ([0, 2], false), ([1], false)] (by kernel_rfl) (by kernel_rfl) ?_
      apply segs_cons
      · intro W hW
        have c0 := (HB.out.ext ((Ext.drew _).trans hW.of_drew)).c0
        have c1 := (HB.out.ext ((Ext.drew _).trans hW.of_drew)).c1
        have c2 := (HB.out.ext ((Ext.drew _).trans hW.of_drew)).c2
        have c3 := (HB.out.ext ((Ext.drew _).trans hW.of_drew)).c3
        have c4 := (HB.out.ext ((Ext.drew _).trans hW.of_drew)).c4
        have c5 := (HB.out.ext ((Ext.drew _).trans hW.of_drew)).c5
        have c6 := (HB.out.ext ((Ext.drew _).trans hW.of_drew)).c6
        have p0 := (HP.out.ext ((Ext.drew _).trans hW.of_drew)).cell (i := 0) rfl
        have p1 := (HP.out.ext ((Ext.drew _).trans hW.of_drew)).cell (i := 1) rfl
        simp only [runsT, runsF, rep, pick]
        go_wp2_with fail
        exact ⟨rfl, rfl⟩
      simp only [runsT, runsF, rep, left]
      go_wp2_with fail
      refine (IHL pl _ tb root (H1.out.ext ((Ext.drew _).trans (Ext.drew _))) (HT.out.ext ((Ext.drew _).trans (Ext.drew _))) (by omega)).mono ?_
      rintro e w1 ⟨p1, rfl, hp1, hE1⟩
      go_wp2_with fail
      refine ⟨fun _ => hE1, ?_⟩
      apply segs_cons
      · intro W hW
        exact ⟨rfl, rfl⟩
      simp only [runsT, runsF, rep, left]
      go_wp2_with fail
      refine (joined_any _ _ _ _ _ _ _ hp1 (H2.out.ext (((Ext.drew _).trans (Ext.drew _)).trans hE1)) (by have := T.sz_put_le cint k v l; omega)).mono ?_
      rintro e w2 ⟨p2, rfl, hp2, hE2⟩
      go_wp2_with fail
      refine ⟨fun _ => hE2, ?_⟩
      apply segs_cons
      · intro W hW
        simp only [runsT, runsF, rep, pick]
        go_wp2_with fail
        exact ⟨rfl, rfl⟩
      simp only [runsT, runsF, rep, left]
      go_wp2_with fail
      go_ret
      exact ⟨_, rfl, hp2, hA.trans ((((Ext.drew _).trans (Ext.drew _)).trans hE1).trans hE2)⟩
    · by_cases q2 : cint k xk > 0
      · have e : T.put cint k v (.node xk xv l r) = T.joined xk xv l (T.put cint k v r) := by simp only [T.put]; rw [if_neg q1, if_pos q2]
        rw [e]
        have hd : decide (cint k xk < 0) = false := decide_eq_false q1
        have hd2 : decide (0 < cint k xk) = true := decide_eq_true q2
        clear e
        go_enter Tryz.func96, Tryz.ntmps96
        go_wp2_with fail
        refine wp_region_segs 11 [([9, 2], false), ([1], false)] (by kernel_rfl) (by kernel_rfl) ?_
        apply segs_cons
        · intro W hW
          have c0 := (HB.out.ext hW.of_drew).c0
          have c1 := (HB.out.ext hW.of_drew).c1
          have c2 := (HB.out.ext hW.of_drew).c2
          have c3 := (HB.out.ext hW.of_drew).c3
          have c4 := (HB.out.ext hW.of_drew).c4
          have c5 := (HB.out.ext hW.of_drew).c5
          have c6 := (HB.out.ext hW.of_drew).c6
          have t0 := (HT.out.ext hW.of_drew).c0
          have t1 := (HT.out.ext hW.of_drew).c1
          have p0 := (HP.out.ext hW.of_drew).cell (i := 0) rfl
          have p1 := (HP.out.ext hW.of_drew).cell (i := 1) rfl
          simp only [runsT, runsF, rep, pick]
          go_wp2_with fail
          exact ⟨rfl, rfl⟩
        simp only [runsT, runsF, rep, left]
        go_wp2_with fail
        refine (cmp_any _ _ _).mono ?_
        rintro e w' ⟨rfl, rfl⟩
        go_wp2_with fail
        refine ⟨fun _ => Ext.refl _, ?_⟩
        apply segs_cons
        · intro W hW
          simp only [runsT, runsF, rep, pick]
          go_wp2_with fail
          exact ⟨rfl, rfl⟩
        simp only [runsT, runsF, rep, left]
        go_wp2_with fail
        have IHR := IHR0.out
        refine wp_region_segs 22 [([19, 3], false), ([0, 2], false), ([1], false)] (by kernel_rfl) (by kernel_rfl) ?_
        apply segs_cons
        · intro W hW
          have c0 := (HB.out.ext ((Ext.drew _).trans hW.of_drew)).c0
          have c1 := (HB.out.ext ((Ext.drew _).trans hW.of_drew)).c1
          have c2 := (HB.out.ext ((Ext.drew _).trans hW.of_drew)).c2
          have c3 := (HB.out.ext ((Ext.drew _).trans hW.of_drew)).c3
          have c4 := (HB.out.ext ((Ext.drew _).trans hW.of_drew)).c4
          have c5 := (HB.out.ext ((Ext.drew _).trans hW.of_drew)).c5
          have c6 := (HB.out.ext ((Ext.drew _).trans hW.of_drew)).c6
          have p0 := (HP.out.ext ((Ext.drew _).trans hW.of_drew)).cell (i := 0) rfl
          have p1 := (HP.out.ext ((Ext.drew _).trans hW.of_drew)).cell (i := 1) rfl
          simp only [runsT, runsF, rep, pick]
          go_wp2_with fail
          exact ⟨rfl, rfl⟩
        simp only [runsT, runsF, rep, left]
        go_wp2_with fail
        refine (IHR pr _ tb root (H2.out.ext ((Ext.drew _).trans (Ext.drew _))) (HT.out.ext ((Ext.drew _).trans (Ext.drew _))) (by omega)).mono ?_
        rintro e w1 ⟨p1, rfl, hp1, hE1⟩
        go_wp2_with fail
        refine ⟨fun _ => hE1, ?_⟩
        apply segs_cons
        · intro W hW
          exact ⟨rfl, rfl⟩
        simp only [runsT, runsF, rep, left]
        go_wp2_with fail
        refine (joined_any _ _ _ _ _ _ _ (H1.out.ext (((Ext.drew _).trans (Ext.drew _)).trans hE1)) hp1 (by have := T.sz_put_le cint k v r; omega)).mono ?_
        rintro e w2 ⟨p2, rfl, hp2, hE2⟩
        go_wp2_with fail
        refine ⟨fun _ => hE2, ?_⟩
        apply segs_cons
        · intro W hW
          simp only [runsT, runsF, rep, pick]
          go_wp2_with fail
          exact ⟨rfl, rfl⟩
        simp only [runsT, runsF, rep, left]
        go_wp2_with fail
        go_ret
        exact ⟨_, rfl, hp2, hA.trans ((((Ext.drew _).trans (Ext.drew _)).trans hE1).trans hE2)⟩
      · have e : T.put cint k v (.node xk xv l r) = .node k v l r := by simp only [T.put]; rw [if_neg q1, if_neg q2]
        rw [e]
        have hd : decide (cint k xk < 0) = false := decide_eq_false q1
        have hd2 : decide (0 < cint k xk) = false := decide_eq_false q2
        clear e
        go_enter Tryz.func96, Tryz.ntmps96
        go_wp2_with fail
        refine wp_region_segs 11 [([9, 2], false), ([1], false)] (by kernel_rfl) (by kernel_rfl) ?_
        apply segs_cons
        · intro W hW
          have c0 := (HB.out.ext hW.of_drew).c0
          have c1 := (HB.out.ext hW.of_drew).c1
          have c2 := (HB.out.ext hW.of_drew).c2
          have c3 := (HB.out.ext hW.of_drew).c3
          have c4 := (HB.out.ext hW.of_drew).c4
          have c5 := (HB.out.ext hW.of_drew).c5
          have c6 := (HB.out.ext hW.of_drew).c6
          have t0 := (HT.out.ext hW.of_drew).c0
          have t1 := (HT.out.ext hW.of_drew).c1
          have p0 := (HP.out.ext hW.of_drew).cell (i := 0) rfl
          have p1 := (HP.out.ext hW.of_drew).cell (i := 1) rfl
          simp only [runsT, runsF, rep, pick]
          go_wp2_with fail
          exact ⟨rfl, rfl⟩
        simp only [runsT, runsF, rep, left]
        go_wp2_with fail
        refine (cmp_any _ _ _).mono ?_
        rintro e w' ⟨rfl, rfl⟩
        go_wp2_with fail
        refine ⟨fun _ => Ext.refl _, ?_⟩
        apply segs_cons
        · intro W hW
          simp only [runsT, runsF, rep, pick]
          go_wp2_with fail
          exact ⟨rfl, rfl⟩
        simp only [runsT, runsF, rep, left]
        go_wp2_with fail
        refine wp_region_segs 12 [([10, 2], false), ([1], false)] (by kernel_rfl) (by kernel_rfl) ?_
        apply segs_cons
        · intro W hW
          have c0 := (HB.out.ext ((Ext.drew _).trans hW.of_drew)).c0
          have c1 := (HB.out.ext ((Ext.drew _).trans hW.of_drew)).c1
          have c2 := (HB.out.ext ((Ext.drew _).trans hW.of_drew)).c2
          have c3 := (HB.out.ext ((Ext.drew _).trans hW.of_drew)).c3
          have c4 := (HB.out.ext ((Ext.drew _).trans hW.of_drew)).c4
          have c5 := (HB.out.ext ((Ext.drew _).trans hW.of_drew)).c5
          have c6 := (HB.out.ext ((Ext.drew _).trans hW.of_drew)).c6
          have p0 := (HP.out.ext ((Ext.drew _).trans hW.of_drew)).cell (i := 0) rfl
          have p1 := (HP.out.ext ((Ext.drew _).trans hW.of_drew)).cell (i := 1) rfl
          simp only [runsT, runsF, rep, pick]
          go_wp2_with fail
          exact ⟨rfl, rfl⟩
        simp only [runsT, runsF, rep, left]
        go_wp2_with fail
        refine (made_any _ _ _ _ _ _ _ (H1.out.ext ((Ext.drew _).trans (Ext.drew _))) (H2.out.ext ((Ext.drew _).trans (Ext.drew _))) (by omega)).mono ?_
        rintro e w1 ⟨p1, rfl, hp1, hE1⟩
        go_wp2_with fail
        refine ⟨fun _ => hE1, ?_⟩
        apply segs_cons
        · intro W hW
          simp only [runsT, runsF, rep, pick]
          go_wp2_with fail
          exact ⟨rfl, rfl⟩
        simp only [runsT, runsF, rep, left]
        go_wp2_with fail
        go_ret
        exact ⟨_, rfl, hp1, hA.trans (((Ext.drew _).trans (Ext.drew _)).trans hE1)⟩
set_option maxRecDepth 100000 in
theorem Put_any (k : Int) (v : Int × Int) (t : T Int (Int × Int)) (p : Option Addr) (w : World) (h : isTree w p t) (hs : t.sz < 800000000) :
    Calls Tryz.prog 68 #[.pointer p, .int .u64 k, .agg #[.int .i64 v.1, .int .i64 v.2]] w fun e w' => ∃ q, e = .returned (.pointer q) ∧ isTree w' q (T.put cint k v t) ∧ Ext w w' := by
  obtain ⟨tb, root, rfl, hT, hR⟩ := h
  have hA : Ext w (w.alloc (Obj.cells #[.int .i64 v.1, .int .i64 v.2] 111)) := (Below.refl _ _).alloc (Nat.le_refl _) _
  have HP := Lib.hid (show Blk (w.alloc (Obj.cells #[.int .i64 v.1, .int .i64 v.2] 111)) w.heap.size #[.int .i64 v.1, .int .i64 v.2] 111 from Blk.new _ _ _)
  have HT := Lib.hid (hT.ext hA)
  have H1 := Lib.hid (hR.ext hA)
  clear hT hR
  go_enter Tryz.func68, Tryz.ntmps68
  go_wp2_with fail
  refine wp_region_segs 15 [([11, 4], false), ([1, 2], false), ([1], false)] (by kernel_rfl) (by kernel_rfl) ?_
  apply segs_cons
  · intro W hW
    have t0 := (HT.out.ext hW.of_drew).c0
    have t1 := (HT.out.ext hW.of_drew).c1
    have p0 := (HP.out.ext hW.of_drew).cell (i := 0) rfl
    have p1 := (HP.out.ext hW.of_drew).cell (i := 1) rfl
    simp only [runsT, runsF, rep, pick]
    go_wp2_with fail
    exact ⟨rfl, rfl⟩
  simp only [runsT, runsF, rep, left]
  go_wp2_with fail
  refine (put_any _ _ _ _ _ tb root (H1.out.ext (Ext.drew _)) (HT.out.ext (Ext.drew _)) hs).mono ?_
  rintro e w1 ⟨p1, rfl, hp1, hE1⟩
  go_wp2_with fail
  refine ⟨fun _ => hE1, ?_⟩
  apply segs_cons
  · intro W hW
    simp only [runsT, runsF, rep, pick]
    go_wp2_with fail
    exact ⟨rfl, rfl⟩
  simp only [runsT, runsF, rep, left]
  go_wp2_with fail
  refine ⟨fun _ => (Below.refl _ _).alloc (Nat.le_refl _) _, ?_⟩
  apply segs_cons
  · intro W hW
    simp only [runsT, runsF, rep, pick]
    go_wp2_with fail
    exact ⟨rfl, rfl⟩
  simp only [runsT, runsF, rep, left]
  go_wp2_with fail
  go_ret
  have hB : Ext w1 (w1.alloc (Obj.cells #[.func (.func 94) #[] #[], .pointer p1] 142)) := (Below.refl _ _).alloc (Nat.le_refl _) _
  exact ⟨_, rfl, ⟨_, p1, rfl, Blk.new _ _ _, hp1.ext hB⟩, hA.trans (((Ext.drew _).trans hE1).trans hB)⟩
/-- What a search tells. -/
def Found (w : World) (r : Option (T Int (Int × Int)) × Int) (e : Ending) (w' : World) : Prop :=
  ∃ q, e = .returned (.tuple #[.pointer q, .int .i64 r.2]) ∧ (match r.1 with | none => q = none | some s => isT w' q s ∧ ∃ k v l r, s = .node k v l r) ∧ Ext w w'
set_option maxRecDepth 100000 in
set_option maxHeartbeats 800000 in
theorem find_any (k : Int) (t : T Int (Int × Int)) (p : Option Addr) (w : World) (h : isTree w p t) (hs : t.sz < 1000000000) :
    Calls Tryz.prog 128 #[.pointer p, .int .u64 k] w (Found w (T.find cint k t)) := by
  obtain ⟨tb, root, rfl, hT, hR⟩ := h
  have HT0 := Lib.hid hT
  have H0 := Lib.hid hR
  have t1 := hT.c1
  have g0 := t.sz_nn
  clear hT hR
  go_enter Tryz.func128, Tryz.ntmps128
  go_wp2_with fail
  clear t1
  go_loopg [6, 7] t.sz.toNat (fun g ah x wr => ∃ (s : T Int (Int × Int)) (q : Option Addr) (acc : Int), x = .pointer q ∧ ah = .int .i64 acc ∧ isT wr q s ∧ Ext w wr ∧ (T.find cint k t).1 = (T.find cint k s).1 ∧ (T.find cint k t).2 = acc + (T.find cint k s).2 ∧ 0 ≤ acc ∧ acc + s.sz ≤ t.sz ∧ s.sz.toNat ≤ g)
  case atStart => exact ⟨t, root, 0, rfl, rfl, H0.out, Ext.refl _, rfl, by omega, by omega, by omega, Nat.le_refl _⟩
  case round =>
    obtain ⟨s, q, acc, rfl, rfl, hq, hE, e1, e2, hacc, hsum, hg⟩ := hrel
    have He1 := Lib.hid e1
    have He2 := Lib.hid e2
    have HE := Lib.hid hE
    have HT := Lib.hid (HT0.out.ext hE)
    clear e1 e2 hE
    cases s with
    | nil =>
      obtain rfl := hq
      simp only [T.sz] at hsum hg
      go_wp2_with fail
      go_ret2
      refine ⟨none, ?_, ?_, HE.out⟩
      · rw [He2.out]; simp [T.find]
      · rw [He1.out]; simp [T.find]
    | node xk xv l r =>
      obtain ⟨b, pl, pr, rfl, hb, hl, hr⟩ := isT_node hq
      simp only [T.sz] at hsum hg
      have g1 := l.sz_nn
      have g2 := r.sz_nn
      have HB := Lib.hid hb
      have H1 := Lib.hid hl
      have H2 := Lib.hid hr
      have HQ := Lib.hid hq
      clear hb hl hr hq
      by_cases q1 : cint k xk = 0
      · have e : T.find cint k (.node xk xv l r) = (some (.node xk xv l r), l.sz) := by simp only [T.find]; rw [if_pos q1]
        have He := Lib.hid e
        have hd : (cint k xk == 0) = true := beq_iff_eq.2 q1
        have Hq1 := Lib.hid q1
        clear e q1
        go_wp2_with fail
        have cL := HB.out.c3
        refine wp_region_segs 11 [([9, 2], false), ([1], false)] (by kernel_rfl) (by kernel_rfl) ?_
        apply segs_cons
        · intro W hW
          have c0 := (HB.out.ext hW.of_drew).c0
          have c1 := (HB.out.ext hW.of_drew).c1
          have c2 := (HB.out.ext hW.of_drew).c2
          have c3 := (HB.out.ext hW.of_drew).c3
          have c4 := (HB.out.ext hW.of_drew).c4
          have c5 := (HB.out.ext hW.of_drew).c5
          have c6 := (HB.out.ext hW.of_drew).c6
          have t0 := (HT.out.ext hW.of_drew).c0
          simp only [runsT, runsF, rep, pick]
          go_wp2_with fail
          exact ⟨rfl, rfl⟩
        simp only [runsT, runsF, rep, left]
        go_wp2_with fail
        refine (cmp_any _ _ _).mono ?_
        rintro e w' ⟨rfl, rfl⟩
        go_wp2_with fail
        refine ⟨fun _ => Ext.refl _, ?_⟩
        apply segs_cons
        · intro W hW
          simp only [runsT, runsF, rep, pick]
          go_wp2_with fail
          exact ⟨rfl, rfl⟩
        simp only [runsT, runsF, rep, left]
        go_wp2_with fail
        refine (size_any _ _ _ (H1.out.ext ((Ext.drew _)))).mono ?_
        rintro e w' ⟨rfl, rfl⟩
        go_wp2_with fail
        go_ret2
        refine ⟨some ⟨b, 0, none⟩, ?_, ?_, HE.out.trans (Ext.drew _)⟩
        · rw [He2.out, He.out]; rfl
        · rw [He1.out, He.out]; exact ⟨HQ.out.ext (Ext.drew _), _, _, _, _, rfl⟩
      · by_cases q2 : cint k xk < 0
        · have e : T.find cint k (.node xk xv l r) = T.find cint k l := by simp only [T.find]; rw [if_neg q1, if_pos q2]
          have He := Lib.hid e
          have hd : (cint k xk == 0) = false := beq_eq_false_iff_ne.2 q1
          have hd2 : decide (cint k xk < 0) = true := decide_eq_true q2
          clear e q1
          go_wp2_with fail
          have cL := HB.out.c3
          refine wp_region_segs 11 [([9, 2], false), ([1], false)] (by kernel_rfl) (by kernel_rfl) ?_
          apply segs_cons
          · intro W hW
            have c0 := (HB.out.ext hW.of_drew).c0
            have c1 := (HB.out.ext hW.of_drew).c1
            have c2 := (HB.out.ext hW.of_drew).c2
            have c3 := (HB.out.ext hW.of_drew).c3
            have c4 := (HB.out.ext hW.of_drew).c4
            have c5 := (HB.out.ext hW.of_drew).c5
            have c6 := (HB.out.ext hW.of_drew).c6
            have t0 := (HT.out.ext hW.of_drew).c0
            simp only [runsT, runsF, rep, pick]
            go_wp2_with fail
            exact ⟨rfl, rfl⟩
          simp only [runsT, runsF, rep, left]
          go_wp2_with fail
          refine (cmp_any _ _ _).mono ?_
          rintro e w' ⟨rfl, rfl⟩
          go_wp2_with fail
          refine ⟨fun _ => Ext.refl _, ?_⟩
          apply segs_cons
          · intro W hW
            simp only [runsT, runsF, rep, pick]
            go_wp2_with fail
            exact ⟨rfl, rfl⟩
          simp only [runsT, runsF, rep, left]
          go_wp2_with fail
          go_roundg l.sz.toNat
          case measure => omega
          case rel => exact ⟨l, pl, acc, rfl, rfl, H1.out.ext (Ext.drew _), HE.out.trans (Ext.drew _), by rw [He1.out, He.out], by rw [He2.out, He.out], hacc, by omega, Nat.le_refl _⟩
        · have e : T.find cint k (.node xk xv l r) = ((T.find cint k r).1, l.sz + 1 + (T.find cint k r).2) := by simp only [T.find]; rw [if_neg q1, if_neg q2]
          have He := Lib.hid e
          have hd : (cint k xk == 0) = false := beq_eq_false_iff_ne.2 q1
          have hd2 : decide (cint k xk < 0) = false := decide_eq_false q2
          clear e q1 q2
          go_wp2_with fail
          refine wp_region_segs 11 [([9, 2], false), ([1], false)] (by kernel_rfl) (by kernel_rfl) ?_
          apply segs_cons
          · intro W hW
            have c0 := (HB.out.ext hW.of_drew).c0
            have c1 := (HB.out.ext hW.of_drew).c1
            have c2 := (HB.out.ext hW.of_drew).c2
            have c3 := (HB.out.ext hW.of_drew).c3
            have c4 := (HB.out.ext hW.of_drew).c4
            have c5 := (HB.out.ext hW.of_drew).c5
            have c6 := (HB.out.ext hW.of_drew).c6
            have t0 := (HT.out.ext hW.of_drew).c0
            simp only [runsT, runsF, rep, pick]
            go_wp2_with fail
            exact ⟨rfl, rfl⟩
          simp only [runsT, runsF, rep, left]
          go_wp2_with fail
          refine (cmp_any _ _ _).mono ?_
          rintro e w' ⟨rfl, rfl⟩
          go_wp2_with fail
          refine ⟨fun _ => Ext.refl _, ?_⟩
          apply segs_cons
          · intro W hW
            simp only [runsT, runsF, rep, pick]
            go_wp2_with fail
            exact ⟨rfl, rfl⟩
          simp only [runsT, runsF, rep, left]
          go_wp2_with fail
          refine wp_region_segs 14 [([5, 3, 4, 2], false), ([4], false)] (by kernel_rfl) (by kernel_rfl) ?_
          apply segs_cons
          · intro W hW
            have c0 := (HB.out.ext ((Ext.drew _).trans hW.of_drew)).c0
            have c1 := (HB.out.ext ((Ext.drew _).trans hW.of_drew)).c1
            have c2 := (HB.out.ext ((Ext.drew _).trans hW.of_drew)).c2
            have c3 := (HB.out.ext ((Ext.drew _).trans hW.of_drew)).c3
            have c4 := (HB.out.ext ((Ext.drew _).trans hW.of_drew)).c4
            have c5 := (HB.out.ext ((Ext.drew _).trans hW.of_drew)).c5
            have c6 := (HB.out.ext ((Ext.drew _).trans hW.of_drew)).c6
            simp only [runsT, runsF, rep, pick]
            go_wp2_with fail
            exact ⟨rfl, rfl⟩
          simp only [runsT, runsF, rep, left]
          go_wp2_with fail
          refine (size_any _ _ _ (H1.out.ext ((Ext.drew _).trans (Ext.drew _)))).mono ?_
          rintro e w' ⟨rfl, rfl⟩
          go_wp2_with fail
          refine ⟨fun _ => Ext.refl _, ?_⟩
          apply segs_cons
          · intro W hW
            simp only [runsT, runsF, rep, pick]
            go_wp2_with fail
            exact ⟨rfl, rfl⟩
          simp only [runsT, runsF, rep, left]
          go_wp2_with fail
          go_roundg r.sz.toNat
          case measure => omega
          case rel => exact ⟨r, pr, acc + l.sz + 1, rfl, by go_num, H2.out.ext ((Ext.drew _).trans (Ext.drew _)), HE.out.trans ((Ext.drew _).trans (Ext.drew _)), by rw [He1.out, He.out], by rw [He2.out, He.out]; omega, by omega, by omega, Nat.le_refl _⟩
theorem New_any (w : World) : Calls Tryz.prog 95 #[.func (.func 94) #[] #[]] w fun e w' => ∃ q, e = .returned (.pointer q) ∧ isTree w' q (T.nil : T Int (Int × Int)) ∧ Ext w w' := by
  have he := fun (w : World) => run_eq_func_nil (P := Tryz.prog) Tryz.underlying138 (.func 94) #[] #[] w
  go_enter Tryz.func95, Tryz.ntmps95
  go_wp2_with fail
  go_ret
  have hA : Ext w (w.alloc (Obj.cells #[.func (.func 94) #[] #[], .pointer none] 142)) := (Below.refl _ _).alloc (Nat.le_refl _) _
  exact ⟨_, rfl, ⟨_, none, rfl, Blk.new _ _ _, rfl⟩, hA⟩
/-- What a look for a key tells: its thing, or the zero one. -/
def Got (w : World) (r : Option (Int × Int)) (e : Ending) (w' : World) : Prop :=
  (match r with | some v => e = .returned (.tuple #[.agg #[.int .i64 v.1, .int .i64 v.2], .bool true]) | none => e = .returned (.tuple #[.agg #[.int .i64 0, .int .i64 0], .bool false])) ∧ Ext w w'
theorem get_find (k : Int) : ∀ t : T Int (Int × Int), T.get cint k t = match (T.find cint k t).1 with | some (.node _ v _ _) => some v | _ => none
  | .nil => rfl
  | .node xk xv l r => by
    simp only [T.get, T.find]
    split
    · rfl
    · split
      · exact get_find k l
      · exact get_find k r
theorem Get_any (k : Int) (t : T Int (Int × Int)) (p : Option Addr) (w : World) (h : isTree w p t) (hs : t.sz < 1000000000) :
    Calls Tryz.prog 97 #[.pointer p, .int .u64 k] w (Got w (T.get cint k t)) := by
  have hA : Ext w (w.alloc (Obj.cells #[.int .i64 0, .int .i64 0] 111)) := (Below.refl _ _).alloc (Nat.le_refl _) _
  have HR := Lib.hid (show Blk (w.alloc (Obj.cells #[.int .i64 0, .int .i64 0] 111)) w.heap.size #[.int .i64 0, .int .i64 0] 111 from Blk.new _ _ _)
  have HP := Lib.hid (h.ext hA)
  clear h
  go_enter Tryz.func97, Tryz.ntmps97
  go_wp2_with fail
  refine (find_any k t p _ HP.out hs).mono ?_
  rintro e w1 ⟨q, rfl, hq, hE⟩
  have z0 := (HR.out.ext hE).cell (i := 0) rfl
  have y0 := (HR.out.ext hE).frozen 0
  have z1 := (HR.out.ext hE).cell (i := 1) rfl
  have y1 := (HR.out.ext hE).frozen 1
  have hg := get_find k t
  cases hf : (T.find cint k t).1 with
  | none =>
    rw [hf] at hq hg
    obtain rfl := hq
    have HG := Lib.hid hg
    clear hg hf
    go_wp2_with fail
    (try simp only [Exit.inBlock, Exit.then])
    refine bodyPost_ret (v := .tuple #[.agg #[.int .i64 0, .int .i64 0], .bool false]) ?_ rfl ?_
    · rw [results_cell_tmp rfl]
      go_simp
    unfold Got
    rw [HG.out]
    exact ⟨rfl, (((below_ext hA hE).setCell (p := ⟨w.heap.size, 0, none⟩) (Nat.le_refl _) _).setCell (p := ⟨w.heap.size, 1, none⟩) (Nat.le_refl _) _)⟩
  | some s =>
    rw [hf] at hq hg
    obtain ⟨hq, xk, xv, l, r, rfl⟩ := hq
    obtain ⟨b, pl, pr, rfl, hb, _, _⟩ := isT_node hq
    have HG := Lib.hid hg
    have c1 := hb.c1
    have c2 := hb.c2
    clear hg hf hq hb
    go_wp2_with fail
    (try simp only [Exit.inBlock, Exit.then])
    refine bodyPost_ret (v := .tuple #[.agg #[.int .i64 xv.1, .int .i64 xv.2], .bool true]) ?_ rfl ?_
    · rw [results_cell_tmp rfl]
      go_simp
    unfold Got
    rw [HG.out]
    exact ⟨rfl, (((below_ext hA hE).setCell (p := ⟨w.heap.size, 0, none⟩) (Nat.le_refl _) _).setCell (p := ⟨w.heap.size, 1, none⟩) (Nat.le_refl _) _)⟩
end Go.Proofs.YtdfbfcglacalmaaGreat.TrPe
end

section
namespace Go.Seg
open Go.RowKit
section
variable {P : Program} {ops : Array Oper} {Q : Exit → Act → World → Prop} {md : Region.Mode} {n : Nat} {kind : Program → Oper → Bool}

theorem wpAnyT_of_late {C : World → Prop} : ∀ (fuel : Nat) (listed : Array Bool) (a : Act) (w : World), (∀ j, j < n → listed.getD j true = true) → wpAny P md ops Q fuel listed a w → wpAnyT P md ops Q n C fuel listed a w
  | 0, _, _, _, _, h => h
  | fuel + 1, listed, _, _, hl, h => by
    refine ⟨h.1, fun i hi => wpOp_mono (fun a' w' h' => ⟨fun hn => ?_, wpAnyT_of_late fuel _ a' w' (fun j hj => ?_) h'⟩) (h.2 i hi)⟩
    · have h1 := (mem_ready.1 hi).1
      rw [hl i hn] at h1
      cases h1
    · by_cases hij : i = j
      · subst hij
        rcases Nat.lt_or_ge i listed.size with h2 | h2 <;> simp [h2]
      · rw [getD_set_ne true hij]; exact hl j hj
/-- Of a class of all worlds nothing is to be shown. -/
theorem wpAnyT_of_all : ∀ (fuel : Nat) (listed : Array Bool) (a : Act) (w : World), wpAny P md ops Q fuel listed a w → wpAnyT P md ops Q n (fun _ => True) fuel listed a w
  | 0, _, _, _, h => h
  | fuel + 1, _, _, _, h => ⟨h.1, fun i hi => wpOp_mono (fun a' w' h' => ⟨fun _ => trivial, wpAnyT_of_all fuel _ a' w' h'⟩) (h.2 i hi)⟩

def SegsK (P : Program) (ops : Array Oper) (Q : Exit → Act → World → Prop) : List (List Bool × Nat × Nat) → List Oper → Act → World → Prop
  | [], _, a, w => Q .normal a w
  | (m, 0, _) :: ms, l, a, w => ∃ aE, (∀ W, wpList P ops (QEnd aE W) (pick m l) a W) ∧ SegsK P ops Q ms (left m l) aE w
  | (_, 1, _) :: ms, l, a, w =>
      match l with
      | [] => False
      | o :: l' => wpList P ops (FEnd true w (SegsK P ops Q ms l')) [o] a w
  | (m, 2, _) :: ms, l, a, w => ∃ aE, wpList P ops (QEnd aE w) (pick m l) a w ∧ SegsK P ops Q ms (left m l) aE w
  | (m, _ + 3, _) :: ms, l, a, w => ∃ aE, (∀ W, Ext w W → wpList P ops (QEnd aE W) (pick m l) a W) ∧
      match left m l with
      | [] => False
      | o :: l' => wpList P ops (FEnd false w (SegsK P ops Q ms l')) [o] aE w

theorem getD_grow {listed : Array Bool} {i k : Nat} (h : listed.getD k true = true) : (listed.setIfInBounds i true).getD k true = true := by
  by_cases hik : i = k
  · subst hik
    rcases Nat.lt_or_ge i listed.size with h2 | h2 <;> simp [h2]
  · rw [getD_set_ne true hik]; exact h

/-- A looking operation of the first n that may come up now may be taken first. -/
theorem wpAnyTK_first {C : World → Prop} {i : Nat} {oi : Oper} {v : Value} (hi : ops[i]? = some oi) (hsel : ∀ (j : Nat) (o : Oper) cs b, ops[j]? = some o → o.op ≠ .select cs b)
    (hQ : ∀ c a w, Q (.panic c) (a.put oi.dst v) w → Q (.panic c) a w)
    {L0 : Nat → Prop} (htail : ∀ (j : Nat) (o : Oper), ops[j]? = some o → n ≤ j → L0 j ∨ anc md ops 12 j i = true) :
    ∀ (fuel : Nat) (listed : Array Bool) (a : Act) (w : World), (∀ j, L0 j → listed.getD j true = true) → Closed md ops listed →
      (∀ j oj, ops[j]? = some oj → j ≠ i → listed.getD j true = false → (∀ e ∈ oj.after, Region.binds md e = true → e.on ≠ i) → oi.apart ops oj = true) →
      i ∈ Region.ready md ops listed → YieldsIf P ops C oi v a → C w →
      wpAnyT P md ops Q n C fuel (listed.setIfInBounds i true) (a.put oi.dst v) w → wpAnyT P md ops Q n C (fuel + 1) listed a w := by
  intro fuel
  induction fuel with
  | zero =>
    intro listed a w _ _ _ hr hy hC H
    refine ⟨fun h => (by rw [h] at hr; cases hr), fun j hj => ?_⟩
    by_cases hji : j = i
    · subst hji; exact hy.wpOp hi hC ⟨fun _ => hC, H⟩
    · have := ready_mono hj hji
      rw [H.1] at this
      cases this
  | succ fuel ih =>
    intro listed a w hL0 hcl hfree hr hy hC H
    refine ⟨fun h => (by rw [h] at hr; cases hr), fun j hj => ?_⟩
    by_cases hji : j = i
    · subst hji; exact hy.wpOp hi hC ⟨fun _ => hC, H⟩
    · have h1 := H.2 j (ready_mono hj hji)
      obtain ⟨hjun, oj, hoj, hall⟩ := mem_ready.1 hj
      have hun : listed.getD i false ≠ true := fun h1 => by
        have h0 := (mem_ready.1 hr).1
        rcases Nat.lt_or_ge i listed.size with h' | h'
        · simp [h'] at h0 h1; rw [h0] at h1; cases h1
        · simp [Array.getElem?_eq_none h'] at h1
      have hjn : j < n := by
        rcases Nat.lt_or_ge j n with h | h
        · exact h
        · exact (htail j oj hoj h).elim (fun hl => by have := hL0 j hl; rw [hjun] at this; cases this) (fun ha => absurd (anc_listed hcl 12 j i oj hoj hall ha) hun)
      have hnot : ∀ e ∈ oj.after, Region.binds md e = true → e.on ≠ i := fun e he hb heq => hun (heq ▸ hall e he hb)
      have h2 := wpOp_putIf hoj (hfree j oj hoj hji hjun hnot) (fun cs b => hsel i oi cs b hi) (fun cs b => hsel j oj cs b hoj) hQ hy h1
      have hfree' : ∀ k ok, ops[k]? = some ok → k ≠ i → (listed.setIfInBounds j true).getD k true = false →
          (∀ e ∈ ok.after, Region.binds md e = true → e.on ≠ i) → oi.apart ops ok = true := fun k ok hk hki hun hno => by
        refine hfree k ok hk hki ?_ hno
        by_cases hjk : j = k
        · subst hjk; exact hjun
        · rw [getD_set_ne true hjk] at hun; exact hun
      refine wpOp_mono (fun a' w' h3 => ⟨h3.2.1, ih (listed.setIfInBounds j true) a' w' (fun k hk => getD_grow (hL0 k hk)) (hcl.set hj) hfree' (ready_mono hr (Ne.symm hji)) h3.1 (h3.2.1 hjn) ?_⟩) h2
      rw [Array.setIfInBounds_comm _ _ hji]
      exact h3.2.2

theorem wpAnyTK_quiets (hkind : ∀ o, kind P o = true → Quiet P o) (hs : Region.noSelect ops = true) (hQ : ∀ c a a' w, Q (.panic c) a w → Q (.panic c) a' w) {C : World → Prop} {aE : Act} {w : World} (hC : C w) {L0 : Nat → Prop} (get : Nat → Oper) :
    ∀ (q : List Nat) (listed : Array Bool) (a : Act) (fuel : Nat), (∀ j, L0 j → listed.getD j true = true) → Closed md ops listed → (∀ i ∈ q, ops[i]? = some (get i)) → (∀ i ∈ q, ∀ (j : Nat) (o : Oper), ops[j]? = some o → n ≤ j → L0 j ∨ anc md ops 12 j i = true) → okQuiet P kind md ops n q listed = true → dstsOk ops a.tmps.size = true →
      (∀ W, C W → wpList P ops (QEnd aE W) (q.map get) a W) → (aE.tmps.size = a.tmps.size → Closed md ops (mark listed q) → wpAnyT P md ops Q n C fuel (mark listed q) aE w) → wpAnyT P md ops Q n C (fuel + q.length) listed a w
  | [], listed, a, fuel, _, hcl, _, _, _, _, hw, hk => by
    obtain ⟨h1, _⟩ := hw w hC
    subst h1
    exact hk rfl hcl
  | i :: q, listed, a, fuel, hL0, hcl, hget, htail, hok, hd, hw, hk => by
    have hi := hget i (by simp)
    simp only [okQuiet, hi, Bool.and_eq_true, decide_eq_true_eq] at hok
    obtain ⟨⟨⟨⟨h1, h2⟩, h3⟩, h4, h5⟩, h6⟩ := hok
    cases hdst : (get i).dst with
    | none => rw [hdst] at h5; cases h5
    | some d =>
      rw [hdst] at h5
      have h5' : q.all (fun j => match ops[j]? with | some x => x.dst != some d | none => false) = true := h5
      rw [List.all_eq_true] at h5'
      have hquiet : ∀ (q : List Nat) (listed : Array Bool), (∀ i ∈ q, ops[i]? = some (get i)) → okQuiet P kind md ops n q listed = true → ∀ x ∈ q.map get, Quiet P x := by
        intro q
        induction q with
        | nil => intro _ _ _ x hx; cases hx
        | cons j q ih =>
          intro listed hg hok x hx
          simp only [okQuiet, hg j (by simp), Bool.and_eq_true] at hok
          rcases List.mem_cons.1 hx with rfl | hx
          · exact hkind _ hok.1.2.1
          · exact ih _ (fun k hk => hg k (by simp [hk])) hok.2 x hx
      have hgq : ∀ j ∈ q, ops[j]? = some (get j) := fun j hj => hget j (by simp [hj])
      obtain ⟨v, hy, hrest⟩ := quiet_head (C := C) (aE := aE) (l := q.map get) (a := a) (fun x hx => by
        rcases List.mem_cons.1 hx with rfl | hx
        · exact hkind _ h4
        · exact hquiet q _ hgq h6 x hx) hdst (dstsOk_spec hd hi hdst) (fun x hx => by
        obtain ⟨j, hj, rfl⟩ := List.mem_map.1 hx
        have := h5' j hj
        rw [hgq j hj] at this
        simpa using this) hw
      rw [List.length_cons, ← Nat.add_assoc]
      refine wpAnyTK_first hi (Region.noSelect_spec hs) (fun c a w h => hQ _ _ _ _ h) (fun j o ho hj => htail i (by simp) j o ho hj) _ listed a w hL0 hcl (Region.free_spec hi h2) (by simpa using h1) hy hC ?_
      exact wpAnyTK_quiets hkind hs hQ hC get q _ _ fuel (fun k hk => getD_grow (hL0 k hk)) (hcl.set (by simpa using h1)) hgq (fun k hk => htail k (by simp [hk])) h6 (by rw [Act.put_size]; exact hd) hrest (fun he => hk (by rw [he, Act.put_size]))


def okPlanK (P : Program) (kind : Program → Oper → Bool) (md : Region.Mode) (ops : Array Oper) : List (List Bool × Nat × Nat) → List Nat → Array Bool → Bool
  | [], l, listed => l.isEmpty && (Region.ready md ops listed).isEmpty
  | (m, 0, _) :: ms, l, listed => okQuiet P kind md ops ops.size (pick m l) listed && okPlanK P kind md ops ms (left m l) (mark listed (pick m l))
  | (_, 1, _) :: ms, l, listed =>
    match l with
    | [] => false
    | f :: l' => Region.ready md ops listed == [f] && okPlanK P kind md ops ms l' (listed.setIfInBounds f true)
  | (m, 2, n) :: ms, l, listed =>
    okQuiet P kind md ops n (pick m l) listed && (pick m l).all (fun i => (List.range ops.size).all (fun j => decide (j < n) || listed.getD j true || anc md ops 12 j i)) &&
    (List.range n).all (fun j => (mark listed (pick m l)).getD j true) && okPlanK P kind md ops ms (left m l) (mark listed (pick m l))
  | (m, _ + 3, n) :: ms, l, listed =>
    okQuiet P kind md ops n (pick m l) listed && (pick m l).all (fun i => (List.range ops.size).all (fun j => decide (j < n) || listed.getD j true || anc md ops 12 j i)) &&
    match left m l with
    | [] => false
    | f :: l' => Region.ready md ops (mark listed (pick m l)) == [f] && (List.range n).all (fun j => ((mark listed (pick m l)).setIfInBounds f true).getD j true) && okPlanK P kind md ops ms l' ((mark listed (pick m l)).setIfInBounds f true)

theorem wpAny_of_segsK (hkind : ∀ o, kind P o = true → Quiet P o) (hs : Region.noSelect ops = true) (hQ : ∀ e a a' w, e ≠ .normal → Q e a w → Q e a' w) (get : Nat → Oper) :
    ∀ (plan : List (List Bool × Nat × Nat)) (l : List Nat) (listed : Array Bool) (a : Act) (w : World), Closed md ops listed → (∀ i ∈ l, ops[i]? = some (get i)) → okPlanK P kind md ops plan l listed = true → dstsOk ops a.tmps.size = true →
      SegsK P ops Q plan (l.map get) a w → wpAny P md ops Q l.length listed a w
  | [], l, listed, a, w, _, _, hok, _, h => by
    simp only [okPlanK, Bool.and_eq_true, List.isEmpty_iff] at hok
    obtain ⟨rfl, hr⟩ := hok
    exact ⟨hr, h⟩
  | (m, 0, _) :: ms, l, listed, a, w, hcl, hget, hok, hd, h => by
    simp only [okPlanK, Bool.and_eq_true] at hok
    obtain ⟨hq, hrest⟩ := hok
    obtain ⟨aE, hw, hk⟩ := h
    rw [pick_map] at hw
    rw [left_map] at hk
    rw [← pick_left_length m l, Nat.add_comm]
    refine wpAny_of_T (n := ops.size) (C := fun _ => True) _ _ _ _ ?_
    refine wpAnyTK_quiets hkind hs (fun c a a' w h => hQ _ _ _ _ (by simp) h) (C := fun _ => True) (aE := aE) trivial (L0 := fun _ => False) get _ _ _ _ (fun _ h => h.elim) hcl (fun i hi => hget i (pick_mem _ _ _ hi))
      (fun i hi j o ho hj => absurd (Array.getElem?_eq_some_iff.1 ho).1 (by omega)) hq hd (fun W _ => hw W) fun hsz hcl2 => ?_
    exact wpAnyT_of_all _ _ _ _ (wpAny_of_segsK hkind hs hQ get ms (left m l) _ _ _ hcl2 (fun i hi => hget i (left_mem _ _ _ hi)) hrest (by rw [hsz]; exact hd) hk)
  | (m, 1, _) :: ms, l, listed, a, w, hcl, hget, hok, hd, h => by
    cases l with
    | nil => cases hok
    | cons f l' =>
      simp only [okPlanK, Bool.and_eq_true, beq_iff_eq] at hok
      obtain ⟨hr, hok'⟩ := hok
      have hk : wpList P ops (FEnd true w (SegsK P ops Q ms (l'.map get))) [get f] a w := h
      have hf := hget f (by simp)
      refine ⟨fun h0 => (by rw [hr] at h0; cases h0), fun i hi => ?_⟩
      rw [hr] at hi
      obtain rfl : i = f := by simpa using hi
      refine wpOp_of_one (K := SegsK P ops Q ms (l'.map get)) hf (fun a' w' hs' _ hk' => ?_) hk
      exact wpAny_of_segsK hkind hs hQ get ms l' _ a' w' (hcl.set (by rw [hr]; simp)) (fun j hj => hget j (by simp [hj])) hok' (by rw [hs']; exact hd) hk'
  | (m, 2, n) :: ms, l, listed, a, w, hcl, hget, hok, hd, h => by
    simp only [okPlanK, Bool.and_eq_true] at hok
    obtain ⟨⟨⟨hq, ht⟩, hb⟩, hrest⟩ := hok
    simp only [List.all_eq_true, List.mem_range, Bool.or_eq_true, decide_eq_true_eq] at ht
    obtain ⟨aE, hw, hk⟩ := h
    rw [pick_map] at hw
    rw [left_map] at hk
    rw [← pick_left_length m l, Nat.add_comm]
    refine wpAny_of_T (n := n) (C := (· = w)) _ _ _ _ ?_
    refine wpAnyTK_quiets hkind hs (fun c a a' w h => hQ _ _ _ _ (by simp) h) (C := (· = w)) (aE := aE) rfl (L0 := fun j => listed.getD j true = true) get _ _ _ _ (fun _ h => h) hcl (fun i hi => hget i (pick_mem _ _ _ hi))
      (fun i hi j o ho hj => (ht i hi j (Array.getElem?_eq_some_iff.1 ho).1).elim (fun h => h.elim (fun h => absurd h (by omega)) .inl) .inr) hq hd (fun W hW => by subst hW; exact hw) fun hsz hcl2 => ?_
    refine wpAnyT_of_late _ _ _ _ (fun j hj => ?_) ?_
    · rw [List.all_eq_true] at hb; exact hb j (List.mem_range.2 hj)
    exact wpAny_of_segsK hkind hs hQ get ms (left m l) _ _ _ hcl2 (fun i hi => hget i (left_mem _ _ _ hi)) hrest (by rw [hsz]; exact hd) hk
  | (m, _ + 3, n) :: ms, l, listed, a, w, hcl, hget, hok, hd, h => by
    simp only [okPlanK, Bool.and_eq_true] at hok
    obtain ⟨⟨hq, ht⟩, hrest⟩ := hok
    simp only [List.all_eq_true, List.mem_range, Bool.or_eq_true, decide_eq_true_eq] at ht
    obtain ⟨aE, hw, hk⟩ := h
    rw [← pick_left_length m l, Nat.add_comm]
    refine wpAny_of_T (n := n) (C := Ext w) _ _ _ _ ?_
    refine wpAnyTK_quiets hkind hs (fun c a a' w h => hQ _ _ _ _ (by simp) h) (C := Ext w) (aE := aE) (Ext.refl w) (L0 := fun j => listed.getD j true = true) get _ _ _ _ (fun _ h => h) hcl (fun i hi => hget i (pick_mem _ _ _ hi))
      (fun i hi j o ho hj => (ht i hi j (Array.getElem?_eq_some_iff.1 ho).1).elim (fun h => h.elim (fun h => absurd h (by omega)) .inl) .inr) hq hd (fun W hW => by rw [← pick_map]; exact hw W hW) fun hsz hcl2 => ?_
    rw [left_map] at hk
    cases hl : left m l with
    | nil => rw [hl] at hrest; cases hrest
    | cons f l' =>
      rw [hl] at hk hrest
      simp only [Bool.and_eq_true, beq_iff_eq] at hrest
      obtain ⟨⟨hr, hb⟩, hok'⟩ := hrest
      have hgl : ∀ i ∈ left m l, ops[i]? = some (get i) := fun i hi => hget i (left_mem _ _ _ hi)
      rw [hl] at hgl
      have hf := hgl f (by simp)
      refine ⟨fun h0 => (by rw [hr] at h0; cases h0), fun i hi => ?_⟩
      rw [hr] at hi
      obtain rfl : i = f := by simpa using hi
      refine wpOp_of_one (K := SegsK P ops Q ms (l'.map get)) hf (fun a' w' hs' he' hk' => ⟨fun _ => he' rfl, ?_⟩) hk
      refine wpAnyT_of_late _ _ _ _ (fun j hj => ?_) ?_
      · rw [List.all_eq_true] at hb; exact hb j (List.mem_range.2 hj)
      exact wpAny_of_segsK hkind hs hQ get ms l' _ a' w' (hcl2.set (by rw [hr]; simp)) (fun j hj => hgl j (by simp [hj])) hok' (by rw [hs', hsz]; exact hd) hk'
end

def planK : List (List Nat × Nat × Nat) → List (List Bool × Nat × Nat)
  | [] => []
  | (r, n) :: l => (runsT r, n) :: planK l
theorem segsK_pure {n : Nat} {P : Program} {ops : Array Oper} {Q : Exit → Act → World → Prop} {r : List Nat} {ms : List (List Nat × Nat × Nat)} {l : List Oper} {a aE : Act} {w : World} (h1 : ∀ W, wpList P ops (QEnd aE W) (pick (runsT r) l) a W)
    (h2 : SegsK P ops Q (planK ms) (left (runsT r) l) aE w) : SegsK P ops Q (planK ((r, 0, n) :: ms)) l a w := ⟨aE, h1, h2⟩
theorem segsK_look {n : Nat} {P : Program} {ops : Array Oper} {Q : Exit → Act → World → Prop} {r : List Nat} {ms : List (List Nat × Nat × Nat)} {l : List Oper} {a aE : Act} {w : World} (h1 : wpList P ops (QEnd aE w) (pick (runsT r) l) a w)
    (h2 : SegsK P ops Q (planK ms) (left (runsT r) l) aE w) : SegsK P ops Q (planK ((r, 2, n) :: ms)) l a w := ⟨aE, h1, h2⟩
theorem segsK_class {n : Nat} {P : Program} {ops : Array Oper} {Q : Exit → Act → World → Prop} {r : List Nat} {ms : List (List Nat × Nat × Nat)} {l : List Oper} {a aE : Act} {w : World} (h1 : ∀ W, Ext w W → wpList P ops (QEnd aE W) (pick (runsT r) l) a W)
    (h2 : match left (runsT r) l with | [] => False | o :: l' => wpList P ops (FEnd false w (SegsK P ops Q (planK ms) l')) [o] aE w) : SegsK P ops Q (planK ((r, 3, n) :: ms)) l a w := ⟨aE, h1, h2⟩
theorem segsK_op {n : Nat} {P : Program} {ops : Array Oper} {Q : Exit → Act → World → Prop} {r : List Nat} {ms : List (List Nat × Nat × Nat)} {o : Oper} {l : List Oper} {a : Act} {w : World}
    (h : wpList P ops (FEnd true w (SegsK P ops Q (planK ms) l)) [o] a w) : SegsK P ops Q (planK ((r, 1, n) :: ms)) (o :: l) a w := h
theorem segsK_nil {P : Program} {ops : Array Oper} {Q : Exit → Act → World → Prop} {l : List Oper} {a : Act} {w : World} (h : Q .normal a w) : SegsK P ops Q (planK []) l a w := h
def okRegionK (P : Program) (ops : Array Oper) (plan : List (List Bool × Nat × Nat)) (size : Nat) : Bool :=
  Region.noSelect ops && dstsOk ops size && okPlanK P kind .any ops plan (List.range ops.size) (Array.replicate ops.size false)

theorem segsK_np {P : Program} {ops : Array Oper} {Q : Exit → Act → World → Prop} : ∀ (plan : List (List Bool × Nat × Nat)) (l' : List Oper) (a : Act) (w : World), SegsK P ops Q plan l' a w → SegsK P ops (NP Q) plan l' a w
  | [], _, _, _, h => h
  | (m, 0, _) :: plan, l', a, w, h => by
    obtain ⟨aE, h1, h2⟩ := h
    exact ⟨aE, h1, segsK_np plan _ _ _ h2⟩
  | (m, 2, _) :: plan, l', a, w, h => by
    obtain ⟨aE, h1, h2⟩ := h
    exact ⟨aE, h1, segsK_np plan _ _ _ h2⟩
  | (m, _ + 3, _) :: plan, l', a, w, h => by
    obtain ⟨aE, h1, h2⟩ := h
    refine ⟨aE, h1, ?_⟩
    cases hl : left m l' with
    | nil => rw [hl] at h2; exact h2
    | cons o l'' =>
      rw [hl] at h2
      dsimp only at h2 ⊢
      unfold wpList at h2 ⊢
      split
      · rename_i hw
        simp only [hw, if_true] at h2
        rcases h2 with h2 | ⟨_, h2⟩
        · exact .inl (upon_mono2 (fun a' w' _ hk => ⟨hk.1, segsK_np plan _ _ _ hk.2⟩) (fun e a w he hq => by cases e <;> first | exact absurd rfl he | exact hq.elim) h2)
        · exact (letsOut_FEnd h2).elim
      · rename_i hw
        simp only [hw] at h2
        exact ⟨h2.1, segsK_np plan _ _ _ h2.2⟩
  | (m, 1, _) :: plan, l', a, w, h => by
    cases l' with
    | nil => exact h
    | cons o l'' =>
      have h2 : wpList P ops (FEnd true w (SegsK P ops Q plan l'')) [o] a w := h
      show wpList P ops (FEnd true w (SegsK P ops (NP Q) plan l'')) [o] a w
      unfold wpList at h2 ⊢
      split
      · rename_i hw
        simp only [hw, if_true] at h2
        rcases h2 with h2 | ⟨_, h2⟩
        · exact .inl (upon_mono2 (fun a' w' _ hk => ⟨hk.1, segsK_np plan _ _ _ hk.2⟩) (fun e a w he hq => by cases e <;> first | exact absurd rfl he | exact hq.elim) h2)
        · exact (letsOut_FEnd h2).elim
      · rename_i hw
        simp only [hw] at h2
        exact ⟨h2.1, segsK_np plan _ _ _ h2.2⟩

theorem wp_region_segsK {P : Program} {id : Nat} {l : List Oper} {Q : Exit → Act → World → Prop} {a : Act} {w : World} (plan : List (List Nat × Nat × Nat)) (hm : P.follows .mixedOrders = true)
    (hB : okRegionK P l.toArray (planK plan) a.tmps.size = true) (h : SegsK P l.toArray Q (planK plan) l a w.drew) : (Code.region id l.toArray true).wp P Q a w := by
  simp only [okRegionK, Bool.and_eq_true] at hB
  obtain ⟨⟨h1, h3⟩, h4⟩ := hB
  refine Code.wp_mono (Q := NP Q) (fun e a w h => by cases e <;> first | exact h | exact h.elim) ?_
  refine wp_region_any hm ?_
  have hl : (List.range l.toArray.size).map (fun i => l.toArray.getD i default) = l := by
    apply List.ext_getElem
    · simp
    · intro i h1 h2
      simp at h1
      simp [h1]
  have := wpAny_of_segsK (P := P) (ops := l.toArray) (md := .any) (Q := NP Q) (kind := kind) kind_quiet h1 (fun e a a' w he hq => by cases e <;> first | exact absurd rfl he | exact hq.elim) (fun i => l.toArray.getD i default) (planK plan) (List.range l.toArray.size) _ a w.drew
    (fun j o ho hl => by
      have h' : (Array.replicate l.toArray.size false).getD j false = false := by simp [Array.getD]
      rw [h'] at hl
      cases hl) (fun i hi => by
      have hi' : i < l.length := by simpa using hi
      simp [hi']) h4 h3 (by rw [hl]; exact segsK_np (planK plan) l a _ h)
  simpa using this
end Go.Seg
end

section
namespace Rk
variable {α β : Type} {c : α → α → Int}

theorem look_ins_other (hc : Lawful c) (k k' : α) (v : β) (h : k' ≠ k) : ∀ l : List (α × β), look c k' (ins c k v l) = look c k' l
  | [] => by
    simp only [ins, look]
    rw [if_neg (fun e => h ((hc.eq _ _).1 e))]
  | x :: l => by
    have hk : ¬ c k' k = 0 := fun e => h ((hc.eq _ _).1 e)
    simp only [ins]
    split
    · simp only [look]; rw [if_neg hk]
    · split
      · simp only [look]; rw [look_ins_other hc k k' v h l]
      · have e : k = x.1 := (hc.eq _ _).1 (by omega)
        simp only [look]
        rw [if_neg hk, if_neg (by rw [← e]; exact hk)]

theorem look_none_of (hc : Lawful c) (k : α) : ∀ l : List (α × β), (∀ x ∈ l, x.1 ≠ k) → look c k l = none
  | [], _ => rfl
  | x :: l, h => by
    simp only [look]
    rw [if_neg (fun e => h x (by simp) ((hc.eq _ _).1 e).symm), look_none_of hc k l (fun y hy => h y (by simp [hy]))]

theorem look_del_self (hc : Lawful c) (k : α) : ∀ l : List (α × β), Up c l → look c k (del c k l) = none
  | [], _ => rfl
  | x :: l, h => by
    obtain ⟨hx, hl⟩ := List.pairwise_cons.1 h
    simp only [del]
    split
    · rename_i h0
      have e : k = x.1 := (hc.eq _ _).1 h0
      refine look_none_of hc k l (fun y hy e' => ?_)
      have := hx y hy
      rw [e', ← e, (hc.eq k k).2 rfl] at this
      omega
    · rename_i h0
      simp only [look]
      rw [if_neg h0, look_del_self hc k l hl]

theorem look_del_other (hc : Lawful c) (k k' : α) (h : k' ≠ k) : ∀ l : List (α × β), look c k' (del c k l) = look c k' l
  | [] => rfl
  | x :: l => by
    simp only [del]
    split
    · rename_i h0
      have e : k = x.1 := (hc.eq _ _).1 h0
      simp only [look]
      rw [if_neg (fun e' => h (by rw [(hc.eq _ _).1 e', e]))]
    · simp only [look]
      rw [look_del_other hc k k' h l]

theorem up_put (hc : Lawful c) (k : α) (v : β) {t : T α β} (h : Up c t.toL) : Up c (T.put c k v t).toL := by rw [toL_put hc k v t h]; exact up_ins hc k v _ h
theorem up_drop (hc : Lawful c) (k : α) {t : T α β} (h : Up c t.toL) : Up c (T.drop c k t).toL := by rw [toL_drop hc k t h]; exact up_del k _ h
theorem get_put_self (hc : Lawful c) (k : α) (v : β) {t : T α β} (h : Up c t.toL) : T.get c k (T.put c k v t) = some v := by
  rw [get_toL hc k _ (up_put hc k v h), toL_put hc k v t h, look_ins_self hc]
theorem get_put_other (hc : Lawful c) (k k' : α) (v : β) (hk : k' ≠ k) {t : T α β} (h : Up c t.toL) : T.get c k' (T.put c k v t) = T.get c k' t := by
  rw [get_toL hc k' _ (up_put hc k v h), toL_put hc k v t h, look_ins_other hc k k' v hk, get_toL hc k' t h]
theorem get_drop_self (hc : Lawful c) (k : α) {t : T α β} (h : Up c t.toL) : T.get c k (T.drop c k t) = none := by
  rw [get_toL hc k _ (up_drop hc k h), toL_drop hc k t h, look_del_self hc k _ h]
theorem get_drop_other (hc : Lawful c) (k k' : α) (hk : k' ≠ k) {t : T α β} (h : Up c t.toL) : T.get c k' (T.drop c k t) = T.get c k' t := by
  rw [get_toL hc k' _ (up_drop hc k h), toL_drop hc k t h, look_del_other hc k k' hk, get_toL hc k' t h]
theorem up_nil : Up c (T.nil : T α β).toL := List.Pairwise.nil
end Rk
end

section
namespace Go.Proofs.YtdfbfcglacalmaaGreat.ShI
open Go.RowKit Go.Seg Go.Open Go.Lib Rk

theorem chg_ext {S : Nat → Prop} {a b c : World} (h : Ext a b) (k : Chg S b c) : Chg S a c := (Chg.of_below h).trans k
abbrev Ent := Int × Int × Int × Int × Int × Int
def zE : Ent := (0, 0, 0, 0, 0, 0)
/-- A shard: the tree of its entries, the tree of what is on its way. -/
def ShardAt (w : World) (b : Nat) (te : T Int Ent) (tw : T Int (Int × Int)) : Prop := ∃ q1 q2, Blk w b #[.pointer q1, .pointer q2] 108 ∧ TrEi.isTree w q1 te ∧ TrPe.isTree w q2 tw
theorem ShardAt.ext {w w' : World} {b : Nat} {te : T Int Ent} {tw : T Int (Int × Int)} (h : ShardAt w b te tw) (e : Ext w w') : ShardAt w' b te tw := by
  obtain ⟨q1, q2, hB, h1, h2⟩ := h
  exact ⟨q1, q2, hB.ext e, h1.ext e, h2.ext e⟩
theorem ShardAt.blk {w : World} {b : Nat} {te : T Int Ent} {tw : T Int (Int × Int)} : ShardAt w b te tw → ∃ cs, Blk w b cs 108 := fun ⟨_, _, h, _⟩ => ⟨_, h⟩
theorem ShardAt.putWays {w : World} {b : Nat} {te : T Int Ent} {tw tw' : T Int (Int × Int)} {q : Option Addr} (h : ShardAt w b te tw) (hq : TrPe.isTree w q tw') : ShardAt (w.setCell ⟨b, 1, none⟩ (.pointer q)) b te tw' := by
  obtain ⟨q1, q2, hB, h1, h2⟩ := h
  have hc := Chg.set w b 1 (.pointer q)
  exact ⟨q1, q, hB.set 1 (.pointer q) rfl, h1.chg hc (.one hB (by decide)) (.one hB (by decide)), hq.chg hc (.one hB (by decide)) (.one hB (by decide))⟩
theorem ShardAt.putEntries {w : World} {b : Nat} {te te' : T Int Ent} {tw : T Int (Int × Int)} {q : Option Addr} (h : ShardAt w b te tw) (hq : TrEi.isTree w q te') : ShardAt (w.setCell ⟨b, 0, none⟩ (.pointer q)) b te' tw := by
  obtain ⟨q1, q2, hB, h1, h2⟩ := h
  have hc := Chg.set w b 0 (.pointer q)
  exact ⟨q, q2, hB.set 0 (.pointer q) rfl, hq.chg hc (.one hB (by decide)) (.one hB (by decide)), h2.chg hc (.one hB (by decide)) (.one hB (by decide))⟩

theorem ShardAt.one {w w' : World} {b k : Nat} {te : T Int Ent} {tw : T Int (Int × Int)} {cs : Array Value} {E : TypeId} (h : ShardAt w b te tw) (hc : Chg (· = k) w w') (hk : Blk w k cs E) (hE : [108, 167, 163, 142, 181].contains E = false) : ShardAt w' b te tw := by
  obtain ⟨q1, q2, hB, h1, h2⟩ := h
  have n : ∀ x ∈ [108, 167, 163, 142, 181], E ≠ x := fun x hx e => by subst e; rw [List.contains_iff_mem.2 hx] at hE; cases hE
  exact ⟨q1, q2, hB.chg hc (.one hk (n _ (by simp))), h1.chg hc (.one hk (n _ (by simp))) (.one hk (n _ (by simp))), h2.chg hc (.one hk (n _ (by simp))) (.one hk (n _ (by simp)))⟩
theorem results_cell {fn : Func} {p : Tmp} {ty : TypeId} (h : fn.results = #[.cell p ty]) (tmps : Array Value) (P : Program) (w : World) :
    (results fn tmps).run P w = ((asAddr (tmps.getD p undef)).run P w).andThen fun a w₁ => (loadVar ty a).run P w₁ := by
  simp only [results, h]
  simp [Sem.run_bind, Result.andThen]

theorem New_shard (w : World) : Calls Tryz.prog 67 #[] w fun e w' => ∃ b, e = .returned (.pointer (some ⟨b, 0, none⟩)) ∧ w.heap.size ≤ b ∧ ShardAt w' b .nil .nil ∧ Ext w w' := by
  go_enter Tryz.func67, Tryz.ntmps67
  go_wp2_with fail
  refine (TrEi.New_any _).mono ?_
  rintro e w1 ⟨q1, rfl, h1, hE1⟩
  go_wp2_with fail
  refine (TrPe.New_any _).mono ?_
  rintro e w2 ⟨q2, rfl, h2, hE2⟩
  go_wp2_with fail
  go_ret
  have hA : Ext w2 (w2.alloc (Obj.cells #[.pointer q1, .pointer q2] 108)) := (Below.refl _ _).alloc (Nat.le_refl _) _
  exact ⟨_, rfl, Nat.le_trans hE1.size hE2.size, ⟨q1, q2, Blk.new _ _ _, h1.ext (Ext.trans hE2 hA), h2.ext hA⟩, Ext.trans (Ext.trans hE1 hE2) hA⟩

theorem field0 (x y : Value) (w : World) : (Instr.field 111 (.agg #[x, y]) 0).run Tryz.prog w = .ok x w := by kernel_rfl
/-- What is on its way of a hash. -/
def wayOf (tw : T Int (Int × Int)) (h : Int) : Int × Int := (T.get cint h tw).getD (0, 0)

set_option maxRecDepth 100000 in
set_option maxHeartbeats 1000000 in
theorem way_any (b : Nat) (te : T Int Ent) (tw : T Int (Int × Int)) (h : Int) (w : World) (hS : ShardAt w b te tw) (hs : tw.sz < 1000000) :
    Calls Tryz.prog 69 #[.pointer (some ⟨b, 0, none⟩), .int .u64 h] w fun e w' => e = .returned (.agg #[.int .i64 (wayOf tw h).1, .int .i64 (wayOf tw h).2]) ∧ Ext w w' := by
  obtain ⟨q1, q2, hB, _, hT⟩ := hS
  have hA : Ext w (w.alloc (Obj.cells #[.int .i64 0, .int .i64 0] 111)) := (Below.refl _ _).alloc (Nat.le_refl _) _
  have HR := Lib.hid (show Blk (w.alloc (Obj.cells #[.int .i64 0, .int .i64 0] 111)) w.heap.size #[.int .i64 0, .int .i64 0] 111 from Blk.new _ _ _)
  have b1 := (hB.ext hA).cell (i := 1) rfl
  have HT := Lib.hid (hT.ext hA)
  clear hB hT
  go_enter Tryz.func69, Tryz.ntmps69
  go_wp2_with fail
  refine (TrPe.Get_any _ _ _ _ HT.out (by omega)).mono ?_
  rintro e w1 ⟨he, hE⟩
  have z0 := (HR.out.ext hE).cell (i := 0) rfl
  have y0 := (HR.out.ext hE).frozen 0
  have z1 := (HR.out.ext hE).cell (i := 1) rfl
  have y1 := (HR.out.ext hE).frozen 1
  have hsz := hE.size
  simp at hsz
  have HE := Lib.hid (below_ext hA hE)
  have hlt1 : w.heap.size < w1.heap.size := by omega
  clear b1
  cases hg : T.get cint h tw with
  | none =>
    rw [hg] at he
    obtain rfl := he
    have hw : wayOf tw h = (0, 0) := by unfold wayOf; rw [hg]; rfl
    have HW := Lib.hid hw
    clear hg hw
    go_wp2_with fail
    (try simp only [Exit.inBlock, Exit.then])
    refine bodyPost_ret (v := .agg #[.int .i64 0, .int .i64 0]) ?_ rfl ?_
    · rw [results_cell rfl]
      go_simp
    rw [HW.out]
    refine ⟨rfl, ?_⟩
    repeat (first | (refine Below.setCell ?_ (by simp) _) | (refine Below.alloc ?_ (by have := HE.out.size; simp; omega) _))
    exact HE.out
  | some v =>
    rw [hg] at he
    obtain rfl := he
    have hw : wayOf tw h = v := by unfold wayOf; rw [hg]; rfl
    have HW := Lib.hid hw
    clear hg hw
    go_wp2_with fail
    (try simp only [Exit.inBlock, Exit.then])
    refine bodyPost_ret (v := .agg #[.int .i64 v.1, .int .i64 v.2]) ?_ rfl ?_
    · rw [results_cell rfl]
      go_simp
    rw [HW.out]
    refine ⟨rfl, ?_⟩
    repeat (first | (refine Below.setCell ?_ (by simp) _) | (refine Below.alloc ?_ (by have := HE.out.size; simp; omega) _))
    exact HE.out
theorem way_nil (h : Int) (w : World) : Calls Tryz.prog 69 #[.pointer none, .int .u64 h] w fun e w' => e = .returned (.agg #[.int .i64 0, .int .i64 0]) ∧ Ext w w' := by
  go_enter Tryz.func69, Tryz.ntmps69
  go_wp2_with fail
  (try simp only [Exit.inBlock, Exit.then])
  refine bodyPost_ret (v := .agg #[.int .i64 0, .int .i64 0]) ?_ rfl ?_
  · rw [results_cell rfl]
    go_simp
  refine ⟨rfl, ?_⟩
  repeat (first | (refine Below.setCell ?_ (by simp) _) | (refine Below.alloc ?_ (by simp) _))
  exact Below.refl _ _

set_option maxRecDepth 100000 in
theorem Pending_any (b : Nat) (te : T Int Ent) (tw : T Int (Int × Int)) (h : Int) (w : World) (hS : ShardAt w b te tw) (hs : tw.sz < 1000000) :
    Calls Tryz.prog 34 #[.pointer (some ⟨b, 0, none⟩), .int .u64 h] w fun e w' => e = .returned (.int .i64 (wayOf tw h).1) ∧ Ext w w' := by
  have HS := Lib.hid hS
  have hf0 := field0
  clear hS
  go_enter Tryz.func34, Tryz.ntmps34
  go_wp2_with fail
  refine (way_any _ _ _ _ _ HS.out hs).mono ?_
  rintro e w1 ⟨rfl, hE⟩
  go_wp2_with fail
  go_ret
  exact ⟨rfl, hE⟩
set_option maxRecDepth 100000 in
theorem Pending_nil (h : Int) (w : World) : Calls Tryz.prog 34 #[.pointer none, .int .u64 h] w fun e w' => e = .returned (.int .i64 0) ∧ Ext w w' := by
  have hf0 := field0
  go_enter Tryz.func34, Tryz.ntmps34
  go_wp2_with fail
  refine (way_nil _ _).mono ?_
  rintro e w1 ⟨rfl, hE⟩
  go_wp2_with fail
  go_ret
  exact ⟨rfl, hE⟩

set_option maxRecDepth 100000 in
set_option maxHeartbeats 1000000 in
theorem Wait_any (b : Nat) (te : T Int Ent) (tw : T Int (Int × Int)) (h t m : Int) (w : World) (hS : ShardAt w b te tw) (hs : tw.sz < 1000000) (hm : (wayOf tw h).1 = m) (h0 : 0 ≤ m) (h1 : m ≤ 1000000) :
    Calls Tryz.prog 29 #[.pointer (some ⟨b, 0, none⟩), .int .u64 h, .int .i64 t] w fun e w' => e = .returned (.tuple #[]) ∧ ShardAt w' b te (T.put cint h (m + 1, t) tw) ∧ Chg (· = b) w w' := by
  have HS := Lib.hid hS
  have HM := Lib.hid hm
  obtain ⟨q1, q2, hB, _, hT⟩ := hS
  have HB := Lib.hid hB
  have HT := Lib.hid hT
  have hf0 := field0
  clear hB hT hm
  go_enter Tryz.func29, Tryz.ntmps29
  go_wp2_with fail
  refine wp_region_segs 16 [([8, 3, 1, 5], false), ([3, 4], false), ([2, 1], true)] (by kernel_rfl) (by kernel_rfl) ?_
  apply segs_cons
  · intro W hW
    have b1 := (HB.out.ext hW.of_drew).cell (i := 1) rfl
    simp only [runsT, runsF, rep, pick]
    go_wp2_with fail
    exact ⟨rfl, rfl⟩
  simp only [runsT, runsF, rep, left]
  go_wp2_with fail
  refine (way_any _ _ _ _ _ (HS.out.ext (Ext.drew _)) hs).mono ?_
  rw [HM.out]
  rintro e w1 ⟨rfl, hE1⟩
  have HE1 := Lib.hid (Ext.trans (Ext.drew w) hE1)
  go_wp2_with fail
  refine ⟨fun _ => hE1, ?_⟩
  apply segs_cons
  · intro W hW
    simp only [runsT, runsF, rep, pick]
    go_wp2_with fail
    exact ⟨rfl, rfl⟩
  simp only [runsT, runsF, rep, left]
  go_wp2_with fail
  refine (TrPe.Put_any h (m + 1, t) _ _ _ (HT.out.ext HE1.out) (by omega)).mono ?_
  rintro e w2 ⟨q, rfl, hq, hE2⟩
  have HQ := Lib.hid hq
  have HE2 := Lib.hid (Ext.trans HE1.out hE2)
  have HS2 := Lib.hid (HS.out.ext HE2.out)
  have b2 := (HB.out.ext HE2.out).cell (i := 1) rfl
  have f2 := (HB.out.ext HE2.out).frozen 1
  go_wp2_with fail
  refine ⟨fun _ => hE2, ?_⟩
  apply segs_cons
  · intro W hW
    simp only [runsT, runsF, rep, pick]
    go_wp2_with fail
    exact ⟨rfl, rfl⟩
  simp only [runsT, runsF, rep, left]
  go_wp2_with fail
  refine ⟨fun h => (by cases h), ?_⟩
  apply segs_nil
  go_wp2_with fail
  go_end0
  exact ⟨rfl, HS2.out.putWays HQ.out, chg_ext HE2.out (Chg.set _ _ _ _)⟩
theorem Wait_nil (h t : Int) (w : World) : Calls Tryz.prog 29 #[.pointer none, .int .u64 h, .int .i64 t] w fun e w' => e = .returned (.tuple #[]) ∧ w = w' := by
  go_enter Tryz.func29, Tryz.ntmps29
  go_wp2_with fail
  go_end0
  exact ⟨rfl, rfl⟩

set_option maxRecDepth 100000 in
set_option maxHeartbeats 1000000 in
theorem Put_entry (b : Nat) (te : T Int Ent) (tw : T Int (Int × Int)) (h : Int) (v : Ent) (w : World) (hS : ShardAt w b te tw) (hs : te.sz < 1000000) :
    Calls Tryz.prog 56 #[.pointer (some ⟨b, 0, none⟩), .int .u64 h, .agg #[.int .u64 v.1, .int .i64 v.2.1, .int .i64 v.2.2.1, .int .i64 v.2.2.2.1, .int .i64 v.2.2.2.2.1, .int .i64 v.2.2.2.2.2]] w fun e w' => e = .returned (.tuple #[]) ∧ ShardAt w' b (T.put cint h v te) tw ∧ Chg (· = b) w w' := by
  have HS := Lib.hid hS
  obtain ⟨q1, q2, hB, hT, _⟩ := hS
  have HB := Lib.hid hB
  have HT := Lib.hid hT
  have HA1 := Lib.hid (show Blk (w.alloc (Obj.cells #[.int .u64 v.1, .int .i64 v.2.1, .int .i64 v.2.2.1, .int .i64 v.2.2.2.1, .int .i64 v.2.2.2.2.1, .int .i64 v.2.2.2.2.2] 41)) w.heap.size #[.int .u64 v.1, .int .i64 v.2.1, .int .i64 v.2.2.1, .int .i64 v.2.2.2.1, .int .i64 v.2.2.2.2.1, .int .i64 v.2.2.2.2.2] 41 from Blk.new _ _ _)
  have HE1 := Lib.hid (show Ext w (w.alloc (Obj.cells #[.int .u64 v.1, .int .i64 v.2.1, .int .i64 v.2.2.1, .int .i64 v.2.2.2.1, .int .i64 v.2.2.2.2.1, .int .i64 v.2.2.2.2.2] 41)) from (Below.refl _ _).alloc (Nat.le_refl _) _)
  clear hB hT
  go_enter Tryz.func56, Tryz.ntmps56
  go_wp2_with fail
  refine wp_region_segs 10 [([7, 4], false), ([2, 1], true)] (by kernel_rfl) (by kernel_rfl) ?_
  apply segs_cons
  · intro W hW
    have b1 := ((HB.out.ext HE1.out).ext hW.of_drew).cell (i := 0) rfl
    have c0 := (HA1.out.ext hW.of_drew).cell (i := 0) rfl
    have c1 := (HA1.out.ext hW.of_drew).cell (i := 1) rfl
    have c2 := (HA1.out.ext hW.of_drew).cell (i := 2) rfl
    have c3 := (HA1.out.ext hW.of_drew).cell (i := 3) rfl
    have c4 := (HA1.out.ext hW.of_drew).cell (i := 4) rfl
    have c5 := (HA1.out.ext hW.of_drew).cell (i := 5) rfl
    simp only [runsT, runsF, rep, pick]
    go_wp2_with fail
    exact ⟨rfl, rfl⟩
  simp only [runsT, runsF, rep, left]
  go_wp2_with fail
  refine (TrEi.Put_any h v _ _ _ ((HT.out.ext HE1.out).ext (Ext.drew _)) (by omega)).mono ?_
  rintro e w2 ⟨q, rfl, hq, hE2⟩
  have HQ := Lib.hid hq
  have HE2 := Lib.hid (Ext.trans HE1.out (Ext.trans (Ext.drew _) hE2))
  have HS2 := Lib.hid (HS.out.ext HE2.out)
  have b2 := (HB.out.ext HE2.out).cell (i := 0) rfl
  have f2 := (HB.out.ext HE2.out).frozen 0
  go_wp2_with fail
  refine ⟨fun _ => hE2, ?_⟩
  apply segs_cons
  · intro W hW
    simp only [runsT, runsF, rep, pick]
    go_wp2_with fail
    exact ⟨rfl, rfl⟩
  simp only [runsT, runsF, rep, left]
  go_wp2_with fail
  refine ⟨fun h => (by cases h), ?_⟩
  apply segs_nil
  go_wp2_with fail
  go_end0
  exact ⟨rfl, HS2.out.putEntries HQ.out, chg_ext HE2.out (Chg.set _ _ _ _)⟩
theorem Put_nil (h : Int) (v : Ent) (w : World) : Calls Tryz.prog 56 #[.pointer none, .int .u64 h, .agg #[.int .u64 v.1, .int .i64 v.2.1, .int .i64 v.2.2.1, .int .i64 v.2.2.2.1, .int .i64 v.2.2.2.2.1, .int .i64 v.2.2.2.2.2]] w fun e w' => e = .returned (.tuple #[]) ∧ Ext w w' := by
  go_enter Tryz.func56, Tryz.ntmps56
  go_wp2_with fail
  go_end0
  exact ⟨rfl, (Below.refl _ _).alloc (Nat.le_refl _) _⟩

/-- An entry of a hash, or the zero one. -/
def entOf (te : T Int Ent) (h : Int) : Ent := (T.get cint h te).getD zE
set_option maxRecDepth 100000 in
set_option maxHeartbeats 2000000 in
theorem Look_any (b : Nat) (te : T Int Ent) (tw : T Int (Int × Int)) (h : Int) (w : World) (hS : ShardAt w b te tw) (hs : te.sz < 1000000) :
    Calls Tryz.prog 47 #[.pointer (some ⟨b, 0, none⟩), .int .u64 h] w fun e w' => e = .returned (.tuple #[.agg #[.int .u64 (entOf te h).1, .int .i64 (entOf te h).2.1, .int .i64 (entOf te h).2.2.1, .int .i64 (entOf te h).2.2.2.1, .int .i64 (entOf te h).2.2.2.2.1, .int .i64 (entOf te h).2.2.2.2.2], .bool (T.get cint h te).isSome]) ∧ Ext w w' := by
  obtain ⟨q1, q2, hB, hT, _⟩ := hS
  have hA : Ext w (w.alloc (Obj.cells #[.int .u64 0, .int .i64 0, .int .i64 0, .int .i64 0, .int .i64 0, .int .i64 0] 41)) := (Below.refl _ _).alloc (Nat.le_refl _) _
  have HR := Lib.hid (show Blk (w.alloc (Obj.cells #[.int .u64 0, .int .i64 0, .int .i64 0, .int .i64 0, .int .i64 0, .int .i64 0] 41)) w.heap.size #[.int .u64 0, .int .i64 0, .int .i64 0, .int .i64 0, .int .i64 0, .int .i64 0] 41 from Blk.new _ _ _)
  have b1 := (hB.ext hA).cell (i := 0) rfl
  have HT := Lib.hid (hT.ext hA)
  clear hB hT
  go_enter Tryz.func47, Tryz.ntmps47
  go_wp2_with fail
  refine (TrEi.Get_any _ _ _ _ HT.out (by omega)).mono ?_
  rintro e w1 ⟨he, hE⟩
  have z0 := (HR.out.ext hE).cell (i := 0) rfl
  have y0 := (HR.out.ext hE).frozen 0
  have z1 := (HR.out.ext hE).cell (i := 1) rfl
  have y1 := (HR.out.ext hE).frozen 1
  have z2 := (HR.out.ext hE).cell (i := 2) rfl
  have y2 := (HR.out.ext hE).frozen 2
  have z3 := (HR.out.ext hE).cell (i := 3) rfl
  have y3 := (HR.out.ext hE).frozen 3
  have z4 := (HR.out.ext hE).cell (i := 4) rfl
  have y4 := (HR.out.ext hE).frozen 4
  have z5 := (HR.out.ext hE).cell (i := 5) rfl
  have y5 := (HR.out.ext hE).frozen 5
  have HE := Lib.hid (below_ext hA hE)
  clear b1
  cases hg : T.get cint h te with
  | none =>
    rw [hg] at he
    obtain rfl := he
    have hw : entOf te h = zE := by unfold entOf; rw [hg]; rfl
    have HW := Lib.hid hw
    have HG := Lib.hid hg
    clear hg hw
    go_wp2_with fail
    (try simp only [Exit.inBlock, Exit.then])
    refine bodyPost_ret (v := .tuple #[.agg #[.int .u64 0, .int .i64 0, .int .i64 0, .int .i64 0, .int .i64 0, .int .i64 0], .bool false]) ?_ rfl ?_
    · rw [results_cell_tmp rfl]
      go_simp
    rw [HW.out, HG.out]
    refine ⟨rfl, ?_⟩
    repeat (first | (refine Below.setCell ?_ (by simp) _) | (refine Below.alloc ?_ (by have := HE.out.size; simp; omega) _))
    exact HE.out
  | some v =>
    rw [hg] at he
    obtain rfl := he
    have hw : entOf te h = v := by unfold entOf; rw [hg]; rfl
    have HW := Lib.hid hw
    have HG := Lib.hid hg
    clear hg hw
    go_wp2_with fail
    (try simp only [Exit.inBlock, Exit.then])
    refine bodyPost_ret (v := .tuple #[.agg #[.int .u64 v.1, .int .i64 v.2.1, .int .i64 v.2.2.1, .int .i64 v.2.2.2.1, .int .i64 v.2.2.2.2.1, .int .i64 v.2.2.2.2.2], .bool true]) ?_ rfl ?_
    · rw [results_cell_tmp rfl]
      go_simp
    rw [HW.out, HG.out]
    refine ⟨rfl, ?_⟩
    repeat (first | (refine Below.setCell ?_ (by simp) _) | (refine Below.alloc ?_ (by have := HE.out.size; simp; omega) _))
    exact HE.out
theorem Look_nil (h : Int) (w : World) : Calls Tryz.prog 47 #[.pointer none, .int .u64 h] w fun e w' => e = .returned (.tuple #[.agg #[.int .u64 0, .int .i64 0, .int .i64 0, .int .i64 0, .int .i64 0, .int .i64 0], .bool false]) ∧ Ext w w' := by
  go_enter Tryz.func47, Tryz.ntmps47
  go_wp2_with fail
  (try simp only [Exit.inBlock, Exit.then])
  refine bodyPost_ret (v := .tuple #[.agg #[.int .u64 0, .int .i64 0, .int .i64 0, .int .i64 0, .int .i64 0, .int .i64 0], .bool false]) ?_ rfl ?_
  · rw [results_cell_tmp rfl]
    go_simp
  refine ⟨rfl, ?_⟩
  repeat (first | (refine Below.setCell ?_ (by simp) _) | (refine Below.alloc ?_ (by simp) _))
  exact Below.refl _ _

end Go.Proofs.YtdfbfcglacalmaaGreat.ShI
end
