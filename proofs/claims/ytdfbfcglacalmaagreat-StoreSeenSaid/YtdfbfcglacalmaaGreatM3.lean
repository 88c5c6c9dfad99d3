/-
  The contracts of the ranked tree at entryi: each function of package rank comes to the plain tree's. Trees of fewer than 800,000,000 keys; no other condition.
-/
import Derived.WalkKit
import Derived.KernelRfl
import Derived.Deep.RegionWith
import Derived.Deep.LoopGhost
import Derived.Lib.Hide
import Derived.Laws.ResultCell
import Derived.Test.YtdfbfcglacalmaaGreatM1
import Derived.Test.YtdfbfcglacalmaaGreatM2
import Derived.Test.YtdfbfcglacalmaaGreatProg
section
namespace Go.Proofs.YtdfbfcglacalmaaGreat.TrEi
open Go.RowKit Go.Seg Go.Open Rk
/-- A node's block. -/
def NodeAt (w : World) (b : Nat) (k : Int) (v : Int × Int × Int × Int × Int × Int) (pl pr : Option Addr) (n d : Int) : Prop := Blk w b #[.int .u64 k, .int .u64 v.1, .int .i64 v.2.1, .int .i64 v.2.2.1, .int .i64 v.2.2.2.1, .int .i64 v.2.2.2.2.1, .int .i64 v.2.2.2.2.2, .pointer pl, .pointer pr, .int .i64 n, .int .i64 d] 163
theorem NodeAt.ext {w w' : World} {b : Nat} {k : Int} {v : Int × Int × Int × Int × Int × Int} {pl pr : Option Addr} {n d : Int} (h : NodeAt w b k v pl pr n d) (e : Ext w w') : NodeAt w' b k v pl pr n d := Blk.ext h e
theorem NodeAt.c0 {w : World} {b : Nat} {k : Int} {v : Int × Int × Int × Int × Int × Int} {pl pr : Option Addr} {n d : Int} (h : NodeAt w b k v pl pr n d) : w.cell? ⟨b, 0, none⟩ = some (.int .u64 k) := Blk.cell h rfl
theorem NodeAt.c1 {w : World} {b : Nat} {k : Int} {v : Int × Int × Int × Int × Int × Int} {pl pr : Option Addr} {n d : Int} (h : NodeAt w b k v pl pr n d) : w.cell? ⟨b, 1, none⟩ = some (.int .u64 v.1) := Blk.cell h rfl
theorem NodeAt.c2 {w : World} {b : Nat} {k : Int} {v : Int × Int × Int × Int × Int × Int} {pl pr : Option Addr} {n d : Int} (h : NodeAt w b k v pl pr n d) : w.cell? ⟨b, 2, none⟩ = some (.int .i64 v.2.1) := Blk.cell h rfl
theorem NodeAt.c3 {w : World} {b : Nat} {k : Int} {v : Int × Int × Int × Int × Int × Int} {pl pr : Option Addr} {n d : Int} (h : NodeAt w b k v pl pr n d) : w.cell? ⟨b, 3, none⟩ = some (.int .i64 v.2.2.1) := Blk.cell h rfl
theorem NodeAt.c4 {w : World} {b : Nat} {k : Int} {v : Int × Int × Int × Int × Int × Int} {pl pr : Option Addr} {n d : Int} (h : NodeAt w b k v pl pr n d) : w.cell? ⟨b, 4, none⟩ = some (.int .i64 v.2.2.2.1) := Blk.cell h rfl
theorem NodeAt.c5 {w : World} {b : Nat} {k : Int} {v : Int × Int × Int × Int × Int × Int} {pl pr : Option Addr} {n d : Int} (h : NodeAt w b k v pl pr n d) : w.cell? ⟨b, 5, none⟩ = some (.int .i64 v.2.2.2.2.1) := Blk.cell h rfl
theorem NodeAt.c6 {w : World} {b : Nat} {k : Int} {v : Int × Int × Int × Int × Int × Int} {pl pr : Option Addr} {n d : Int} (h : NodeAt w b k v pl pr n d) : w.cell? ⟨b, 6, none⟩ = some (.int .i64 v.2.2.2.2.2) := Blk.cell h rfl
theorem NodeAt.c7 {w : World} {b : Nat} {k : Int} {v : Int × Int × Int × Int × Int × Int} {pl pr : Option Addr} {n d : Int} (h : NodeAt w b k v pl pr n d) : w.cell? ⟨b, 7, none⟩ = some (.pointer pl) := Blk.cell h rfl
theorem NodeAt.c8 {w : World} {b : Nat} {k : Int} {v : Int × Int × Int × Int × Int × Int} {pl pr : Option Addr} {n d : Int} (h : NodeAt w b k v pl pr n d) : w.cell? ⟨b, 8, none⟩ = some (.pointer pr) := Blk.cell h rfl
theorem NodeAt.c9 {w : World} {b : Nat} {k : Int} {v : Int × Int × Int × Int × Int × Int} {pl pr : Option Addr} {n d : Int} (h : NodeAt w b k v pl pr n d) : w.cell? ⟨b, 9, none⟩ = some (.int .i64 n) := Blk.cell h rfl
theorem NodeAt.c10 {w : World} {b : Nat} {k : Int} {v : Int × Int × Int × Int × Int × Int} {pl pr : Option Addr} {n d : Int} (h : NodeAt w b k v pl pr n d) : w.cell? ⟨b, 10, none⟩ = some (.int .i64 d) := Blk.cell h rfl
/-- The tree lies there. -/
def isT (w : World) : Option Addr → T Int (Int × Int × Int × Int × Int × Int) → Prop
  | p, .nil => p = none
  | p, .node k v l r => ∃ b pl pr, p = some ⟨b, 0, none⟩ ∧ NodeAt w b k v pl pr (l.sz + r.sz + 1) (max l.dp r.dp + 1) ∧ isT w pl l ∧ isT w pr r
theorem isT.ext {w w' : World} (e : Ext w w') : ∀ {t : T Int (Int × Int × Int × Int × Int × Int)} {p : Option Addr}, isT w p t → isT w' p t
  | .nil, _, hp => hp
  | .node _ _ _ _, _, ⟨b, pl, pr, hp, hb, hl, hr⟩ => ⟨b, pl, pr, hp, hb.ext e, hl.ext e, hr.ext e⟩
theorem isT_node {w : World} {p : Option Addr} {k : Int} {v : Int × Int × Int × Int × Int × Int} {l r : T Int (Int × Int × Int × Int × Int × Int)} (h : isT w p (.node k v l r)) : ∃ b pl pr, p = some ⟨b, 0, none⟩ ∧ NodeAt w b k v pl pr (l.sz + r.sz + 1) (max l.dp r.dp + 1) ∧ isT w pl l ∧ isT w pr r := h
theorem size_any (w : World) (p : Option Addr) (t : T Int (Int × Int × Int × Int × Int × Int)) (h : isT w p t) : Calls Tryz.prog 115 #[.pointer p] w fun e w' => e = .returned (.int .i64 t.sz) ∧ w = w' := by
  cases t with
  | nil =>
    obtain rfl := h
    go_enter Tryz.func115, Tryz.ntmps115
    go_wp2
    go_ret
    exact ⟨rfl, rfl⟩
  | node k v l r =>
    obtain ⟨b, pl, pr, rfl, hb, _, _⟩ := isT_node h
    have c := hb.c9
    clear hb h
    go_enter Tryz.func115, Tryz.ntmps115
    go_wp2
    go_ret
    exact ⟨rfl, rfl⟩
theorem deep_any (w : World) (p : Option Addr) (t : T Int (Int × Int × Int × Int × Int × Int)) (h : isT w p t) : Calls Tryz.prog 166 #[.pointer p] w fun e w' => e = .returned (.int .i64 t.dp) ∧ w = w' := by
  cases t with
  | nil =>
    obtain rfl := h
    go_enter Tryz.func166, Tryz.ntmps166
    go_wp2
    go_ret
    exact ⟨rfl, rfl⟩
  | node k v l r =>
    obtain ⟨b, pl, pr, rfl, hb, _, _⟩ := isT_node h
    have c := hb.c10
    clear hb h
    go_enter Tryz.func166, Tryz.ntmps166
    go_wp2
    go_ret
    exact ⟨rfl, rfl⟩
set_option maxRecDepth 100000 in
theorem made_any (w : World) (k : Int) (v : Int × Int × Int × Int × Int × Int) (pl pr : Option Addr) (l r : T Int (Int × Int × Int × Int × Int × Int)) (hl : isT w pl l) (hr : isT w pr r) (hs : l.sz + r.sz < 1000000000) :
    Calls Tryz.prog 141 #[.int .u64 k, .agg #[.int .u64 v.1, .int .i64 v.2.1, .int .i64 v.2.2.1, .int .i64 v.2.2.2.1, .int .i64 v.2.2.2.2.1, .int .i64 v.2.2.2.2.2], .pointer pl, .pointer pr] w fun e w' => ∃ p, e = .returned (.pointer p) ∧ isT w' p (.node k v l r) ∧ Ext w w' := by
  have h1 := l.sz_nn
  have h2 := r.sz_nn
  have h3 := l.dp_nn
  have h4 := r.dp_nn
  have h5 := l.dp_le_sz
  have h6 := r.dp_le_sz
  have hA : Ext w (w.alloc (Obj.cells #[.int .u64 v.1, .int .i64 v.2.1, .int .i64 v.2.2.1, .int .i64 v.2.2.2.1, .int .i64 v.2.2.2.2.1, .int .i64 v.2.2.2.2.2] 41)) := (Below.refl _ _).alloc (Nat.le_refl _) _
  have HP := Lib.hid (show Blk (w.alloc (Obj.cells #[.int .u64 v.1, .int .i64 v.2.1, .int .i64 v.2.2.1, .int .i64 v.2.2.2.1, .int .i64 v.2.2.2.2.1, .int .i64 v.2.2.2.2.2] 41)) w.heap.size #[.int .u64 v.1, .int .i64 v.2.1, .int .i64 v.2.2.1, .int .i64 v.2.2.2.1, .int .i64 v.2.2.2.2.1, .int .i64 v.2.2.2.2.2] 41 from Blk.new _ _ _)
  have p0 := HP.out.cell (i := 0) rfl
  have p1 := HP.out.cell (i := 1) rfl
  have p2 := HP.out.cell (i := 2) rfl
  have p3 := HP.out.cell (i := 3) rfl
  have p4 := HP.out.cell (i := 4) rfl
  have p5 := HP.out.cell (i := 5) rfl
  have H1 := Lib.hid (hl.ext hA)
  have H2 := Lib.hid (hr.ext hA)
  clear hl hr
  rcases Int.lt_or_le l.dp r.dp with hm | hm
  all_goals
    go_enter Tryz.func141, Tryz.ntmps141
    go_wp2_with fail
    refine wp_region_segs 19 [([5, 1, 1, 3, 1, 1, 1, 6], false), ([0, 10], false), ([2, 7], false), ([0, 6], false), ([3, 2], false), ([1], false)] (by kernel_rfl) (by kernel_rfl) ?_
    apply segs_cons
    · intro W hW
      skip
      have p0 := (HP.out.ext hW.of_drew).cell (i := 0) rfl
      have p1 := (HP.out.ext hW.of_drew).cell (i := 1) rfl
      have p2 := (HP.out.ext hW.of_drew).cell (i := 2) rfl
      have p3 := (HP.out.ext hW.of_drew).cell (i := 3) rfl
      have p4 := (HP.out.ext hW.of_drew).cell (i := 4) rfl
      have p5 := (HP.out.ext hW.of_drew).cell (i := 5) rfl
      simp only [runsT, runsF, rep, pick]
      go_wp2_with fail
      exact ⟨rfl, rfl⟩
    simp only [runsT, runsF, rep, left]
    go_wp2_with fail
    refine (size_any _ _ _ (H1.out.ext (Ext.drew _))).mono ?_
    rintro e w' ⟨rfl, rfl⟩
    go_wp2_with fail
    refine ⟨fun _ => Ext.refl _, ?_⟩
    apply segs_cons
    · intro W hW
      exact ⟨rfl, rfl⟩
    simp only [runsT, runsF, rep, left]
    go_wp2_with fail
    refine (size_any _ _ _ (H2.out.ext (Ext.drew _))).mono ?_
    rintro e w' ⟨rfl, rfl⟩
    go_wp2_with fail
    refine ⟨fun _ => Ext.refl _, ?_⟩
    apply segs_cons
    · intro W hW
      simp only [runsT, runsF, rep, pick]
      go_wp2_with fail
      exact ⟨rfl, rfl⟩
    simp only [runsT, runsF, rep, left]
    go_wp2_with fail
    refine (deep_any _ _ _ (H1.out.ext (Ext.drew _))).mono ?_
    rintro e w' ⟨rfl, rfl⟩
    go_wp2_with fail
    refine ⟨fun _ => Ext.refl _, ?_⟩
    apply segs_cons
    · intro W hW
      exact ⟨rfl, rfl⟩
    simp only [runsT, runsF, rep, left]
    go_wp2_with fail
    refine (deep_any _ _ _ (H2.out.ext (Ext.drew _))).mono ?_
    rintro e w' ⟨rfl, rfl⟩
    go_wp2_with fail
    refine ⟨fun _ => Ext.refl _, ?_⟩
    apply segs_cons
    · intro W hW
      simp only [runsT, runsF, rep, pick]
      go_wp2_with fail
      exact ⟨rfl, rfl⟩
    simp only [runsT, runsF, rep, left]
    go_wp2_with fail
    refine ⟨fun _ => (Below.refl _ _).alloc (Nat.le_refl _) _, ?_⟩
    apply segs_cons
    · intro W hW
      simp only [runsT, runsF, rep, pick]
      go_wp2_with fail
      exact ⟨rfl, rfl⟩
    simp only [runsT, runsF, rep, left]
    go_wp2_with fail
    have hs0 : ((w.alloc (Obj.cells #[.int .u64 v.1, .int .i64 v.2.1, .int .i64 v.2.2.1, .int .i64 v.2.2.2.1, .int .i64 v.2.2.2.2.1, .int .i64 v.2.2.2.2.2] 41))).heap.size = w.heap.size + 1 := by exact Array.size_push _
    have hB : Ext (w.alloc (Obj.cells #[.int .u64 v.1, .int .i64 v.2.1, .int .i64 v.2.2.1, .int .i64 v.2.2.2.1, .int .i64 v.2.2.2.2.1, .int .i64 v.2.2.2.2.2] 41)) (((w.alloc (Obj.cells #[.int .u64 v.1, .int .i64 v.2.1, .int .i64 v.2.2.1, .int .i64 v.2.2.2.1, .int .i64 v.2.2.2.2.1, .int .i64 v.2.2.2.2.2] 41)).alloc (Obj.cells #[.int .u64 k, .int .u64 v.1, .int .i64 v.2.1, .int .i64 v.2.2.1, .int .i64 v.2.2.2.1, .int .i64 v.2.2.2.2.1, .int .i64 v.2.2.2.2.2, .pointer pl, .pointer pr, .int .i64 (l.sz + r.sz + 1), .int .i64 (max l.dp r.dp + 1)] 163)).drew) := below_ext ((Below.refl _ _).alloc (Nat.le_refl _) _) (Ext.drew _)
    have hI : isT (((w.alloc (Obj.cells #[.int .u64 v.1, .int .i64 v.2.1, .int .i64 v.2.2.1, .int .i64 v.2.2.2.1, .int .i64 v.2.2.2.2.1, .int .i64 v.2.2.2.2.2] 41)).alloc (Obj.cells #[.int .u64 k, .int .u64 v.1, .int .i64 v.2.1, .int .i64 v.2.2.1, .int .i64 v.2.2.2.1, .int .i64 v.2.2.2.2.1, .int .i64 v.2.2.2.2.2, .pointer pl, .pointer pr, .int .i64 (l.sz + r.sz + 1), .int .i64 (max l.dp r.dp + 1)] 163)).drew) (some ⟨w.heap.size + 1, 0, none⟩) (.node k v l r) := by
      rw [← hs0]
      exact ⟨_, pl, pr, rfl, (Blk.new _ _ _).ext (Ext.drew _), H1.out.ext hB, H2.out.ext hB⟩
    first
      | (have e : max l.dp r.dp = l.dp := by omega)
      | (have e : max l.dp r.dp = r.dp := by omega)
    rw [e] at hI hB
    go_ret
    exact ⟨_, rfl, hI, hA.trans hB⟩
set_option maxRecDepth 100000 in
theorem leftUp_deep (w : World) (k : Int) (v : Int × Int × Int × Int × Int × Int) (b bm : Nat) (pr pll pml pmr : Option Addr) (ll ml mr r : T Int (Int × Int × Int × Int × Int × Int)) (lk mk : Int) (lv mv : Int × Int × Int × Int × Int × Int) (ln ld mn md : Int)
    (hb : NodeAt w b lk lv pll (some ⟨bm, 0, none⟩) ln ld) (hm : NodeAt w bm mk mv pml pmr mn md) (hM : isT w (some ⟨bm, 0, none⟩) (.node mk mv ml mr))
    (h1 : isT w pll ll) (h2 : isT w pml ml) (h3 : isT w pmr mr) (h4 : isT w pr r) (hd : ll.dp < (T.node mk mv ml mr).dp) (hs : ll.sz + ml.sz + mr.sz + r.sz < 900000000) :
    Calls Tryz.prog 167 #[.int .u64 k, .agg #[.int .u64 v.1, .int .i64 v.2.1, .int .i64 v.2.2.1, .int .i64 v.2.2.2.1, .int .i64 v.2.2.2.2.1, .int .i64 v.2.2.2.2.2], .pointer (some ⟨b, 0, none⟩), .pointer pr] w fun e w' => ∃ p, e = .returned (.pointer p) ∧ isT w' p (.node mk mv (.node lk lv ll ml) (.node k v mr r)) ∧ Ext w w' := by
  have g1 := ll.sz_nn
  have g2 := ml.sz_nn
  have g3 := mr.sz_nn
  have g4 := r.sz_nn
  have hD : decide (ll.dp < (T.node mk mv ml mr).dp) = true := decide_eq_true hd
  have hA : Ext w (w.alloc (Obj.cells #[.int .u64 v.1, .int .i64 v.2.1, .int .i64 v.2.2.1, .int .i64 v.2.2.2.1, .int .i64 v.2.2.2.2.1, .int .i64 v.2.2.2.2.2] 41)) := (Below.refl _ _).alloc (Nat.le_refl _) _
  have HP := Lib.hid (show Blk (w.alloc (Obj.cells #[.int .u64 v.1, .int .i64 v.2.1, .int .i64 v.2.2.1, .int .i64 v.2.2.2.1, .int .i64 v.2.2.2.2.1, .int .i64 v.2.2.2.2.2] 41)) w.heap.size #[.int .u64 v.1, .int .i64 v.2.1, .int .i64 v.2.2.1, .int .i64 v.2.2.2.1, .int .i64 v.2.2.2.2.1, .int .i64 v.2.2.2.2.2] 41 from Blk.new _ _ _)
  have c0 := (hb.ext hA).c0
  have c1 := (hb.ext hA).c1
  have c2 := (hb.ext hA).c2
  have c3 := (hb.ext hA).c3
  have c4 := (hb.ext hA).c4
  have c5 := (hb.ext hA).c5
  have c6 := (hb.ext hA).c6
  have c7 := (hb.ext hA).c7
  have c8 := (hb.ext hA).c8
  have c9 := (hb.ext hA).c9
  have c10 := (hb.ext hA).c10
  have HB := Lib.hid (hb.ext hA)
  have HN := Lib.hid (hm.ext hA)
  have H1 := Lib.hid (h1.ext hA)
  have H2 := Lib.hid (h2.ext hA)
  have H3 := Lib.hid (h3.ext hA)
  have H4 := Lib.hid (h4.ext hA)
  have HM := Lib.hid (hM.ext hA)
  clear h1 h2 h3 h4 hm hb hM hd
  go_enter Tryz.func167, Tryz.ntmps167
  go_wp2_with fail
  refine (deep_any _ _ _ H1.out).mono ?_; rintro e w' ⟨rfl, rfl⟩
  go_wp2_with fail
  refine (deep_any _ _ _ HM.out).mono ?_; rintro e w' ⟨rfl, rfl⟩
  go_wp2_with fail
  clear c0 c1 c2 c3 c4 c5 c6 c7 c8 c9 c10
  refine wp_region_segs 35 [([24, 1, 7, 3], false), ([0, 3], false), ([0, 2], false), ([1], false)] (by kernel_rfl) (by kernel_rfl) ?_
  apply segs_cons
  · intro W hW
    have c0 := (HB.out.ext hW.of_drew).c0
    have c1 := (HB.out.ext hW.of_drew).c1
    have c2 := (HB.out.ext hW.of_drew).c2
    have c3 := (HB.out.ext hW.of_drew).c3
    have c4 := (HB.out.ext hW.of_drew).c4
    have c5 := (HB.out.ext hW.of_drew).c5
    have c6 := (HB.out.ext hW.of_drew).c6
    have c7 := (HB.out.ext hW.of_drew).c7
    have c8 := (HB.out.ext hW.of_drew).c8
    have c9 := (HB.out.ext hW.of_drew).c9
    have c10 := (HB.out.ext hW.of_drew).c10
    have m0 := (HN.out.ext hW.of_drew).c0
    have m1 := (HN.out.ext hW.of_drew).c1
    have m2 := (HN.out.ext hW.of_drew).c2
    have m3 := (HN.out.ext hW.of_drew).c3
    have m4 := (HN.out.ext hW.of_drew).c4
    have m5 := (HN.out.ext hW.of_drew).c5
    have m6 := (HN.out.ext hW.of_drew).c6
    have m7 := (HN.out.ext hW.of_drew).c7
    have m8 := (HN.out.ext hW.of_drew).c8
    have m9 := (HN.out.ext hW.of_drew).c9
    have m10 := (HN.out.ext hW.of_drew).c10
    have p0 := (HP.out.ext hW.of_drew).cell (i := 0) rfl
    have p1 := (HP.out.ext hW.of_drew).cell (i := 1) rfl
    have p2 := (HP.out.ext hW.of_drew).cell (i := 2) rfl
    have p3 := (HP.out.ext hW.of_drew).cell (i := 3) rfl
    have p4 := (HP.out.ext hW.of_drew).cell (i := 4) rfl
    have p5 := (HP.out.ext hW.of_drew).cell (i := 5) rfl
    simp only [runsT, runsF, rep, pick]
    go_wp2_with fail
    exact ⟨rfl, rfl⟩
  simp only [runsT, runsF, rep, left]
  go_wp2_with fail
  refine (made_any _ _ _ _ _ _ _ (H1.out.ext (Ext.drew _)) (H2.out.ext (Ext.drew _)) (by omega)).mono ?_
  rintro e w1 ⟨p1, rfl, hp1, hE1⟩
  go_wp2_with fail
  refine ⟨fun _ => hE1, ?_⟩
  apply segs_cons
  · intro W hW
    exact ⟨rfl, rfl⟩
  simp only [runsT, runsF, rep, left]
  go_wp2_with fail
  refine (made_any _ _ _ _ _ _ _ (H3.out.ext ((Ext.drew _).trans hE1)) (H4.out.ext ((Ext.drew _).trans hE1)) (by omega)).mono ?_
  rintro e w2 ⟨p2, rfl, hp2, hE2⟩
  go_wp2_with fail
  refine ⟨fun _ => hE2, ?_⟩
  apply segs_cons
  · intro W hW
    exact ⟨rfl, rfl⟩
  simp only [runsT, runsF, rep, left]
  go_wp2_with fail
  refine (made_any _ _ _ _ _ (.node lk lv ll ml) (.node k v mr r) (hp1.ext hE2) hp2 (by simp only [T.sz]; omega)).mono ?_
  rintro e w3 ⟨p3, rfl, hp3, hE3⟩
  go_wp2_with fail
  refine ⟨fun _ => hE3, ?_⟩
  apply segs_cons
  · intro W hW
    simp only [runsT, runsF, rep, pick]
    go_wp2_with fail
    exact ⟨rfl, rfl⟩
  simp only [runsT, runsF, rep, left]
  go_wp2_with fail
  go_ret
  exact ⟨_, rfl, hp3, hA.trans ((((Ext.drew _).trans hE1).trans hE2).trans hE3)⟩
set_option maxRecDepth 100000 in
theorem leftUp_flat (w : World) (k : Int) (v : Int × Int × Int × Int × Int × Int) (b : Nat) (pr pll plr : Option Addr) (ll lr r : T Int (Int × Int × Int × Int × Int × Int)) (lk : Int) (lv : Int × Int × Int × Int × Int × Int) (ln ld : Int)
    (hb : NodeAt w b lk lv pll plr ln ld) (h1 : isT w pll ll) (h3 : isT w plr lr) (h4 : isT w pr r) (hd : ¬ ll.dp < lr.dp) (hs : ll.sz + lr.sz + r.sz < 900000000) :
    Calls Tryz.prog 167 #[.int .u64 k, .agg #[.int .u64 v.1, .int .i64 v.2.1, .int .i64 v.2.2.1, .int .i64 v.2.2.2.1, .int .i64 v.2.2.2.2.1, .int .i64 v.2.2.2.2.2], .pointer (some ⟨b, 0, none⟩), .pointer pr] w fun e w' => ∃ p, e = .returned (.pointer p) ∧ isT w' p (.node lk lv ll (.node k v lr r)) ∧ Ext w w' := by
  have g1 := ll.sz_nn
  have g2 := lr.sz_nn
  have g3 := r.sz_nn
  have g4 := r.sz_nn
  have hD : decide (ll.dp < lr.dp) = false := decide_eq_false hd
  have hA : Ext w (w.alloc (Obj.cells #[.int .u64 v.1, .int .i64 v.2.1, .int .i64 v.2.2.1, .int .i64 v.2.2.2.1, .int .i64 v.2.2.2.2.1, .int .i64 v.2.2.2.2.2] 41)) := (Below.refl _ _).alloc (Nat.le_refl _) _
  have HP := Lib.hid (show Blk (w.alloc (Obj.cells #[.int .u64 v.1, .int .i64 v.2.1, .int .i64 v.2.2.1, .int .i64 v.2.2.2.1, .int .i64 v.2.2.2.2.1, .int .i64 v.2.2.2.2.2] 41)) w.heap.size #[.int .u64 v.1, .int .i64 v.2.1, .int .i64 v.2.2.1, .int .i64 v.2.2.2.1, .int .i64 v.2.2.2.2.1, .int .i64 v.2.2.2.2.2] 41 from Blk.new _ _ _)
  have c0 := (hb.ext hA).c0
  have c1 := (hb.ext hA).c1
  have c2 := (hb.ext hA).c2
  have c3 := (hb.ext hA).c3
  have c4 := (hb.ext hA).c4
  have c5 := (hb.ext hA).c5
  have c6 := (hb.ext hA).c6
  have c7 := (hb.ext hA).c7
  have c8 := (hb.ext hA).c8
  have c9 := (hb.ext hA).c9
  have c10 := (hb.ext hA).c10
  have HB := Lib.hid (hb.ext hA)
  have H1 := Lib.hid (h1.ext hA)
  have H3 := Lib.hid (h3.ext hA)
  have H4 := Lib.hid (h4.ext hA)
  clear h1 h3 h4 hb hd
  go_enter Tryz.func167, Tryz.ntmps167
  go_wp2_with fail
  refine (deep_any _ _ _ H1.out).mono ?_; rintro e w' ⟨rfl, rfl⟩
  go_wp2_with fail
  refine (deep_any _ _ _ H3.out).mono ?_; rintro e w' ⟨rfl, rfl⟩
  go_wp2_with fail
  clear c0 c1 c2 c3 c4 c5 c6 c7 c8 c9 c10
  refine wp_region_segs 22 [([19, 3], false), ([0, 2], false), ([1], false)] (by kernel_rfl) (by kernel_rfl) ?_
  apply segs_cons
  · intro W hW
    have c0 := (HB.out.ext hW.of_drew).c0
    have c1 := (HB.out.ext hW.of_drew).c1
    have c2 := (HB.out.ext hW.of_drew).c2
    have c3 := (HB.out.ext hW.of_drew).c3
    have c4 := (HB.out.ext hW.of_drew).c4
    have c5 := (HB.out.ext hW.of_drew).c5
    have c6 := (HB.out.ext hW.of_drew).c6
    have c7 := (HB.out.ext hW.of_drew).c7
    have c8 := (HB.out.ext hW.of_drew).c8
    have c9 := (HB.out.ext hW.of_drew).c9
    have c10 := (HB.out.ext hW.of_drew).c10
    have p0 := (HP.out.ext hW.of_drew).cell (i := 0) rfl
    have p1 := (HP.out.ext hW.of_drew).cell (i := 1) rfl
    have p2 := (HP.out.ext hW.of_drew).cell (i := 2) rfl
    have p3 := (HP.out.ext hW.of_drew).cell (i := 3) rfl
    have p4 := (HP.out.ext hW.of_drew).cell (i := 4) rfl
    have p5 := (HP.out.ext hW.of_drew).cell (i := 5) rfl
    simp only [runsT, runsF, rep, pick]
    go_wp2_with fail
    exact ⟨rfl, rfl⟩
  simp only [runsT, runsF, rep, left]
  go_wp2_with fail
  refine (made_any _ _ _ _ _ _ _ (H3.out.ext (Ext.drew _)) (H4.out.ext (Ext.drew _)) (by omega)).mono ?_
  rintro e w1 ⟨p1, rfl, hp1, hE1⟩
  go_wp2_with fail
  refine ⟨fun _ => hE1, ?_⟩
  apply segs_cons
  · intro W hW
    exact ⟨rfl, rfl⟩
  simp only [runsT, runsF, rep, left]
  go_wp2_with fail
  refine (made_any _ _ _ _ _ ll (.node k v lr r) (H1.out.ext ((Ext.drew _).trans hE1)) hp1 (by simp only [T.sz]; omega)).mono ?_
  rintro e w2 ⟨p2, rfl, hp2, hE2⟩
  go_wp2_with fail
  refine ⟨fun _ => hE2, ?_⟩
  apply segs_cons
  · intro W hW
    simp only [runsT, runsF, rep, pick]
    go_wp2_with fail
    exact ⟨rfl, rfl⟩
  simp only [runsT, runsF, rep, left]
  go_wp2_with fail
  go_ret
  exact ⟨_, rfl, hp2, hA.trans (((Ext.drew _).trans hE1).trans hE2)⟩
theorem leftUp_any (w : World) (k : Int) (v : Int × Int × Int × Int × Int × Int) (pl pr : Option Addr) (l r : T Int (Int × Int × Int × Int × Int × Int)) (hl : isT w pl l) (hr : isT w pr r) (hd : 0 < l.dp) (hs : l.sz + r.sz < 900000000) :
    Calls Tryz.prog 167 #[.int .u64 k, .agg #[.int .u64 v.1, .int .i64 v.2.1, .int .i64 v.2.2.1, .int .i64 v.2.2.2.1, .int .i64 v.2.2.2.2.1, .int .i64 v.2.2.2.2.2], .pointer pl, .pointer pr] w fun e w' => ∃ p, e = .returned (.pointer p) ∧ isT w' p (T.leftUp k v l r) ∧ Ext w w' := by
  obtain ⟨lk, lv, ll, lr, rfl⟩ := T.dp_pos hd
  obtain ⟨b, pll, plr, rfl, hb, hll, hlr⟩ := isT_node hl
  simp only [T.sz] at hs
  by_cases h : ll.dp < lr.dp
  · obtain ⟨mk, mv, ml, mr, rfl⟩ := T.dp_pos (t := lr) (by have := ll.dp_nn; omega)
    obtain ⟨bm, pml, pmr, rfl, hm, hml, hmr⟩ := isT_node hlr
    have e : T.leftUp k v (.node lk lv ll (.node mk mv ml mr)) r = .node mk mv (.node lk lv ll ml) (.node k v mr r) := by simp only [T.leftUp]; rw [if_pos h]
    rw [e]
    simp only [T.sz] at hs
    exact leftUp_deep w k v b bm pr pll pml pmr ll ml mr r lk mk lv mv _ _ _ _ hb hm hlr hll hml hmr hr h (by omega)
  · have e : T.leftUp k v (.node lk lv ll lr) r = .node lk lv ll (.node k v lr r) := by simp only [T.leftUp]; rw [if_neg h]
    rw [e]
    exact leftUp_flat w k v b pr pll plr ll lr r lk lv _ _ hb hll hlr hr h (by omega)
set_option maxRecDepth 100000 in
theorem rightUp_deep (w : World) (k : Int) (v : Int × Int × Int × Int × Int × Int) (b bm : Nat) (pl prr pml pmr : Option Addr) (l ml mr rr : T Int (Int × Int × Int × Int × Int × Int)) (rk mk : Int) (rv mv : Int × Int × Int × Int × Int × Int) (rn rd mn md : Int)
    (hb : NodeAt w b rk rv (some ⟨bm, 0, none⟩) prr rn rd) (hm : NodeAt w bm mk mv pml pmr mn md) (hM : isT w (some ⟨bm, 0, none⟩) (.node mk mv ml mr))
    (h1 : isT w pl l) (h2 : isT w pml ml) (h3 : isT w pmr mr) (h4 : isT w prr rr) (hd : rr.dp < (T.node mk mv ml mr).dp) (hs : l.sz + ml.sz + mr.sz + rr.sz < 900000000) :
    Calls Tryz.prog 168 #[.int .u64 k, .agg #[.int .u64 v.1, .int .i64 v.2.1, .int .i64 v.2.2.1, .int .i64 v.2.2.2.1, .int .i64 v.2.2.2.2.1, .int .i64 v.2.2.2.2.2], .pointer pl, .pointer (some ⟨b, 0, none⟩)] w fun e w' => ∃ p, e = .returned (.pointer p) ∧ isT w' p (.node mk mv (.node k v l ml) (.node rk rv mr rr)) ∧ Ext w w' := by
  have g1 := l.sz_nn
  have g2 := ml.sz_nn
  have g3 := mr.sz_nn
  have g4 := rr.sz_nn
  have hD : decide (rr.dp < (T.node mk mv ml mr).dp) = true := decide_eq_true hd
  have hA : Ext w (w.alloc (Obj.cells #[.int .u64 v.1, .int .i64 v.2.1, .int .i64 v.2.2.1, .int .i64 v.2.2.2.1, .int .i64 v.2.2.2.2.1, .int .i64 v.2.2.2.2.2] 41)) := (Below.refl _ _).alloc (Nat.le_refl _) _
  have HP := Lib.hid (show Blk (w.alloc (Obj.cells #[.int .u64 v.1, .int .i64 v.2.1, .int .i64 v.2.2.1, .int .i64 v.2.2.2.1, .int .i64 v.2.2.2.2.1, .int .i64 v.2.2.2.2.2] 41)) w.heap.size #[.int .u64 v.1, .int .i64 v.2.1, .int .i64 v.2.2.1, .int .i64 v.2.2.2.1, .int .i64 v.2.2.2.2.1, .int .i64 v.2.2.2.2.2] 41 from Blk.new _ _ _)
  have c0 := (hb.ext hA).c0
  have c1 := (hb.ext hA).c1
  have c2 := (hb.ext hA).c2
  have c3 := (hb.ext hA).c3
  have c4 := (hb.ext hA).c4
  have c5 := (hb.ext hA).c5
  have c6 := (hb.ext hA).c6
  have c7 := (hb.ext hA).c7
  have c8 := (hb.ext hA).c8
  have c9 := (hb.ext hA).c9
  have c10 := (hb.ext hA).c10
  have HB := Lib.hid (hb.ext hA)
  have HN := Lib.hid (hm.ext hA)
  have H1 := Lib.hid (h1.ext hA)
  have H2 := Lib.hid (h2.ext hA)
  have H3 := Lib.hid (h3.ext hA)
  have H4 := Lib.hid (h4.ext hA)
  have HM := Lib.hid (hM.ext hA)
  clear h1 h2 h3 h4 hm hb hM hd
  go_enter Tryz.func168, Tryz.ntmps168
  go_wp2_with fail
  refine (deep_any _ _ _ H4.out).mono ?_; rintro e w' ⟨rfl, rfl⟩
  go_wp2_with fail
  refine (deep_any _ _ _ HM.out).mono ?_; rintro e w' ⟨rfl, rfl⟩
  go_wp2_with fail
  clear c0 c1 c2 c3 c4 c5 c6 c7 c8 c9 c10
  refine wp_region_segs 35 [([15, 1, 16, 3], false), ([0, 3], false), ([0, 2], false), ([1], false)] (by kernel_rfl) (by kernel_rfl) ?_
  apply segs_cons
  · intro W hW
    have c0 := (HB.out.ext hW.of_drew).c0
    have c1 := (HB.out.ext hW.of_drew).c1
    have c2 := (HB.out.ext hW.of_drew).c2
    have c3 := (HB.out.ext hW.of_drew).c3
    have c4 := (HB.out.ext hW.of_drew).c4
    have c5 := (HB.out.ext hW.of_drew).c5
    have c6 := (HB.out.ext hW.of_drew).c6
    have c7 := (HB.out.ext hW.of_drew).c7
    have c8 := (HB.out.ext hW.of_drew).c8
    have c9 := (HB.out.ext hW.of_drew).c9
    have c10 := (HB.out.ext hW.of_drew).c10
    have m0 := (HN.out.ext hW.of_drew).c0
    have m1 := (HN.out.ext hW.of_drew).c1
    have m2 := (HN.out.ext hW.of_drew).c2
    have m3 := (HN.out.ext hW.of_drew).c3
    have m4 := (HN.out.ext hW.of_drew).c4
    have m5 := (HN.out.ext hW.of_drew).c5
    have m6 := (HN.out.ext hW.of_drew).c6
    have m7 := (HN.out.ext hW.of_drew).c7
    have m8 := (HN.out.ext hW.of_drew).c8
    have m9 := (HN.out.ext hW.of_drew).c9
    have m10 := (HN.out.ext hW.of_drew).c10
    have p0 := (HP.out.ext hW.of_drew).cell (i := 0) rfl
    have p1 := (HP.out.ext hW.of_drew).cell (i := 1) rfl
    have p2 := (HP.out.ext hW.of_drew).cell (i := 2) rfl
    have p3 := (HP.out.ext hW.of_drew).cell (i := 3) rfl
    have p4 := (HP.out.ext hW.of_drew).cell (i := 4) rfl
    have p5 := (HP.out.ext hW.of_drew).cell (i := 5) rfl
    simp only [runsT, runsF, rep, pick]
    go_wp2_with fail
    exact ⟨rfl, rfl⟩
  simp only [runsT, runsF, rep, left]
  go_wp2_with fail
  refine (made_any _ _ _ _ _ _ _ (H1.out.ext (Ext.drew _)) (H2.out.ext (Ext.drew _)) (by omega)).mono ?_
  rintro e w1 ⟨p1, rfl, hp1, hE1⟩
  go_wp2_with fail
  refine ⟨fun _ => hE1, ?_⟩
  apply segs_cons
  · intro W hW
    exact ⟨rfl, rfl⟩
  simp only [runsT, runsF, rep, left]
  go_wp2_with fail
  refine (made_any _ _ _ _ _ _ _ (H3.out.ext ((Ext.drew _).trans hE1)) (H4.out.ext ((Ext.drew _).trans hE1)) (by omega)).mono ?_
  rintro e w2 ⟨p2, rfl, hp2, hE2⟩
  go_wp2_with fail
  refine ⟨fun _ => hE2, ?_⟩
  apply segs_cons
  · intro W hW
    exact ⟨rfl, rfl⟩
  simp only [runsT, runsF, rep, left]
  go_wp2_with fail
  refine (made_any _ _ _ _ _ (.node k v l ml) (.node rk rv mr rr) (hp1.ext hE2) hp2 (by simp only [T.sz]; omega)).mono ?_
  rintro e w3 ⟨p3, rfl, hp3, hE3⟩
  go_wp2_with fail
  refine ⟨fun _ => hE3, ?_⟩
  apply segs_cons
  · intro W hW
    simp only [runsT, runsF, rep, pick]
    go_wp2_with fail
    exact ⟨rfl, rfl⟩
  simp only [runsT, runsF, rep, left]
  go_wp2_with fail
  go_ret
  exact ⟨_, rfl, hp3, hA.trans ((((Ext.drew _).trans hE1).trans hE2).trans hE3)⟩
set_option maxRecDepth 100000 in
theorem rightUp_flat (w : World) (k : Int) (v : Int × Int × Int × Int × Int × Int) (b : Nat) (pl prl prr : Option Addr) (l rl rr : T Int (Int × Int × Int × Int × Int × Int)) (rk : Int) (rv : Int × Int × Int × Int × Int × Int) (rn rd : Int)
    (hb : NodeAt w b rk rv prl prr rn rd) (h1 : isT w pl l) (h3 : isT w prl rl) (h4 : isT w prr rr) (hd : ¬ rr.dp < rl.dp) (hs : l.sz + rl.sz + rr.sz < 900000000) :
    Calls Tryz.prog 168 #[.int .u64 k, .agg #[.int .u64 v.1, .int .i64 v.2.1, .int .i64 v.2.2.1, .int .i64 v.2.2.2.1, .int .i64 v.2.2.2.2.1, .int .i64 v.2.2.2.2.2], .pointer pl, .pointer (some ⟨b, 0, none⟩)] w fun e w' => ∃ p, e = .returned (.pointer p) ∧ isT w' p (.node rk rv (.node k v l rl) rr) ∧ Ext w w' := by
  have g1 := l.sz_nn
  have g2 := rl.sz_nn
  have g3 := rr.sz_nn
  have g4 := rr.sz_nn
  have hD : decide (rr.dp < rl.dp) = false := decide_eq_false hd
  have hA : Ext w (w.alloc (Obj.cells #[.int .u64 v.1, .int .i64 v.2.1, .int .i64 v.2.2.1, .int .i64 v.2.2.2.1, .int .i64 v.2.2.2.2.1, .int .i64 v.2.2.2.2.2] 41)) := (Below.refl _ _).alloc (Nat.le_refl _) _
  have HP := Lib.hid (show Blk (w.alloc (Obj.cells #[.int .u64 v.1, .int .i64 v.2.1, .int .i64 v.2.2.1, .int .i64 v.2.2.2.1, .int .i64 v.2.2.2.2.1, .int .i64 v.2.2.2.2.2] 41)) w.heap.size #[.int .u64 v.1, .int .i64 v.2.1, .int .i64 v.2.2.1, .int .i64 v.2.2.2.1, .int .i64 v.2.2.2.2.1, .int .i64 v.2.2.2.2.2] 41 from Blk.new _ _ _)
  have c0 := (hb.ext hA).c0
  have c1 := (hb.ext hA).c1
  have c2 := (hb.ext hA).c2
  have c3 := (hb.ext hA).c3
  have c4 := (hb.ext hA).c4
  have c5 := (hb.ext hA).c5
  have c6 := (hb.ext hA).c6
  have c7 := (hb.ext hA).c7
  have c8 := (hb.ext hA).c8
  have c9 := (hb.ext hA).c9
  have c10 := (hb.ext hA).c10
  have HB := Lib.hid (hb.ext hA)
  have H1 := Lib.hid (h1.ext hA)
  have H3 := Lib.hid (h3.ext hA)
  have H4 := Lib.hid (h4.ext hA)
  clear h1 h3 h4 hb hd
  go_enter Tryz.func168, Tryz.ntmps168
  go_wp2_with fail
  refine (deep_any _ _ _ H4.out).mono ?_; rintro e w' ⟨rfl, rfl⟩
  go_wp2_with fail
  refine (deep_any _ _ _ H3.out).mono ?_; rintro e w' ⟨rfl, rfl⟩
  go_wp2_with fail
  clear c0 c1 c2 c3 c4 c5 c6 c7 c8 c9 c10
  refine wp_region_segs 22 [([15, 1, 4, 2], false), ([0, 2], false), ([1], false)] (by kernel_rfl) (by kernel_rfl) ?_
  apply segs_cons
  · intro W hW
    have c0 := (HB.out.ext hW.of_drew).c0
    have c1 := (HB.out.ext hW.of_drew).c1
    have c2 := (HB.out.ext hW.of_drew).c2
    have c3 := (HB.out.ext hW.of_drew).c3
    have c4 := (HB.out.ext hW.of_drew).c4
    have c5 := (HB.out.ext hW.of_drew).c5
    have c6 := (HB.out.ext hW.of_drew).c6
    have c7 := (HB.out.ext hW.of_drew).c7
    have c8 := (HB.out.ext hW.of_drew).c8
    have c9 := (HB.out.ext hW.of_drew).c9
    have c10 := (HB.out.ext hW.of_drew).c10
    have p0 := (HP.out.ext hW.of_drew).cell (i := 0) rfl
    have p1 := (HP.out.ext hW.of_drew).cell (i := 1) rfl
    have p2 := (HP.out.ext hW.of_drew).cell (i := 2) rfl
    have p3 := (HP.out.ext hW.of_drew).cell (i := 3) rfl
    have p4 := (HP.out.ext hW.of_drew).cell (i := 4) rfl
    have p5 := (HP.out.ext hW.of_drew).cell (i := 5) rfl
    simp only [runsT, runsF, rep, pick]
    go_wp2_with fail
    exact ⟨rfl, rfl⟩
  simp only [runsT, runsF, rep, left]
  go_wp2_with fail
  refine (made_any _ _ _ _ _ _ _ (H1.out.ext (Ext.drew _)) (H3.out.ext (Ext.drew _)) (by omega)).mono ?_
  rintro e w1 ⟨p1, rfl, hp1, hE1⟩
  go_wp2_with fail
  refine ⟨fun _ => hE1, ?_⟩
  apply segs_cons
  · intro W hW
    exact ⟨rfl, rfl⟩
  simp only [runsT, runsF, rep, left]
  go_wp2_with fail
  refine (made_any _ _ _ _ _ (.node k v l rl) rr hp1 (H4.out.ext ((Ext.drew _).trans hE1)) (by simp only [T.sz]; omega)).mono ?_
  rintro e w2 ⟨p2, rfl, hp2, hE2⟩
  go_wp2_with fail
  refine ⟨fun _ => hE2, ?_⟩
  apply segs_cons
  · intro W hW
    simp only [runsT, runsF, rep, pick]
    go_wp2_with fail
    exact ⟨rfl, rfl⟩
  simp only [runsT, runsF, rep, left]
  go_wp2_with fail
  go_ret
  exact ⟨_, rfl, hp2, hA.trans (((Ext.drew _).trans hE1).trans hE2)⟩
theorem rightUp_any (w : World) (k : Int) (v : Int × Int × Int × Int × Int × Int) (pl pr : Option Addr) (l r : T Int (Int × Int × Int × Int × Int × Int)) (hl : isT w pl l) (hr : isT w pr r) (hd : 0 < r.dp) (hs : l.sz + r.sz < 900000000) :
    Calls Tryz.prog 168 #[.int .u64 k, .agg #[.int .u64 v.1, .int .i64 v.2.1, .int .i64 v.2.2.1, .int .i64 v.2.2.2.1, .int .i64 v.2.2.2.2.1, .int .i64 v.2.2.2.2.2], .pointer pl, .pointer pr] w fun e w' => ∃ p, e = .returned (.pointer p) ∧ isT w' p (T.rightUp k v l r) ∧ Ext w w' := by
  obtain ⟨rk, rv, rl, rr, rfl⟩ := T.dp_pos hd
  obtain ⟨b, prl, prr, rfl, hb, hrl, hrr⟩ := isT_node hr
  simp only [T.sz] at hs
  by_cases h : rr.dp < rl.dp
  · obtain ⟨mk, mv, ml, mr, rfl⟩ := T.dp_pos (t := rl) (by have := rr.dp_nn; omega)
    obtain ⟨bm, pml, pmr, rfl, hm, hml, hmr⟩ := isT_node hrl
    have e : T.rightUp k v l (.node rk rv (.node mk mv ml mr) rr) = .node mk mv (.node k v l ml) (.node rk rv mr rr) := by simp only [T.rightUp]; rw [if_pos h]
    rw [e]
    simp only [T.sz] at hs
    exact rightUp_deep w k v b bm pl prr pml pmr l ml mr rr rk mk rv mv _ _ _ _ hb hm hrl hl hml hmr hrr h (by omega)
  · have e : T.rightUp k v l (.node rk rv rl rr) = .node rk rv (.node k v l rl) rr := by simp only [T.rightUp]; rw [if_neg h]
    rw [e]
    exact rightUp_flat w k v b pl prl prr l rl rr rk rv _ _ hb hl hrl hrr h (by omega)
theorem joined_any (w : World) (k : Int) (v : Int × Int × Int × Int × Int × Int) (pl pr : Option Addr) (l r : T Int (Int × Int × Int × Int × Int × Int)) (hl : isT w pl l) (hr : isT w pr r) (hs : l.sz + r.sz < 900000000) :
    Calls Tryz.prog 142 #[.int .u64 k, .agg #[.int .u64 v.1, .int .i64 v.2.1, .int .i64 v.2.2.1, .int .i64 v.2.2.2.1, .int .i64 v.2.2.2.2.1, .int .i64 v.2.2.2.2.2], .pointer pl, .pointer pr] w fun e w' => ∃ p, e = .returned (.pointer p) ∧ isT w' p (T.joined k v l r) ∧ Ext w w' := by
  have h3 := l.dp_nn
  have h4 := r.dp_nn
  have h5 := l.dp_le_sz
  have h6 := r.dp_le_sz
  have h7 := l.sz_nn
  have h8 := r.sz_nn
  have hA : Ext w (w.alloc (Obj.cells #[.int .u64 v.1, .int .i64 v.2.1, .int .i64 v.2.2.1, .int .i64 v.2.2.2.1, .int .i64 v.2.2.2.2.1, .int .i64 v.2.2.2.2.2] 41)) := (Below.refl _ _).alloc (Nat.le_refl _) _
  have HP := Lib.hid (show Blk (w.alloc (Obj.cells #[.int .u64 v.1, .int .i64 v.2.1, .int .i64 v.2.2.1, .int .i64 v.2.2.2.1, .int .i64 v.2.2.2.2.1, .int .i64 v.2.2.2.2.2] 41)) w.heap.size #[.int .u64 v.1, .int .i64 v.2.1, .int .i64 v.2.2.1, .int .i64 v.2.2.2.1, .int .i64 v.2.2.2.2.1, .int .i64 v.2.2.2.2.2] 41 from Blk.new _ _ _)
  have p0 := HP.out.cell (i := 0) rfl
  have p1 := HP.out.cell (i := 1) rfl
  have p2 := HP.out.cell (i := 2) rfl
  have p3 := HP.out.cell (i := 3) rfl
  have p4 := HP.out.cell (i := 4) rfl
  have p5 := HP.out.cell (i := 5) rfl
  have H1 := Lib.hid (hl.ext hA)
  have H2 := Lib.hid (hr.ext hA)
  clear hl hr
  by_cases c1 : l.dp - r.dp > 1
  · have e : T.joined k v l r = T.leftUp k v l r := by unfold T.joined; rw [if_pos c1]
    rw [e]
    have hd : decide (1 < l.dp - r.dp) = true := decide_eq_true c1
    clear e
    go_enter Tryz.func142, Tryz.ntmps142
    go_wp2_with fail
    refine (deep_any _ _ _ H1.out).mono ?_; rintro e w' ⟨rfl, rfl⟩
    go_wp2_with fail
    refine (deep_any _ _ _ H2.out).mono ?_; rintro e w' ⟨rfl, rfl⟩
    go_wp2_with fail
    refine (leftUp_any _ _ _ _ _ _ _ H1.out H2.out (by omega) hs).mono ?_
    rintro e w1 ⟨p1, rfl, hp1, hE1⟩
    go_wp2_with fail
    go_ret
    exact ⟨_, rfl, hp1, hA.trans hE1⟩
  · by_cases c2 : l.dp - r.dp < -1
    · have e : T.joined k v l r = T.rightUp k v l r := by unfold T.joined; rw [if_neg c1, if_pos c2]
      rw [e]
      have hd : decide (1 < l.dp - r.dp) = false := decide_eq_false c1
      have hd2 : decide (l.dp - r.dp < -1) = true := decide_eq_true c2
      clear e
      go_enter Tryz.func142, Tryz.ntmps142
      go_wp2_with fail
      refine (deep_any _ _ _ H1.out).mono ?_; rintro e w' ⟨rfl, rfl⟩
      go_wp2_with fail
      refine (deep_any _ _ _ H2.out).mono ?_; rintro e w' ⟨rfl, rfl⟩
      go_wp2_with fail
      refine (rightUp_any _ _ _ _ _ _ _ H1.out H2.out (by omega) hs).mono ?_
      rintro e w1 ⟨p1, rfl, hp1, hE1⟩
      go_wp2_with fail
      go_ret
      exact ⟨_, rfl, hp1, hA.trans hE1⟩
    · have e : T.joined k v l r = .node k v l r := by unfold T.joined; rw [if_neg c1, if_neg c2]
      rw [e]
      have hd : decide (1 < l.dp - r.dp) = false := decide_eq_false c1
      have hd2 : decide (l.dp - r.dp < -1) = false := decide_eq_false c2
      clear e
      go_enter Tryz.func142, Tryz.ntmps142
      go_wp2_with fail
      refine (deep_any _ _ _ H1.out).mono ?_; rintro e w' ⟨rfl, rfl⟩
      go_wp2_with fail
      refine (deep_any _ _ _ H2.out).mono ?_; rintro e w' ⟨rfl, rfl⟩
      go_wp2_with fail
      refine (made_any _ _ _ _ _ _ _ H1.out H2.out (by omega)).mono ?_
      rintro e w1 ⟨p1, rfl, hp1, hE1⟩
      go_wp2_with fail
      go_ret
      exact ⟨_, rfl, hp1, hA.trans hE1⟩
/-- The tree's own block. -/
def TreeAt (w : World) (b : Nat) (root : Option Addr) : Prop := Blk w b #[.func (.func 94) #[] #[], .pointer root] 167
theorem TreeAt.ext {w w' : World} {b : Nat} {root : Option Addr} (h : TreeAt w b root) (e : Ext w w') : TreeAt w' b root := Blk.ext h e
theorem TreeAt.c0 {w : World} {b : Nat} {root : Option Addr} (h : TreeAt w b root) : w.cell? ⟨b, 0, none⟩ = some (.func (.func 94) #[] #[]) := Blk.cell h rfl
theorem TreeAt.c1 {w : World} {b : Nat} {root : Option Addr} (h : TreeAt w b root) : w.cell? ⟨b, 1, none⟩ = some (.pointer root) := Blk.cell h rfl
/-- A tree of these keys and things. -/
def isTree (w : World) (p : Option Addr) (t : T Int (Int × Int × Int × Int × Int × Int)) : Prop := ∃ b root, p = some ⟨b, 0, none⟩ ∧ TreeAt w b root ∧ isT w root t
theorem isTree.ext {w w' : World} (e : Ext w w') {t : T Int (Int × Int × Int × Int × Int × Int)} {p : Option Addr} : isTree w p t → isTree w' p t := fun ⟨b, root, hp, hb, ht⟩ => ⟨b, root, hp, hb.ext e, ht.ext e⟩
theorem isT.chg {S : Nat → Prop} {w w' : World} (hc : Chg S w w') (hn : Off S w 163) : ∀ {t : T Int (Int × Int × Int × Int × Int × Int)} {p : Option Addr}, isT w p t → isT w' p t
  | .nil, _, hp => hp
  | .node _ _ _ _, _, ⟨b, pl, pr, hp, hb, hl, hr⟩ => ⟨b, pl, pr, hp, Blk.chg hb hc hn, hl.chg hc hn, hr.chg hc hn⟩
theorem isTree.chg {S : Nat → Prop} {w w' : World} (hc : Chg S w w') (hn : Off S w 163) (hn' : Off S w 167) {t : T Int (Int × Int × Int × Int × Int × Int)} {p : Option Addr} : isTree w p t → isTree w' p t := fun ⟨b, root, hp, hb, ht⟩ => ⟨b, root, hp, Blk.chg hb hc hn', ht.chg hc hn⟩
theorem nan_any (a : Int) (w : World) : Calls Tryz.prog 125 #[.int .u64 a] w fun e w' => e = .returned (.bool false) ∧ w = w' := by
  go_enter Tryz.func125, Tryz.ntmps125
  go_wp2
  go_ret
  exact ⟨rfl, rfl⟩
theorem cmp_any (a b : Int) (w : World) : Calls Tryz.prog 94 #[.int .u64 a, .int .u64 b] w fun e w' => e = .returned (.int .i64 (cint a b)) ∧ w = w' := by
  go_enter Tryz.func94, Tryz.ntmps94
  go_wp2_with (go_at_call 125; refine (nan_any _ _).mono ?_; rintro e w' ⟨rfl, rfl⟩)
  all_goals
    go_ret
    refine ⟨?_, rfl⟩
    unfold cint
    first
      | (rw [if_pos (by omega)]; rfl)
      | (rw [if_neg (by omega), if_pos (by omega)]; rfl)
      | (rw [if_neg (by omega), if_neg (by omega)]; rfl)
set_option maxRecDepth 100000 in
theorem put_any (k : Int) (v : Int × Int × Int × Int × Int × Int) : ∀ (t : T Int (Int × Int × Int × Int × Int × Int)) (p : Option Addr) (w : World) (tb : Nat) (root : Option Addr), isT w p t → TreeAt w tb root → t.sz < 800000000 →
    Calls Tryz.prog 119 #[.pointer (some ⟨tb, 0, none⟩), .pointer p, .int .u64 k, .agg #[.int .u64 v.1, .int .i64 v.2.1, .int .i64 v.2.2.1, .int .i64 v.2.2.2.1, .int .i64 v.2.2.2.2.1, .int .i64 v.2.2.2.2.2]] w fun e w' => ∃ q, e = .returned (.pointer q) ∧ isT w' q (T.put cint k v t) ∧ Ext w w' := by
  intro t
  induction t with
  | nil =>
    intro p w tb root hp hT _
    obtain rfl := hp
    clear hT
    have hA : Ext w (w.alloc (Obj.cells #[.int .u64 v.1, .int .i64 v.2.1, .int .i64 v.2.2.1, .int .i64 v.2.2.2.1, .int .i64 v.2.2.2.2.1, .int .i64 v.2.2.2.2.2] 41)) := (Below.refl _ _).alloc (Nat.le_refl _) _
    have HP := Lib.hid (show Blk (w.alloc (Obj.cells #[.int .u64 v.1, .int .i64 v.2.1, .int .i64 v.2.2.1, .int .i64 v.2.2.2.1, .int .i64 v.2.2.2.2.1, .int .i64 v.2.2.2.2.2] 41)) w.heap.size #[.int .u64 v.1, .int .i64 v.2.1, .int .i64 v.2.2.1, .int .i64 v.2.2.2.1, .int .i64 v.2.2.2.2.1, .int .i64 v.2.2.2.2.2] 41 from Blk.new _ _ _)
    have p0 := HP.out.cell (i := 0) rfl
    have p1 := HP.out.cell (i := 1) rfl
    have p2 := HP.out.cell (i := 2) rfl
    have p3 := HP.out.cell (i := 3) rfl
    have p4 := HP.out.cell (i := 4) rfl
    have p5 := HP.out.cell (i := 5) rfl
    go_enter Tryz.func119, Tryz.ntmps119
    go_wp2_with fail
    refine (made_any _ _ _ _ _ .nil .nil rfl rfl (by simp [T.sz])).mono ?_
    rintro e w1 ⟨p1, rfl, hp1, hE1⟩
    go_wp2_with fail
    go_ret
    exact ⟨_, rfl, hp1, hA.trans hE1⟩
  | node xk xv l r ihl ihr =>
    intro p w tb root hp hT hs
    obtain ⟨b, pl, pr, rfl, hb, hl, hr⟩ := isT_node hp
    simp only [T.sz] at hs
    have g1 := l.sz_nn
    have g2 := r.sz_nn
    have hA : Ext w (w.alloc (Obj.cells #[.int .u64 v.1, .int .i64 v.2.1, .int .i64 v.2.2.1, .int .i64 v.2.2.2.1, .int .i64 v.2.2.2.2.1, .int .i64 v.2.2.2.2.2] 41)) := (Below.refl _ _).alloc (Nat.le_refl _) _
    have HP := Lib.hid (show Blk (w.alloc (Obj.cells #[.int .u64 v.1, .int .i64 v.2.1, .int .i64 v.2.2.1, .int .i64 v.2.2.2.1, .int .i64 v.2.2.2.2.1, .int .i64 v.2.2.2.2.2] 41)) w.heap.size #[.int .u64 v.1, .int .i64 v.2.1, .int .i64 v.2.2.1, .int .i64 v.2.2.2.1, .int .i64 v.2.2.2.2.1, .int .i64 v.2.2.2.2.2] 41 from Blk.new _ _ _)
    have p0 := HP.out.cell (i := 0) rfl
    have p1 := HP.out.cell (i := 1) rfl
    have p2 := HP.out.cell (i := 2) rfl
    have p3 := HP.out.cell (i := 3) rfl
    have p4 := HP.out.cell (i := 4) rfl
    have p5 := HP.out.cell (i := 5) rfl
    have HB := Lib.hid (hb.ext hA)
    have HT := Lib.hid (hT.ext hA)
    have H1 := Lib.hid (hl.ext hA)
    have H2 := Lib.hid (hr.ext hA)
    have IHL0 := Lib.hid ihl
    have IHR0 := Lib.hid ihr
    clear hb hT hl hr hp ihl ihr
    by_cases q1 : cint k xk < 0
    · have e : T.put cint k v (.node xk xv l r) = T.joined xk xv (T.put cint k v l) r := by simp only [T.put]; rw [if_pos q1]
      rw [e]
      have hd : decide (cint k xk < 0) = true := decide_eq_true q1
      clear e
      go_enter Tryz.func119, Tryz.ntmps119
      go_wp2_with fail
      refine wp_region_segs 11 [([9, 2], false), ([1], false)] (by kernel_rfl) (by kernel_rfl) ?_
      apply segs_cons
      · intro W hW
        have c0 := (HB.out.ext hW.of_drew).c0
        have c1 := (HB.out.ext hW.of_drew).c1
        have c2 := (HB.out.ext hW.of_drew).c2
        have c3 := (HB.out.ext hW.of_drew).c3
        have c4 := (HB.out.ext hW.of_drew).c4
        have c5 := (HB.out.ext hW.of_drew).c5
        have c6 := (HB.out.ext hW.of_drew).c6
        have c7 := (HB.out.ext hW.of_drew).c7
        have c8 := (HB.out.ext hW.of_drew).c8
        have c9 := (HB.out.ext hW.of_drew).c9
        have c10 := (HB.out.ext hW.of_drew).c10
        have t0 := (HT.out.ext hW.of_drew).c0
        have t1 := (HT.out.ext hW.of_drew).c1
        have p0 := (HP.out.ext hW.of_drew).cell (i := 0) rfl
        have p1 := (HP.out.ext hW.of_drew).cell (i := 1) rfl
        have p2 := (HP.out.ext hW.of_drew).cell (i := 2) rfl
        have p3 := (HP.out.ext hW.of_drew).cell (i := 3) rfl
        have p4 := (HP.out.ext hW.of_drew).cell (i := 4) rfl
        have p5 := (HP.out.ext hW.of_drew).cell (i := 5) rfl
        simp only [runsT, runsF, rep, pick]
        go_wp2_with fail
        exact ⟨rfl, rfl⟩
      simp only [runsT, runsF, rep, left]
      go_wp2_with fail
      refine (cmp_any _ _ _).mono ?_
      rintro e w' ⟨rfl, rfl⟩
      go_wp2_with fail
      refine ⟨fun _ => Ext.refl _, ?_⟩
      apply segs_cons
      · intro W hW
        simp only [runsT, runsF, rep, pick]
        go_wp2_with fail
        exact ⟨rfl, rfl⟩
      simp only [runsT, runsF, rep, left]
      go_wp2_with fail
      have IHL := IHL0.out
      refine wp_region_segs 22 [([15, 1, 4, 2], false), ([0, 2], false), ([1], false)] (by kernel_rfl) (by kernel_rfl) ?_
      apply segs_cons
      · intro W hW
        have c0 := (HB.out.ext ((Ext.drew _).trans hW.of_drew)).c0
        have c1 := (HB.out.ext ((Ext.drew _).trans hW.of_drew)).c1
        have c2 := (HB.out.ext ((Ext.drew _).trans hW.of_drew)).c2
        have c3 := (HB.out.ext ((Ext.drew _).trans hW.of_drew)).c3
        have c4 := (HB.out.ext ((Ext.drew _).trans hW.of_drew)).c4
        have c5 := (HB.out.ext ((Ext.drew _).trans hW.of_drew)).c5
        have c6 := (HB.out.ext ((Ext.drew _).trans hW.of_drew)).c6
        have c7 := (HB.out.ext ((Ext.drew _).trans hW.of_drew)).c7
        have c8 := (HB.out.ext ((Ext.drew _).trans hW.of_drew)).c8
        have c9 := (HB.out.ext ((Ext.drew _).trans hW.of_drew)).c9
        have c10 := (HB.out.ext ((Ext.drew _).trans hW.of_drew)).c10
        have p0 := (HP.out.ext ((Ext.drew _).trans hW.of_drew)).cell (i := 0) rfl
        have p1 := (HP.out.ext ((Ext.drew _).trans hW.of_drew)).cell (i := 1) rfl
        have p2 := (HP.out.ext ((Ext.drew _).trans hW.of_drew)).cell (i := 2) rfl
        have p3 := (HP.out.ext ((Ext.drew _).trans hW.of_drew)).cell (i := 3) rfl
        have p4 := (HP.out.ext ((Ext.drew _).trans hW.of_drew)).cell (i := 4) rfl
        have p5 := (HP.out.ext ((Ext.drew _).trans hW.of_drew)).cell (i := 5) rfl
        simp only [runsT, runsF, rep, pick]
        go_wp2_with fail
        exact ⟨rfl, rfl⟩
      simp only [runsT, runsF, rep, left]
      go_wp2_with fail
      refine (IHL pl _ tb root (H1.out.ext ((Ext.drew _).trans (Ext.drew _))) (HT.out.ext ((Ext.drew _).trans (Ext.drew _))) (by omega)).mono ?_
      rintro e w1 ⟨p1, rfl, hp1, hE1⟩
      go_wp2_with fail
      refine ⟨fun _ => hE1, ?_⟩
      apply segs_cons
      · intro W hW
        exact ⟨rfl, rfl⟩
      simp only [runsT, runsF, rep, left]
      go_wp2_with fail
      refine (joined_any _ _ _ _ _ _ _ hp1 (H2.out.ext (((Ext.drew _).trans (Ext.drew _)).trans hE1)) (by have := T.sz_put_le cint k v l; omega)).mono ?_
      rintro e w2 ⟨p2, rfl, hp2, hE2⟩
      go_wp2_with fail
      refine ⟨fun _ => hE2, ?_⟩
      apply segs_cons
      · intro W hW
        simp only [runsT, runsF, rep, pick]
        go_wp2_with fail
        exact ⟨rfl, rfl⟩
      simp only [runsT, runsF, rep, left]
      go_wp2_with fail
      go_ret
      exact ⟨_, rfl, hp2, hA.trans ((((Ext.drew _).trans (Ext.drew _)).trans hE1).trans hE2)⟩
    · by_cases q2 : cint k xk > 0
      · have e : T.put cint k v (.node xk xv l r) = T.joined xk xv l (T.put cint k v r) := by simp only [T.put]; rw [if_neg q1, if_pos q2]
        rw [e]
        have hd : decide (cint k xk < 0) = false := decide_eq_false q1
        have hd2 : decide (0 < cint k xk) = true := decide_eq_true q2
        clear e
        go_enter Tryz.func119, Tryz.ntmps119
        go_wp2_with fail
        refine wp_region_segs 11 [([9, 2], false), ([1], false)] (by kernel_rfl) (by kernel_rfl) ?_
        apply segs_cons
        · intro W hW
          have c0 := (HB.out.ext hW.of_drew).c0
          have c1 := (HB.out.ext hW.of_drew).c1
          have c2 := (HB.out.ext hW.of_drew).c2
          have c3 := (HB.out.ext hW.of_drew).c3
          have c4 := (HB.out.ext hW.of_drew).c4
          have c5 := (HB.out.ext hW.of_drew).c5
          have c6 := (HB.out.ext hW.of_drew).c6
          have c7 := (HB.out.ext hW.of_drew).c7
          have c8 := (HB.out.ext hW.of_drew).c8
          have c9 := (HB.out.ext hW.of_drew).c9
          have c10 := (HB.out.ext hW.of_drew).c10
          have t0 := (HT.out.ext hW.of_drew).c0
          have t1 := (HT.out.ext hW.of_drew).c1
          have p0 := (HP.out.ext hW.of_drew).cell (i := 0) rfl
          have p1 := (HP.out.ext hW.of_drew).cell (i := 1) rfl
          have p2 := (HP.out.ext hW.of_drew).cell (i := 2) rfl
          have p3 := (HP.out.ext hW.of_drew).cell (i := 3) rfl
          have p4 := (HP.out.ext hW.of_drew).cell (i := 4) rfl
          have p5 := (HP.out.ext hW.of_drew).cell (i := 5) rfl
          simp only [runsT, runsF, rep, pick]
          go_wp2_with fail
          exact ⟨rfl, rfl⟩
        simp only [runsT, runsF, rep, left]
        go_wp2_with fail
        refine (cmp_any _ _ _).mono ?_
        rintro e w' ⟨rfl, rfl⟩
        go_wp2_with fail
        refine ⟨fun _ => Ext.refl _, ?_⟩
        apply segs_cons
        · intro W hW
          simp only [runsT, runsF, rep, pick]
          go_wp2_with fail
          exact ⟨rfl, rfl⟩
        simp only [runsT, runsF, rep, left]
        go_wp2_with fail
        have IHR := IHR0.out
        refine wp_region_segs 22 [([19, 3], false), ([0, 2], false), ([1], false)] (by kernel_rfl) (by kernel_rfl) ?_
        apply segs_cons
        · intro W hW
          have c0 := (HB.out.ext ((Ext.drew _).trans hW.of_drew)).c0
          have c1 := (HB.out.ext ((Ext.drew _).trans hW.of_drew)).c1
          have c2 := (HB.out.ext ((Ext.drew _).trans hW.of_drew)).c2
          have c3 := (HB.out.ext ((Ext.drew _).trans hW.of_drew)).c3
          have c4 := (HB.out.ext ((Ext.drew _).trans hW.of_drew)).c4
          have c5 := (HB.out.ext ((Ext.drew _).trans hW.of_drew)).c5
          have c6 := (HB.out.ext ((Ext.drew _).trans hW.of_drew)).c6
          have c7 := (HB.out.ext ((Ext.drew _).trans hW.of_drew)).c7
          have c8 := (HB.out.ext ((Ext.drew _).trans hW.of_drew)).c8
          have c9 := (HB.out.ext ((Ext.drew _).trans hW.of_drew)).c9
          have c10 := (HB.out.ext ((Ext.drew _).trans hW.of_drew)).c10
          have p0 := (HP.out.ext ((Ext.drew _).trans hW.of_drew)).cell (i := 0) rfl
          have p1 := (HP.out.ext ((Ext.drew _).trans hW.of_drew)).cell (i := 1) rfl
          have p2 := (HP.out.ext ((Ext.drew _).trans hW.of_drew)).cell (i := 2) rfl
          have p3 := (HP.out.ext ((Ext.drew _).trans hW.of_drew)).cell (i := 3) rfl
          have p4 := (HP.out.ext ((Ext.drew _).trans hW.of_drew)).cell (i := 4) rfl
          have p5 := (HP.out.ext ((Ext.drew _).trans hW.of_drew)).cell (i := 5) rfl
          simp only [runsT, runsF, rep, pick]
          go_wp2_with fail
          exact ⟨rfl, rfl⟩
        simp only [runsT, runsF, rep, left]
        go_wp2_with fail
        refine (IHR pr _ tb root (H2.out.ext ((Ext.drew _).trans (Ext.drew _))) (HT.out.ext ((Ext.drew _).trans (Ext.drew _))) (by omega)).mono ?_
        rintro e w1 ⟨p1, rfl, hp1, hE1⟩
        go_wp2_with fail
        refine ⟨fun _ => hE1, ?_⟩
        apply segs_cons
        · intro W hW
          exact ⟨rfl, rfl⟩
        simp only [runsT, runsF, rep, left]
        go_wp2_with fail
        refine (joined_any _ _ _ _ _ _ _ (H1.out.ext (((Ext.drew _).trans (Ext.drew _)).trans hE1)) hp1 (by have := T.sz_put_le cint k v r; omega)).mono ?_
        rintro e w2 ⟨p2, rfl, hp2, hE2⟩
        go_wp2_with fail
        refine ⟨fun _ => hE2, ?_⟩
        apply segs_cons
        · intro W hW
          simp only [runsT, runsF, rep, pick]
          go_wp2_with fail
          exact ⟨rfl, rfl⟩
        simp only [runsT, runsF, rep, left]
        go_wp2_with fail
        go_ret
        exact ⟨_, rfl, hp2, hA.trans ((((Ext.drew _).trans (Ext.drew _)).trans hE1).trans hE2)⟩
      · have e : T.put cint k v (.node xk xv l r) = .node k v l r := by simp only [T.put]; rw [if_neg q1, if_neg q2]
        rw [e]
        have hd : decide (cint k xk < 0) = false := decide_eq_false q1
        have hd2 : decide (0 < cint k xk) = false := decide_eq_false q2
        clear e
        go_enter Tryz.func119, Tryz.ntmps119
        go_wp2_with fail
        refine wp_region_segs 11 [([9, 2], false), ([1], false)] (by kernel_rfl) (by kernel_rfl) ?_
        apply segs_cons
        · intro W hW
          have c0 := (HB.out.ext hW.of_drew).c0
          have c1 := (HB.out.ext hW.of_drew).c1
          have c2 := (HB.out.ext hW.of_drew).c2
          have c3 := (HB.out.ext hW.of_drew).c3
          have c4 := (HB.out.ext hW.of_drew).c4
          have c5 := (HB.out.ext hW.of_drew).c5
          have c6 := (HB.out.ext hW.of_drew).c6
          have c7 := (HB.out.ext hW.of_drew).c7
          have c8 := (HB.out.ext hW.of_drew).c8
          have c9 := (HB.out.ext hW.of_drew).c9
          have c10 := (HB.out.ext hW.of_drew).c10
          have t0 := (HT.out.ext hW.of_drew).c0
          have t1 := (HT.out.ext hW.of_drew).c1
          have p0 := (HP.out.ext hW.of_drew).cell (i := 0) rfl
          have p1 := (HP.out.ext hW.of_drew).cell (i := 1) rfl
          have p2 := (HP.out.ext hW.of_drew).cell (i := 2) rfl
          have p3 := (HP.out.ext hW.of_drew).cell (i := 3) rfl
          have p4 := (HP.out.ext hW.of_drew).cell (i := 4) rfl
          have p5 := (HP.out.ext hW.of_drew).cell (i := 5) rfl
          simp only [runsT, runsF, rep, pick]
          go_wp2_with fail
          exact ⟨rfl, rfl⟩
        simp only [runsT, runsF, rep, left]
        go_wp2_with fail
        refine (cmp_any _ _ _).mono ?_
        rintro e w' ⟨rfl, rfl⟩
        go_wp2_with fail
        refine ⟨fun _ => Ext.refl _, ?_⟩
        apply segs_cons
        · intro W hW
          simp only [runsT, runsF, rep, pick]
          go_wp2_with fail
          exact ⟨rfl, rfl⟩
        simp only [runsT, runsF, rep, left]
        go_wp2_with fail
        refine wp_region_segs 12 [([10, 2], false), ([1], false)] (by kernel_rfl) (by kernel_rfl) ?_
        apply segs_cons
        · intro W hW
          have c0 := (HB.out.ext ((Ext.drew _).trans hW.of_drew)).c0
          have c1 := (HB.out.ext ((Ext.drew _).trans hW.of_drew)).c1
          have c2 := (HB.out.ext ((Ext.drew _).trans hW.of_drew)).c2
          have c3 := (HB.out.ext ((Ext.drew _).trans hW.of_drew)).c3
          have c4 := (HB.out.ext ((Ext.drew _).trans hW.of_drew)).c4
          have c5 := (HB.out.ext ((Ext.drew _).trans hW.of_drew)).c5
          have c6 := (HB.out.ext ((Ext.drew _).trans hW.of_drew)).c6
          have c7 := (HB.out.ext ((Ext.drew _).trans hW.of_drew)).c7
          have c8 := (HB.out.ext ((Ext.drew _).trans hW.of_drew)).c8
          have c9 := (HB.out.ext ((Ext.drew _).trans hW.of_drew)).c9
          have c10 := (HB.out.ext ((Ext.drew _).trans hW.of_drew)).c10
          have p0 := (HP.out.ext ((Ext.drew _).trans hW.of_drew)).cell (i := 0) rfl
          have p1 := (HP.out.ext ((Ext.drew _).trans hW.of_drew)).cell (i := 1) rfl
          have p2 := (HP.out.ext ((Ext.drew _).trans hW.of_drew)).cell (i := 2) rfl
          have p3 := (HP.out.ext ((Ext.drew _).trans hW.of_drew)).cell (i := 3) rfl
          have p4 := (HP.out.ext ((Ext.drew _).trans hW.of_drew)).cell (i := 4) rfl
          have p5 := (HP.out.ext ((Ext.drew _).trans hW.of_drew)).cell (i := 5) rfl
          simp only [runsT, runsF, rep, pick]
          go_wp2_with fail
          exact ⟨rfl, rfl⟩
        simp only [runsT, runsF, rep, left]
        go_wp2_with fail
        refine (made_any _ _ _ _ _ _ _ (H1.out.ext ((Ext.drew _).trans (Ext.drew _))) (H2.out.ext ((Ext.drew _).trans (Ext.drew _))) (by omega)).mono ?_
        rintro e w1 ⟨p1, rfl, hp1, hE1⟩
        go_wp2_with fail
        refine ⟨fun _ => hE1, ?_⟩
        apply segs_cons
        · intro W hW
          simp only [runsT, runsF, rep, pick]
          go_wp2_with fail
          exact ⟨rfl, rfl⟩
        simp only [runsT, runsF, rep, left]
        go_wp2_with fail
        go_ret
        exact ⟨_, rfl, hp1, hA.trans (((Ext.drew _).trans (Ext.drew _)).trans hE1)⟩
set_option maxRecDepth 100000 in
theorem Put_any (k : Int) (v : Int × Int × Int × Int × Int × Int) (t : T Int (Int × Int × Int × Int × Int × Int)) (p : Option Addr) (w : World) (h : isTree w p t) (hs : t.sz < 800000000) :
    Calls Tryz.prog 87 #[.pointer p, .int .u64 k, .agg #[.int .u64 v.1, .int .i64 v.2.1, .int .i64 v.2.2.1, .int .i64 v.2.2.2.1, .int .i64 v.2.2.2.2.1, .int .i64 v.2.2.2.2.2]] w fun e w' => ∃ q, e = .returned (.pointer q) ∧ isTree w' q (T.put cint k v t) ∧ Ext w w' := by
  obtain ⟨tb, root, rfl, hT, hR⟩ := h
  have hA : Ext w (w.alloc (Obj.cells #[.int .u64 v.1, .int .i64 v.2.1, .int .i64 v.2.2.1, .int .i64 v.2.2.2.1, .int .i64 v.2.2.2.2.1, .int .i64 v.2.2.2.2.2] 41)) := (Below.refl _ _).alloc (Nat.le_refl _) _
  have HP := Lib.hid (show Blk (w.alloc (Obj.cells #[.int .u64 v.1, .int .i64 v.2.1, .int .i64 v.2.2.1, .int .i64 v.2.2.2.1, .int .i64 v.2.2.2.2.1, .int .i64 v.2.2.2.2.2] 41)) w.heap.size #[.int .u64 v.1, .int .i64 v.2.1, .int .i64 v.2.2.1, .int .i64 v.2.2.2.1, .int .i64 v.2.2.2.2.1, .int .i64 v.2.2.2.2.2] 41 from Blk.new _ _ _)
  have HT := Lib.hid (hT.ext hA)
  have H1 := Lib.hid (hR.ext hA)
  clear hT hR
  go_enter Tryz.func87, Tryz.ntmps87
  go_wp2_with fail
  refine wp_region_segs 15 [([11, 4], false), ([1, 2], false), ([1], false)] (by kernel_rfl) (by kernel_rfl) ?_
  apply segs_cons
  · intro W hW
    have t0 := (HT.out.ext hW.of_drew).c0
    have t1 := (HT.out.ext hW.of_drew).c1
    have p0 := (HP.out.ext hW.of_drew).cell (i := 0) rfl
    have p1 := (HP.out.ext hW.of_drew).cell (i := 1) rfl
    have p2 := (HP.out.ext hW.of_drew).cell (i := 2) rfl
    have p3 := (HP.out.ext hW.of_drew).cell (i := 3) rfl
    have p4 := (HP.out.ext hW.of_drew).cell (i := 4) rfl
    have p5 := (HP.out.ext hW.of_drew).cell (i := 5) rfl
    simp only [runsT, runsF, rep, pick]
    go_wp2_with fail
    exact ⟨rfl, rfl⟩
  simp only [runsT, runsF, rep, left]
  go_wp2_with fail
  refine (put_any _ _ _ _ _ tb root (H1.out.ext (Ext.drew _)) (HT.out.ext (Ext.drew _)) hs).mono ?_
  rintro e w1 ⟨p1, rfl, hp1, hE1⟩
  go_wp2_with fail
  refine ⟨fun _ => hE1, ?_⟩
  apply segs_cons
  · intro W hW
    simp only [runsT, runsF, rep, pick]
    go_wp2_with fail
    exact ⟨rfl, rfl⟩
  simp only [runsT, runsF, rep, left]
  go_wp2_with fail
  refine ⟨fun _ => (Below.refl _ _).alloc (Nat.le_refl _) _, ?_⟩
  apply segs_cons
  · intro W hW
    simp only [runsT, runsF, rep, pick]
    go_wp2_with fail
    exact ⟨rfl, rfl⟩
  simp only [runsT, runsF, rep, left]
  go_wp2_with fail
  go_ret
  have hB : Ext w1 (w1.alloc (Obj.cells #[.func (.func 94) #[] #[], .pointer p1] 167)) := (Below.refl _ _).alloc (Nat.le_refl _) _
  exact ⟨_, rfl, ⟨_, p1, rfl, Blk.new _ _ _, hp1.ext hB⟩, hA.trans (((Ext.drew _).trans hE1).trans hB)⟩
set_option maxRecDepth 100000 in
theorem first_any : ∀ (l : T Int (Int × Int × Int × Int × Int × Int)) (k : Int) (v : Int × Int × Int × Int × Int × Int) (r : T Int (Int × Int × Int × Int × Int × Int)) (p : Option Addr) (w : World), isT w p (.node k v l r) → l.sz + r.sz < 800000000 →
    Calls Tryz.prog 181 #[.pointer p] w fun e w' => ∃ q ql, e = .returned (.tuple #[.pointer q, .pointer ql]) ∧ isT w' q (T.first k v l r).1 ∧ (∃ b pl pr n d, ql = some ⟨b, 0, none⟩ ∧ NodeAt w' b (T.first k v l r).2.1 (T.first k v l r).2.2 pl pr n d) ∧ Ext w w' := by
  intro l
  induction l with
  | nil =>
    intro k v r p w hp _
    obtain ⟨b, pl, pr, rfl, hb, hl, hr⟩ := isT_node hp
    obtain rfl := hl
    have HB := Lib.hid hb
    have H2 := Lib.hid hr
    have c0 := hb.c0
    have c1 := hb.c1
    have c2 := hb.c2
    have c3 := hb.c3
    have c4 := hb.c4
    have c5 := hb.c5
    have c6 := hb.c6
    have c7 := hb.c7
    have c8 := hb.c8
    have c9 := hb.c9
    have c10 := hb.c10
    clear hb hr hp
    go_enter Tryz.func181, Tryz.ntmps181
    go_wp2_with fail
    go_ret2
    exact ⟨_, _, rfl, H2.out, ⟨b, _, _, _, _, rfl, HB.out⟩, Ext.refl _⟩
  | node lk lv ll lr ihl _ =>
    intro k v r p w hp hs
    obtain ⟨b, pl, pr, rfl, hb, hl, hr⟩ := isT_node hp
    simp only [T.sz] at hs
    have g1 := ll.sz_nn
    have g2 := lr.sz_nn
    have g3 := r.sz_nn
    have HB := Lib.hid hb
    have H1 := Lib.hid hl
    have H2 := Lib.hid hr
    obtain ⟨bl, pll, plr, rfl, _, _, _⟩ := isT_node hl
    have IHL0 := Lib.hid ihl
    have c0 := hb.c0
    have c1 := hb.c1
    have c2 := hb.c2
    have c3 := hb.c3
    have c4 := hb.c4
    have c5 := hb.c5
    have c6 := hb.c6
    have c7 := hb.c7
    have c8 := hb.c8
    have c9 := hb.c9
    have c10 := hb.c10
    clear hb hl hr hp ihl
    go_enter Tryz.func181, Tryz.ntmps181
    go_wp2_with fail
    refine (IHL0.out lk lv lr _ _ H1.out (by omega)).mono ?_
    rintro e w1 ⟨q1, ql1, rfl, hq1, ⟨b1, pl1, pr1, n1, d1, rfl, hN1⟩, hE1⟩
    go_wp2_with fail
    clear c0 c1 c2 c3 c4 c5 c6 c7 c8 c9 c10
    refine wp_region_segs 17 [([13, 1, 1, 2], false), ([2], false)] (by kernel_rfl) (by kernel_rfl) ?_
    apply segs_cons
    · intro W hW
      have c0 := (HB.out.ext (hE1.trans hW.of_drew)).c0
      have c1 := (HB.out.ext (hE1.trans hW.of_drew)).c1
      have c2 := (HB.out.ext (hE1.trans hW.of_drew)).c2
      have c3 := (HB.out.ext (hE1.trans hW.of_drew)).c3
      have c4 := (HB.out.ext (hE1.trans hW.of_drew)).c4
      have c5 := (HB.out.ext (hE1.trans hW.of_drew)).c5
      have c6 := (HB.out.ext (hE1.trans hW.of_drew)).c6
      have c7 := (HB.out.ext (hE1.trans hW.of_drew)).c7
      have c8 := (HB.out.ext (hE1.trans hW.of_drew)).c8
      have c9 := (HB.out.ext (hE1.trans hW.of_drew)).c9
      have c10 := (HB.out.ext (hE1.trans hW.of_drew)).c10
      simp only [runsT, runsF, rep, pick]
      go_wp2_with fail
      exact ⟨rfl, rfl⟩
    simp only [runsT, runsF, rep, left]
    go_wp2_with fail
    refine (joined_any _ _ _ _ _ _ _ (hq1.ext (Ext.drew _)) (H2.out.ext (hE1.trans (Ext.drew _))) (by have := T.sz_first ll lk lv lr; omega)).mono ?_
    rintro e w2 ⟨p2, rfl, hp2, hE2⟩
    go_wp2_with fail
    refine ⟨fun _ => hE2, ?_⟩
    apply segs_cons
    · intro W hW
      simp only [runsT, runsF, rep, pick]
      go_wp2_with fail
      exact ⟨rfl, rfl⟩
    simp only [runsT, runsF, rep, left]
    go_wp2_with fail
    go_ret2
    exact ⟨_, _, rfl, hp2, ⟨b1, _, _, _, _, rfl, hN1.ext ((Ext.drew _).trans hE2)⟩, (hE1.trans (Ext.drew _)).trans hE2⟩
set_option maxRecDepth 100000 in
theorem both_any (l r : T Int (Int × Int × Int × Int × Int × Int)) (p q : Option Addr) (w : World) (hl : isT w p l) (hr : isT w q r) (hs : l.sz + r.sz < 800000000) :
    Calls Tryz.prog 159 #[.pointer p, .pointer q] w fun e w' => ∃ s, e = .returned (.pointer s) ∧ isT w' s (T.both l r) ∧ Ext w w' := by
  have H1 := Lib.hid hl
  have H2 := Lib.hid hr
  cases l with
  | nil =>
    obtain rfl := hl
    clear hr
    go_enter Tryz.func159, Tryz.ntmps159
    go_wp2_with fail
    go_ret
    exact ⟨_, rfl, by rw [show T.both .nil r = r from by cases r <;> rfl]; exact H2.out, Ext.refl _⟩
  | node lk lv ll lr =>
    obtain ⟨b, pl, pr, rfl, _, _, _⟩ := isT_node hl
    cases r with
    | nil =>
      obtain rfl := hr
      clear hl
      go_enter Tryz.func159, Tryz.ntmps159
      go_wp2_with fail
      go_ret
      exact ⟨_, rfl, H1.out, Ext.refl _⟩
    | node rk rv rl rr =>
      obtain ⟨b2, pl2, pr2, rfl, _, _, _⟩ := isT_node hr
      simp only [T.sz] at hs
      have g1 := ll.sz_nn
      have g2 := lr.sz_nn
      have g3 := rl.sz_nn
      have g4 := rr.sz_nn
      clear hl hr
      go_enter Tryz.func159, Tryz.ntmps159
      go_wp2_with fail
      refine (first_any rl rk rv rr _ _ H2.out (by omega)).mono ?_
      rintro e w1 ⟨q1, ql1, rfl, hq1, ⟨b1, pl1, pr1, n1, d1, rfl, hN1⟩, hE1⟩
      go_wp2_with fail
      refine wp_region_segs 12 [([10, 2], false), ([1], false)] (by kernel_rfl) (by kernel_rfl) ?_
      apply segs_cons
      · intro W hW
        have c0 := (hN1.ext hW.of_drew).c0
        have c1 := (hN1.ext hW.of_drew).c1
        have c2 := (hN1.ext hW.of_drew).c2
        have c3 := (hN1.ext hW.of_drew).c3
        have c4 := (hN1.ext hW.of_drew).c4
        have c5 := (hN1.ext hW.of_drew).c5
        have c6 := (hN1.ext hW.of_drew).c6
        have c7 := (hN1.ext hW.of_drew).c7
        have c8 := (hN1.ext hW.of_drew).c8
        have c9 := (hN1.ext hW.of_drew).c9
        have c10 := (hN1.ext hW.of_drew).c10
        simp only [runsT, runsF, rep, pick]
        go_wp2_with fail
        exact ⟨rfl, rfl⟩
      simp only [runsT, runsF, rep, left]
      go_wp2_with fail
      refine (joined_any _ _ _ _ _ (.node lk lv ll lr) _ (H1.out.ext (hE1.trans (Ext.drew _))) (hq1.ext (Ext.drew _)) (by have := T.sz_first rl rk rv rr; simp only [T.sz]; omega)).mono ?_
      rintro e w2 ⟨p2, rfl, hp2, hE2⟩
      go_wp2_with fail
      refine ⟨fun _ => hE2, ?_⟩
      apply segs_cons
      · intro W hW
        simp only [runsT, runsF, rep, pick]
        go_wp2_with fail
        exact ⟨rfl, rfl⟩
      simp only [runsT, runsF, rep, left]
      go_wp2_with fail
      go_ret
      exact ⟨_, rfl, hp2, (hE1.trans (Ext.drew _)).trans hE2⟩
set_option maxRecDepth 100000 in
theorem drop_any (k : Int) : ∀ (t : T Int (Int × Int × Int × Int × Int × Int)) (p : Option Addr) (w : World) (tb : Nat) (root : Option Addr), isT w p t → TreeAt w tb root → t.sz < 800000000 →
    Calls Tryz.prog 137 #[.pointer (some ⟨tb, 0, none⟩), .pointer p, .int .u64 k] w fun e w' => ∃ q, e = .returned (.pointer q) ∧ isT w' q (T.drop cint k t) ∧ Ext w w' := by
  intro t
  induction t with
  | nil =>
    intro p w tb root hp hT _
    obtain rfl := hp
    clear hT
    go_enter Tryz.func137, Tryz.ntmps137
    go_wp2_with fail
    go_ret
    exact ⟨_, rfl, rfl, Ext.refl _⟩
  | node xk xv l r ihl ihr =>
    intro p w tb root hp hT hs
    obtain ⟨b, pl, pr, rfl, hb, hl, hr⟩ := isT_node hp
    simp only [T.sz] at hs
    have g1 := l.sz_nn
    have g2 := r.sz_nn
    have HB := Lib.hid hb
    have HT := Lib.hid hT
    have H1 := Lib.hid hl
    have H2 := Lib.hid hr
    have IHL0 := Lib.hid ihl
    have IHR0 := Lib.hid ihr
    clear hb hT hl hr hp ihl ihr
    by_cases q1 : cint k xk < 0
    · have e : T.drop cint k (.node xk xv l r) = T.joined xk xv (T.drop cint k l) r := by simp only [T.drop]; rw [if_pos q1]
      rw [e]
      have hd : decide (cint k xk < 0) = true := decide_eq_true q1
      clear e
      go_enter Tryz.func137, Tryz.ntmps137
      go_wp2_with fail
      refine wp_region_segs 11 [([9, 2], false), ([1], false)] (by kernel_rfl) (by kernel_rfl) ?_
      apply segs_cons
      · intro W hW
        have c0 := (HB.out.ext hW.of_drew).c0
        have c1 := (HB.out.ext hW.of_drew).c1
        have c2 := (HB.out.ext hW.of_drew).c2
        have c3 := (HB.out.ext hW.of_drew).c3
        have c4 := (HB.out.ext hW.of_drew).c4
        have c5 := (HB.out.ext hW.of_drew).c5
        have c6 := (HB.out.ext hW.of_drew).c6
        have c7 := (HB.out.ext hW.of_drew).c7
        have c8 := (HB.out.ext hW.of_drew).c8
        have c9 := (HB.out.ext hW.of_drew).c9
        have c10 := (HB.out.ext hW.of_drew).c10
        have t0 := (HT.out.ext hW.of_drew).c0
        have t1 := (HT.out.ext hW.of_drew).c1
        simp only [runsT, runsF, rep, pick]
        go_wp2_with fail
        exact ⟨rfl, rfl⟩
      simp only [runsT, runsF, rep, left]
      go_wp2_with fail
      refine (cmp_any _ _ _).mono ?_
      rintro e w' ⟨rfl, rfl⟩
      go_wp2_with fail
      refine ⟨fun _ => Ext.refl _, ?_⟩
      apply segs_cons
      · intro W hW
        simp only [runsT, runsF, rep, pick]
        go_wp2_with fail
        exact ⟨rfl, rfl⟩
      simp only [runsT, runsF, rep, left]
      go_wp2_with fail
      have IHL := IHL0.out
      refine wp_region_segs 21 [([14, 1, 4, 2], false), ([0, 2], false), ([1], false)] (by kernel_rfl) (by kernel_rfl) ?_
      apply segs_cons
      · intro W hW
        have c0 := (HB.out.ext ((Ext.drew _).trans hW.of_drew)).c0
        have c1 := (HB.out.ext ((Ext.drew _).trans hW.of_drew)).c1
        have c2 := (HB.out.ext ((Ext.drew _).trans hW.of_drew)).c2
        have c3 := (HB.out.ext ((Ext.drew _).trans hW.of_drew)).c3
        have c4 := (HB.out.ext ((Ext.drew _).trans hW.of_drew)).c4
        have c5 := (HB.out.ext ((Ext.drew _).trans hW.of_drew)).c5
        have c6 := (HB.out.ext ((Ext.drew _).trans hW.of_drew)).c6
        have c7 := (HB.out.ext ((Ext.drew _).trans hW.of_drew)).c7
        have c8 := (HB.out.ext ((Ext.drew _).trans hW.of_drew)).c8
        have c9 := (HB.out.ext ((Ext.drew _).trans hW.of_drew)).c9
        have c10 := (HB.out.ext ((Ext.drew _).trans hW.of_drew)).c10
        simp only [runsT, runsF, rep, pick]
        go_wp2_with fail
        exact ⟨rfl, rfl⟩
      simp only [runsT, runsF, rep, left]
      go_wp2_with fail
      refine (IHL pl _ tb root (H1.out.ext ((Ext.drew _).trans (Ext.drew _))) (HT.out.ext ((Ext.drew _).trans (Ext.drew _))) (by omega)).mono ?_
      rintro e w1 ⟨p1, rfl, hp1, hE1⟩
      go_wp2_with fail
      refine ⟨fun _ => hE1, ?_⟩
      apply segs_cons
      · intro W hW
        exact ⟨rfl, rfl⟩
      simp only [runsT, runsF, rep, left]
      go_wp2_with fail
      refine (joined_any _ _ _ _ _ _ _ hp1 (H2.out.ext (((Ext.drew _).trans (Ext.drew _)).trans hE1)) (by have := T.sz_drop_le cint k l; omega)).mono ?_
      rintro e w2 ⟨p2, rfl, hp2, hE2⟩
      go_wp2_with fail
      refine ⟨fun _ => hE2, ?_⟩
      apply segs_cons
      · intro W hW
        simp only [runsT, runsF, rep, pick]
        go_wp2_with fail
        exact ⟨rfl, rfl⟩
      simp only [runsT, runsF, rep, left]
      go_wp2_with fail
      go_ret
      exact ⟨_, rfl, hp2, (((Ext.drew _).trans (Ext.drew _)).trans hE1).trans hE2⟩
    · by_cases q2 : cint k xk > 0
      · have e : T.drop cint k (.node xk xv l r) = T.joined xk xv l (T.drop cint k r) := by simp only [T.drop]; rw [if_neg q1, if_pos q2]
        rw [e]
        have hd : decide (cint k xk < 0) = false := decide_eq_false q1
        have hd2 : decide (0 < cint k xk) = true := decide_eq_true q2
        clear e
        go_enter Tryz.func137, Tryz.ntmps137
        go_wp2_with fail
        refine wp_region_segs 11 [([9, 2], false), ([1], false)] (by kernel_rfl) (by kernel_rfl) ?_
        apply segs_cons
        · intro W hW
          have c0 := (HB.out.ext hW.of_drew).c0
          have c1 := (HB.out.ext hW.of_drew).c1
          have c2 := (HB.out.ext hW.of_drew).c2
          have c3 := (HB.out.ext hW.of_drew).c3
          have c4 := (HB.out.ext hW.of_drew).c4
          have c5 := (HB.out.ext hW.of_drew).c5
          have c6 := (HB.out.ext hW.of_drew).c6
          have c7 := (HB.out.ext hW.of_drew).c7
          have c8 := (HB.out.ext hW.of_drew).c8
          have c9 := (HB.out.ext hW.of_drew).c9
          have c10 := (HB.out.ext hW.of_drew).c10
          have t0 := (HT.out.ext hW.of_drew).c0
          have t1 := (HT.out.ext hW.of_drew).c1
          simp only [runsT, runsF, rep, pick]
          go_wp2_with fail
          exact ⟨rfl, rfl⟩
        simp only [runsT, runsF, rep, left]
        go_wp2_with fail
        refine (cmp_any _ _ _).mono ?_
        rintro e w' ⟨rfl, rfl⟩
        go_wp2_with fail
        refine ⟨fun _ => Ext.refl _, ?_⟩
        apply segs_cons
        · intro W hW
          simp only [runsT, runsF, rep, pick]
          go_wp2_with fail
          exact ⟨rfl, rfl⟩
        simp only [runsT, runsF, rep, left]
        go_wp2_with fail
        have IHR := IHR0.out
        refine wp_region_segs 21 [([18, 3], false), ([0, 2], false), ([1], false)] (by kernel_rfl) (by kernel_rfl) ?_
        apply segs_cons
        · intro W hW
          have c0 := (HB.out.ext ((Ext.drew _).trans hW.of_drew)).c0
          have c1 := (HB.out.ext ((Ext.drew _).trans hW.of_drew)).c1
          have c2 := (HB.out.ext ((Ext.drew _).trans hW.of_drew)).c2
          have c3 := (HB.out.ext ((Ext.drew _).trans hW.of_drew)).c3
          have c4 := (HB.out.ext ((Ext.drew _).trans hW.of_drew)).c4
          have c5 := (HB.out.ext ((Ext.drew _).trans hW.of_drew)).c5
          have c6 := (HB.out.ext ((Ext.drew _).trans hW.of_drew)).c6
          have c7 := (HB.out.ext ((Ext.drew _).trans hW.of_drew)).c7
          have c8 := (HB.out.ext ((Ext.drew _).trans hW.of_drew)).c8
          have c9 := (HB.out.ext ((Ext.drew _).trans hW.of_drew)).c9
          have c10 := (HB.out.ext ((Ext.drew _).trans hW.of_drew)).c10
          simp only [runsT, runsF, rep, pick]
          go_wp2_with fail
          exact ⟨rfl, rfl⟩
        simp only [runsT, runsF, rep, left]
        go_wp2_with fail
        refine (IHR pr _ tb root (H2.out.ext ((Ext.drew _).trans (Ext.drew _))) (HT.out.ext ((Ext.drew _).trans (Ext.drew _))) (by omega)).mono ?_
        rintro e w1 ⟨p1, rfl, hp1, hE1⟩
        go_wp2_with fail
        refine ⟨fun _ => hE1, ?_⟩
        apply segs_cons
        · intro W hW
          exact ⟨rfl, rfl⟩
        simp only [runsT, runsF, rep, left]
        go_wp2_with fail
        refine (joined_any _ _ _ _ _ _ _ (H1.out.ext (((Ext.drew _).trans (Ext.drew _)).trans hE1)) hp1 (by have := T.sz_drop_le cint k r; omega)).mono ?_
        rintro e w2 ⟨p2, rfl, hp2, hE2⟩
        go_wp2_with fail
        refine ⟨fun _ => hE2, ?_⟩
        apply segs_cons
        · intro W hW
          simp only [runsT, runsF, rep, pick]
          go_wp2_with fail
          exact ⟨rfl, rfl⟩
        simp only [runsT, runsF, rep, left]
        go_wp2_with fail
        go_ret
        exact ⟨_, rfl, hp2, (((Ext.drew _).trans (Ext.drew _)).trans hE1).trans hE2⟩
      · have e : T.drop cint k (.node xk xv l r) = T.both l r := by simp only [T.drop]; rw [if_neg q1, if_neg q2]
        rw [e]
        have hd : decide (cint k xk < 0) = false := decide_eq_false q1
        have hd2 : decide (0 < cint k xk) = false := decide_eq_false q2
        clear e
        go_enter Tryz.func137, Tryz.ntmps137
        go_wp2_with fail
        refine wp_region_segs 11 [([9, 2], false), ([1], false)] (by kernel_rfl) (by kernel_rfl) ?_
        apply segs_cons
        · intro W hW
          have c0 := (HB.out.ext hW.of_drew).c0
          have c1 := (HB.out.ext hW.of_drew).c1
          have c2 := (HB.out.ext hW.of_drew).c2
          have c3 := (HB.out.ext hW.of_drew).c3
          have c4 := (HB.out.ext hW.of_drew).c4
          have c5 := (HB.out.ext hW.of_drew).c5
          have c6 := (HB.out.ext hW.of_drew).c6
          have c7 := (HB.out.ext hW.of_drew).c7
          have c8 := (HB.out.ext hW.of_drew).c8
          have c9 := (HB.out.ext hW.of_drew).c9
          have c10 := (HB.out.ext hW.of_drew).c10
          have t0 := (HT.out.ext hW.of_drew).c0
          have t1 := (HT.out.ext hW.of_drew).c1
          simp only [runsT, runsF, rep, pick]
          go_wp2_with fail
          exact ⟨rfl, rfl⟩
        simp only [runsT, runsF, rep, left]
        go_wp2_with fail
        refine (cmp_any _ _ _).mono ?_
        rintro e w' ⟨rfl, rfl⟩
        go_wp2_with fail
        refine ⟨fun _ => Ext.refl _, ?_⟩
        apply segs_cons
        · intro W hW
          simp only [runsT, runsF, rep, pick]
          go_wp2_with fail
          exact ⟨rfl, rfl⟩
        simp only [runsT, runsF, rep, left]
        go_wp2_with fail
        refine wp_region_segs 10 [([8, 2], false), ([1], false)] (by kernel_rfl) (by kernel_rfl) ?_
        apply segs_cons
        · intro W hW
          have c0 := (HB.out.ext ((Ext.drew _).trans hW.of_drew)).c0
          have c1 := (HB.out.ext ((Ext.drew _).trans hW.of_drew)).c1
          have c2 := (HB.out.ext ((Ext.drew _).trans hW.of_drew)).c2
          have c3 := (HB.out.ext ((Ext.drew _).trans hW.of_drew)).c3
          have c4 := (HB.out.ext ((Ext.drew _).trans hW.of_drew)).c4
          have c5 := (HB.out.ext ((Ext.drew _).trans hW.of_drew)).c5
          have c6 := (HB.out.ext ((Ext.drew _).trans hW.of_drew)).c6
          have c7 := (HB.out.ext ((Ext.drew _).trans hW.of_drew)).c7
          have c8 := (HB.out.ext ((Ext.drew _).trans hW.of_drew)).c8
          have c9 := (HB.out.ext ((Ext.drew _).trans hW.of_drew)).c9
          have c10 := (HB.out.ext ((Ext.drew _).trans hW.of_drew)).c10
          simp only [runsT, runsF, rep, pick]
          go_wp2_with fail
          exact ⟨rfl, rfl⟩
        simp only [runsT, runsF, rep, left]
        go_wp2_with fail
        refine (both_any _ _ _ _ _ (H1.out.ext ((Ext.drew _).trans (Ext.drew _))) (H2.out.ext ((Ext.drew _).trans (Ext.drew _))) (by omega)).mono ?_
        rintro e w1 ⟨p1, rfl, hp1, hE1⟩
        go_wp2_with fail
        refine ⟨fun _ => hE1, ?_⟩
        apply segs_cons
        · intro W hW
          simp only [runsT, runsF, rep, pick]
          go_wp2_with fail
          exact ⟨rfl, rfl⟩
        simp only [runsT, runsF, rep, left]
        go_wp2_with fail
        go_ret
        exact ⟨_, rfl, hp1, ((Ext.drew _).trans (Ext.drew _)).trans hE1⟩
set_option maxRecDepth 100000 in
theorem Drop_any (k : Int) (t : T Int (Int × Int × Int × Int × Int × Int)) (p : Option Addr) (w : World) (h : isTree w p t) (hs : t.sz < 800000000) :
    Calls Tryz.prog 110 #[.pointer p, .int .u64 k] w fun e w' => ∃ q, e = .returned (.pointer q) ∧ isTree w' q (T.drop cint k t) ∧ Ext w w' := by
  obtain ⟨tb, root, rfl, hT, hR⟩ := h
  have hA : Ext w w := Ext.refl _
  have HT := Lib.hid (hT.ext hA)
  have H1 := Lib.hid (hR.ext hA)
  clear hT hR
  go_enter Tryz.func110, Tryz.ntmps110
  go_wp2_with fail
  refine wp_region_segs 14 [([10, 4], false), ([1, 2], false), ([1], false)] (by kernel_rfl) (by kernel_rfl) ?_
  apply segs_cons
  · intro W hW
    have t0 := (HT.out.ext hW.of_drew).c0
    have t1 := (HT.out.ext hW.of_drew).c1
    simp only [runsT, runsF, rep, pick]
    go_wp2_with fail
    exact ⟨rfl, rfl⟩
  simp only [runsT, runsF, rep, left]
  go_wp2_with fail
  refine (drop_any _ _ _ _ tb root (H1.out.ext (Ext.drew _)) (HT.out.ext (Ext.drew _)) hs).mono ?_
  rintro e w1 ⟨p1, rfl, hp1, hE1⟩
  go_wp2_with fail
  refine ⟨fun _ => hE1, ?_⟩
  apply segs_cons
  · intro W hW
    simp only [runsT, runsF, rep, pick]
    go_wp2_with fail
    exact ⟨rfl, rfl⟩
  simp only [runsT, runsF, rep, left]
  go_wp2_with fail
  refine ⟨fun _ => (Below.refl _ _).alloc (Nat.le_refl _) _, ?_⟩
  apply segs_cons
  · intro W hW
    simp only [runsT, runsF, rep, pick]
    go_wp2_with fail
    exact ⟨rfl, rfl⟩
  simp only [runsT, runsF, rep, left]
  go_wp2_with fail
  go_ret
  have hB : Ext w1 (w1.alloc (Obj.cells #[.func (.func 94) #[] #[], .pointer p1] 167)) := (Below.refl _ _).alloc (Nat.le_refl _) _
  exact ⟨_, rfl, ⟨_, p1, rfl, Blk.new _ _ _, hp1.ext hB⟩, hA.trans (((Ext.drew _).trans hE1).trans hB)⟩
/-- What a search tells. -/
def Found (w : World) (r : Option (T Int (Int × Int × Int × Int × Int × Int)) × Int) (e : Ending) (w' : World) : Prop :=
  ∃ q, e = .returned (.tuple #[.pointer q, .int .i64 r.2]) ∧ (match r.1 with | none => q = none | some s => isT w' q s ∧ ∃ k v l r, s = .node k v l r) ∧ Ext w w'
set_option maxRecDepth 100000 in
set_option maxHeartbeats 800000 in
theorem find_any (k : Int) (t : T Int (Int × Int × Int × Int × Int × Int)) (p : Option Addr) (w : World) (h : isTree w p t) (hs : t.sz < 1000000000) :
    Calls Tryz.prog 111 #[.pointer p, .int .u64 k] w (Found w (T.find cint k t)) := by
  obtain ⟨tb, root, rfl, hT, hR⟩ := h
  have HT0 := Lib.hid hT
  have H0 := Lib.hid hR
  have t1 := hT.c1
  have g0 := t.sz_nn
  clear hT hR
  go_enter Tryz.func111, Tryz.ntmps111
  go_wp2_with fail
  clear t1
  go_loopg [6, 7] t.sz.toNat (fun g ah x wr => ∃ (s : T Int (Int × Int × Int × Int × Int × Int)) (q : Option Addr) (acc : Int), x = .pointer q ∧ ah = .int .i64 acc ∧ isT wr q s ∧ Ext w wr ∧ (T.find cint k t).1 = (T.find cint k s).1 ∧ (T.find cint k t).2 = acc + (T.find cint k s).2 ∧ 0 ≤ acc ∧ acc + s.sz ≤ t.sz ∧ s.sz.toNat ≤ g)
  case atStart => exact ⟨t, root, 0, rfl, rfl, H0.out, Ext.refl _, rfl, by omega, by omega, by omega, Nat.le_refl _⟩
  case round =>
    obtain ⟨s, q, acc, rfl, rfl, hq, hE, e1, e2, hacc, hsum, hg⟩ := hrel
    have He1 := Lib.hid e1
    have He2 := Lib.hid e2
    have HE := Lib.hid hE
    have HT := Lib.hid (HT0.out.ext hE)
    clear e1 e2 hE
    cases s with
    | nil =>
      obtain rfl := hq
      simp only [T.sz] at hsum hg
      go_wp2_with fail
      go_ret2
      refine ⟨none, ?_, ?_, HE.out⟩
      · rw [He2.out]; simp [T.find]
      · rw [He1.out]; simp [T.find]
    | node xk xv l r =>
      obtain ⟨b, pl, pr, rfl, hb, hl, hr⟩ := isT_node hq
      simp only [T.sz] at hsum hg
      have g1 := l.sz_nn
      have g2 := r.sz_nn
      have HB := Lib.hid hb
      have H1 := Lib.hid hl
      have H2 := Lib.hid hr
      have HQ := Lib.hid hq
      clear hb hl hr hq
      by_cases q1 : cint k xk = 0
      · have e : T.find cint k (.node xk xv l r) = (some (.node xk xv l r), l.sz) := by simp only [T.find]; rw [if_pos q1]
        have He := Lib.hid e
        have hd : (cint k xk == 0) = true := beq_iff_eq.2 q1
        have Hq1 := Lib.hid q1
        clear e q1
        go_wp2_with fail
        have cL := HB.out.c7
        refine wp_region_segs 11 [([9, 2], false), ([1], false)] (by kernel_rfl) (by kernel_rfl) ?_
        apply segs_cons
        · intro W hW
          have c0 := (HB.out.ext hW.of_drew).c0
          have c1 := (HB.out.ext hW.of_drew).c1
          have c2 := (HB.out.ext hW.of_drew).c2
          have c3 := (HB.out.ext hW.of_drew).c3
          have c4 := (HB.out.ext hW.of_drew).c4
          have c5 := (HB.out.ext hW.of_drew).c5
          have c6 := (HB.out.ext hW.of_drew).c6
          have c7 := (HB.out.ext hW.of_drew).c7
          have c8 := (HB.out.ext hW.of_drew).c8
          have c9 := (HB.out.ext hW.of_drew).c9
          have c10 := (HB.out.ext hW.of_drew).c10
          have t0 := (HT.out.ext hW.of_drew).c0
          simp only [runsT, runsF, rep, pick]
          go_wp2_with fail
          exact ⟨rfl, rfl⟩
        simp only [runsT, runsF, rep, left]
        go_wp2_with fail
        refine (cmp_any _ _ _).mono ?_
        rintro e w' ⟨rfl, rfl⟩
        go_wp2_with fail
        refine ⟨fun _ => Ext.refl _, ?_⟩
        apply segs_cons
        · intro W hW
          simp only [runsT, runsF, rep, pick]
          go_wp2_with fail
          exact ⟨rfl, rfl⟩
        simp only [runsT, runsF, rep, left]
        go_wp2_with fail
        refine (size_any _ _ _ (H1.out.ext ((Ext.drew _)))).mono ?_
        rintro e w' ⟨rfl, rfl⟩
        go_wp2_with fail
        go_ret2
        refine ⟨some ⟨b, 0, none⟩, ?_, ?_, HE.out.trans (Ext.drew _)⟩
        · rw [He2.out, He.out]; rfl
        · rw [He1.out, He.out]; exact ⟨HQ.out.ext (Ext.drew _), _, _, _, _, rfl⟩
      · by_cases q2 : cint k xk < 0
        · have e : T.find cint k (.node xk xv l r) = T.find cint k l := by simp only [T.find]; rw [if_neg q1, if_pos q2]
          have He := Lib.hid e
          have hd : (cint k xk == 0) = false := beq_eq_false_iff_ne.2 q1
          have hd2 : decide (cint k xk < 0) = true := decide_eq_true q2
          clear e q1
          go_wp2_with fail
          have cL := HB.out.c7
          refine wp_region_segs 11 [([9, 2], false), ([1], false)] (by kernel_rfl) (by kernel_rfl) ?_
          apply segs_cons
          · intro W hW
            have c0 := (HB.out.ext hW.of_drew).c0
            have c1 := (HB.out.ext hW.of_drew).c1
            have c2 := (HB.out.ext hW.of_drew).c2
            have c3 := (HB.out.ext hW.of_drew).c3
            have c4 := (HB.out.ext hW.of_drew).c4
            have c5 := (HB.out.ext hW.of_drew).c5
            have c6 := (HB.out.ext hW.of_drew).c6
            have c7 := (HB.out.ext hW.of_drew).c7
            have c8 := (HB.out.ext hW.of_drew).c8
            have c9 := (HB.out.ext hW.of_drew).c9
            have c10 := (HB.out.ext hW.of_drew).c10
            have t0 := (HT.out.ext hW.of_drew).c0
            simp only [runsT, runsF, rep, pick]
            go_wp2_with fail
            exact ⟨rfl, rfl⟩
          simp only [runsT, runsF, rep, left]
          go_wp2_with fail
          refine (cmp_any _ _ _).mono ?_
          rintro e w' ⟨rfl, rfl⟩
          go_wp2_with fail
          refine ⟨fun _ => Ext.refl _, ?_⟩
          apply segs_cons
          · intro W hW
            simp only [runsT, runsF, rep, pick]
            go_wp2_with fail
            exact ⟨rfl, rfl⟩
          simp only [runsT, runsF, rep, left]
          go_wp2_with fail
          go_roundg l.sz.toNat
          case measure => omega
          case rel => exact ⟨l, pl, acc, rfl, rfl, H1.out.ext (Ext.drew _), HE.out.trans (Ext.drew _), by rw [He1.out, He.out], by rw [He2.out, He.out], hacc, by omega, Nat.le_refl _⟩
        · have e : T.find cint k (.node xk xv l r) = ((T.find cint k r).1, l.sz + 1 + (T.find cint k r).2) := by simp only [T.find]; rw [if_neg q1, if_neg q2]
          have He := Lib.hid e
          have hd : (cint k xk == 0) = false := beq_eq_false_iff_ne.2 q1
          have hd2 : decide (cint k xk < 0) = false := decide_eq_false q2
          clear e q1 q2
          go_wp2_with fail
          refine wp_region_segs 11 [([9, 2], false), ([1], false)] (by kernel_rfl) (by kernel_rfl) ?_
          apply segs_cons
          · intro W hW
            have c0 := (HB.out.ext hW.of_drew).c0
            have c1 := (HB.out.ext hW.of_drew).c1
            have c2 := (HB.out.ext hW.of_drew).c2
            have c3 := (HB.out.ext hW.of_drew).c3
            have c4 := (HB.out.ext hW.of_drew).c4
            have c5 := (HB.out.ext hW.of_drew).c5
            have c6 := (HB.out.ext hW.of_drew).c6
            have c7 := (HB.out.ext hW.of_drew).c7
            have c8 := (HB.out.ext hW.of_drew).c8
            have c9 := (HB.out.ext hW.of_drew).c9
            have c10 := (HB.out.ext hW.of_drew).c10
            have t0 := (HT.out.ext hW.of_drew).c0
            simp only [runsT, runsF, rep, pick]
            go_wp2_with fail
            exact ⟨rfl, rfl⟩
          simp only [runsT, runsF, rep, left]
          go_wp2_with fail
          refine (cmp_any _ _ _).mono ?_
          rintro e w' ⟨rfl, rfl⟩
          go_wp2_with fail
          refine ⟨fun _ => Ext.refl _, ?_⟩
          apply segs_cons
          · intro W hW
            simp only [runsT, runsF, rep, pick]
            go_wp2_with fail
            exact ⟨rfl, rfl⟩
          simp only [runsT, runsF, rep, left]
          go_wp2_with fail
          refine wp_region_segs 14 [([5, 3, 4, 2], false), ([4], false)] (by kernel_rfl) (by kernel_rfl) ?_
          apply segs_cons
          · intro W hW
            have c0 := (HB.out.ext ((Ext.drew _).trans hW.of_drew)).c0
            have c1 := (HB.out.ext ((Ext.drew _).trans hW.of_drew)).c1
            have c2 := (HB.out.ext ((Ext.drew _).trans hW.of_drew)).c2
            have c3 := (HB.out.ext ((Ext.drew _).trans hW.of_drew)).c3
            have c4 := (HB.out.ext ((Ext.drew _).trans hW.of_drew)).c4
            have c5 := (HB.out.ext ((Ext.drew _).trans hW.of_drew)).c5
            have c6 := (HB.out.ext ((Ext.drew _).trans hW.of_drew)).c6
            have c7 := (HB.out.ext ((Ext.drew _).trans hW.of_drew)).c7
            have c8 := (HB.out.ext ((Ext.drew _).trans hW.of_drew)).c8
            have c9 := (HB.out.ext ((Ext.drew _).trans hW.of_drew)).c9
            have c10 := (HB.out.ext ((Ext.drew _).trans hW.of_drew)).c10
            simp only [runsT, runsF, rep, pick]
            go_wp2_with fail
            exact ⟨rfl, rfl⟩
          simp only [runsT, runsF, rep, left]
          go_wp2_with fail
          refine (size_any _ _ _ (H1.out.ext ((Ext.drew _).trans (Ext.drew _)))).mono ?_
          rintro e w' ⟨rfl, rfl⟩
          go_wp2_with fail
          refine ⟨fun _ => Ext.refl _, ?_⟩
          apply segs_cons
          · intro W hW
            simp only [runsT, runsF, rep, pick]
            go_wp2_with fail
            exact ⟨rfl, rfl⟩
          simp only [runsT, runsF, rep, left]
          go_wp2_with fail
          go_roundg r.sz.toNat
          case measure => omega
          case rel => exact ⟨r, pr, acc + l.sz + 1, rfl, by go_num, H2.out.ext ((Ext.drew _).trans (Ext.drew _)), HE.out.trans ((Ext.drew _).trans (Ext.drew _)), by rw [He1.out, He.out], by rw [He2.out, He.out]; omega, by omega, by omega, Nat.le_refl _⟩
theorem Len_any (t : T Int (Int × Int × Int × Int × Int × Int)) (p : Option Addr) (w : World) (h : isTree w p t) : Calls Tryz.prog 85 #[.pointer p] w fun e w' => e = .returned (.int .i64 t.sz) ∧ w = w' := by
  obtain ⟨tb, root, rfl, hT, hR⟩ := h
  have t1 := hT.c1
  have H1 := Lib.hid hR
  clear hT hR
  go_enter Tryz.func85, Tryz.ntmps85
  go_wp2_with fail
  refine (size_any _ _ _ H1.out).mono ?_
  rintro e w' ⟨rfl, rfl⟩
  go_wp2_with fail
  go_ret
  exact ⟨rfl, rfl⟩
theorem Len_nil (w : World) : Calls Tryz.prog 85 #[.pointer none] w fun e w' => e = .returned (.int .i64 0) ∧ w = w' := by
  go_enter Tryz.func85, Tryz.ntmps85
  go_wp2_with fail
  go_ret
  exact ⟨rfl, rfl⟩
theorem New_any (w : World) : Calls Tryz.prog 93 #[.func (.func 94) #[] #[]] w fun e w' => ∃ q, e = .returned (.pointer q) ∧ isTree w' q (T.nil : T Int (Int × Int × Int × Int × Int × Int)) ∧ Ext w w' := by
  have he := fun (w : World) => run_eq_func_nil (P := Tryz.prog) Tryz.underlying138 (.func 94) #[] #[] w
  go_enter Tryz.func93, Tryz.ntmps93
  go_wp2_with fail
  go_ret
  have hA : Ext w (w.alloc (Obj.cells #[.func (.func 94) #[] #[], .pointer none] 167)) := (Below.refl _ _).alloc (Nat.le_refl _) _
  exact ⟨_, rfl, ⟨_, none, rfl, Blk.new _ _ _, rfl⟩, hA⟩
/-- What a look for a key tells: its thing, or the zero one. -/
def Got (w : World) (r : Option (Int × Int × Int × Int × Int × Int)) (e : Ending) (w' : World) : Prop :=
  (match r with | some v => e = .returned (.tuple #[.agg #[.int .u64 v.1, .int .i64 v.2.1, .int .i64 v.2.2.1, .int .i64 v.2.2.2.1, .int .i64 v.2.2.2.2.1, .int .i64 v.2.2.2.2.2], .bool true]) | none => e = .returned (.tuple #[.agg #[.int .u64 0, .int .i64 0, .int .i64 0, .int .i64 0, .int .i64 0, .int .i64 0], .bool false])) ∧ Ext w w'
theorem get_find (k : Int) : ∀ t : T Int (Int × Int × Int × Int × Int × Int), T.get cint k t = match (T.find cint k t).1 with | some (.node _ v _ _) => some v | _ => none
  | .nil => rfl
  | .node xk xv l r => by
    simp only [T.get, T.find]
    split
    · rfl
    · split
      · exact get_find k l
      · exact get_find k r
theorem Get_any (k : Int) (t : T Int (Int × Int × Int × Int × Int × Int)) (p : Option Addr) (w : World) (h : isTree w p t) (hs : t.sz < 1000000000) :
    Calls Tryz.prog 83 #[.pointer p, .int .u64 k] w (Got w (T.get cint k t)) := by
  have hA : Ext w (w.alloc (Obj.cells #[.int .u64 0, .int .i64 0, .int .i64 0, .int .i64 0, .int .i64 0, .int .i64 0] 41)) := (Below.refl _ _).alloc (Nat.le_refl _) _
  have HR := Lib.hid (show Blk (w.alloc (Obj.cells #[.int .u64 0, .int .i64 0, .int .i64 0, .int .i64 0, .int .i64 0, .int .i64 0] 41)) w.heap.size #[.int .u64 0, .int .i64 0, .int .i64 0, .int .i64 0, .int .i64 0, .int .i64 0] 41 from Blk.new _ _ _)
  have HP := Lib.hid (h.ext hA)
  clear h
  go_enter Tryz.func83, Tryz.ntmps83
  go_wp2_with fail
  refine (find_any k t p _ HP.out hs).mono ?_
  rintro e w1 ⟨q, rfl, hq, hE⟩
  have z0 := (HR.out.ext hE).cell (i := 0) rfl
  have y0 := (HR.out.ext hE).frozen 0
  have z1 := (HR.out.ext hE).cell (i := 1) rfl
  have y1 := (HR.out.ext hE).frozen 1
  have z2 := (HR.out.ext hE).cell (i := 2) rfl
  have y2 := (HR.out.ext hE).frozen 2
  have z3 := (HR.out.ext hE).cell (i := 3) rfl
  have y3 := (HR.out.ext hE).frozen 3
  have z4 := (HR.out.ext hE).cell (i := 4) rfl
  have y4 := (HR.out.ext hE).frozen 4
  have z5 := (HR.out.ext hE).cell (i := 5) rfl
  have y5 := (HR.out.ext hE).frozen 5
  have hg := get_find k t
  cases hf : (T.find cint k t).1 with
  | none =>
    rw [hf] at hq hg
    obtain rfl := hq
    have HG := Lib.hid hg
    clear hg hf
    go_wp2_with fail
    (try simp only [Exit.inBlock, Exit.then])
    refine bodyPost_ret (v := .tuple #[.agg #[.int .u64 0, .int .i64 0, .int .i64 0, .int .i64 0, .int .i64 0, .int .i64 0], .bool false]) ?_ rfl ?_
    · rw [results_cell_tmp rfl]
      go_simp
    unfold Got
    rw [HG.out]
    exact ⟨rfl, (((((((below_ext hA hE).setCell (p := ⟨w.heap.size, 0, none⟩) (Nat.le_refl _) _).setCell (p := ⟨w.heap.size, 1, none⟩) (Nat.le_refl _) _).setCell (p := ⟨w.heap.size, 2, none⟩) (Nat.le_refl _) _).setCell (p := ⟨w.heap.size, 3, none⟩) (Nat.le_refl _) _).setCell (p := ⟨w.heap.size, 4, none⟩) (Nat.le_refl _) _).setCell (p := ⟨w.heap.size, 5, none⟩) (Nat.le_refl _) _)⟩
  | some s =>
    rw [hf] at hq hg
    obtain ⟨hq, xk, xv, l, r, rfl⟩ := hq
    obtain ⟨b, pl, pr, rfl, hb, _, _⟩ := isT_node hq
    have HG := Lib.hid hg
    have c1 := hb.c1
    have c2 := hb.c2
    have c3 := hb.c3
    have c4 := hb.c4
    have c5 := hb.c5
    have c6 := hb.c6
    clear hg hf hq hb
    go_wp2_with fail
    (try simp only [Exit.inBlock, Exit.then])
    refine bodyPost_ret (v := .tuple #[.agg #[.int .u64 xv.1, .int .i64 xv.2.1, .int .i64 xv.2.2.1, .int .i64 xv.2.2.2.1, .int .i64 xv.2.2.2.2.1, .int .i64 xv.2.2.2.2.2], .bool true]) ?_ rfl ?_
    · rw [results_cell_tmp rfl]
      go_simp
    unfold Got
    rw [HG.out]
    exact ⟨rfl, (((((((below_ext hA hE).setCell (p := ⟨w.heap.size, 0, none⟩) (Nat.le_refl _) _).setCell (p := ⟨w.heap.size, 1, none⟩) (Nat.le_refl _) _).setCell (p := ⟨w.heap.size, 2, none⟩) (Nat.le_refl _) _).setCell (p := ⟨w.heap.size, 3, none⟩) (Nat.le_refl _) _).setCell (p := ⟨w.heap.size, 4, none⟩) (Nat.le_refl _) _).setCell (p := ⟨w.heap.size, 5, none⟩) (Nat.le_refl _) _)⟩
end Go.Proofs.YtdfbfcglacalmaaGreat.TrEi
end
