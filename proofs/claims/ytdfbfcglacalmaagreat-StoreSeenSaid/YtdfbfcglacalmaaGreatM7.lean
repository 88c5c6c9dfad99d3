/-
  The contracts of the ranked tree at bucket: each function of package rank comes to the plain tree's. Trees of fewer than 800,000,000 keys; no other condition.
  An index of ends: each function comes to what the plain rows say. Fewer than 1,000,000 hashes; no other condition.
  An index of ends: hashes that come and go: the walks of Drop and Put. Fewer than 1,000,000 hashes; no other condition.
  An index of ends: a hash gets an end: the walk of Put. Fewer than 1,000,000 hashes; no other condition.
-/
import Derived.WalkKit
import Derived.KernelRfl
import Derived.Deep.RegionWith
import Derived.Deep.LoopGhost
import Derived.Lib.Hide
import Derived.Laws.ResultCell
import Derived.Test.YtdfbfcglacalmaaGreatM1
import Derived.Test.YtdfbfcglacalmaaGreatM2
import Derived.Test.YtdfbfcglacalmaaGreatProg
import Derived.Test.YtdfbfcglacalmaaGreatM5
import Derived.Test.YtdfbfcglacalmaaGreatM6
import Derived.Test.YtdfbfcglacalmaaGreatM4
section
namespace Go.Proofs.YtdfbfcglacalmaaGreat.TrBk
open Go.RowKit Go.Seg Go.Open Rk
/-- A node's block. -/
def NodeAt (w : World) (b : Nat) (k : Int) (v : Option Addr) (pl pr : Option Addr) (n d : Int) : Prop := Blk w b #[.int .i64 k, .pointer v, .pointer pl, .pointer pr, .int .i64 n, .int .i64 d] 177
theorem NodeAt.ext {w w' : World} {b : Nat} {k : Int} {v : Option Addr} {pl pr : Option Addr} {n d : Int} (h : NodeAt w b k v pl pr n d) (e : Ext w w') : NodeAt w' b k v pl pr n d := Blk.ext h e
theorem NodeAt.c0 {w : World} {b : Nat} {k : Int} {v : Option Addr} {pl pr : Option Addr} {n d : Int} (h : NodeAt w b k v pl pr n d) : w.cell? ⟨b, 0, none⟩ = some (.int .i64 k) := Blk.cell h rfl
theorem NodeAt.c1 {w : World} {b : Nat} {k : Int} {v : Option Addr} {pl pr : Option Addr} {n d : Int} (h : NodeAt w b k v pl pr n d) : w.cell? ⟨b, 1, none⟩ = some (.pointer v) := Blk.cell h rfl
theorem NodeAt.c2 {w : World} {b : Nat} {k : Int} {v : Option Addr} {pl pr : Option Addr} {n d : Int} (h : NodeAt w b k v pl pr n d) : w.cell? ⟨b, 2, none⟩ = some (.pointer pl) := Blk.cell h rfl
theorem NodeAt.c3 {w : World} {b : Nat} {k : Int} {v : Option Addr} {pl pr : Option Addr} {n d : Int} (h : NodeAt w b k v pl pr n d) : w.cell? ⟨b, 3, none⟩ = some (.pointer pr) := Blk.cell h rfl
theorem NodeAt.c4 {w : World} {b : Nat} {k : Int} {v : Option Addr} {pl pr : Option Addr} {n d : Int} (h : NodeAt w b k v pl pr n d) : w.cell? ⟨b, 4, none⟩ = some (.int .i64 n) := Blk.cell h rfl
theorem NodeAt.c5 {w : World} {b : Nat} {k : Int} {v : Option Addr} {pl pr : Option Addr} {n d : Int} (h : NodeAt w b k v pl pr n d) : w.cell? ⟨b, 5, none⟩ = some (.int .i64 d) := Blk.cell h rfl
/-- The tree lies there. -/
def isT (w : World) : Option Addr → T Int (Option Addr) → Prop
  | p, .nil => p = none
  | p, .node k v l r => ∃ b pl pr, p = some ⟨b, 0, none⟩ ∧ NodeAt w b k v pl pr (l.sz + r.sz + 1) (max l.dp r.dp + 1) ∧ isT w pl l ∧ isT w pr r
theorem isT.ext {w w' : World} (e : Ext w w') : ∀ {t : T Int (Option Addr)} {p : Option Addr}, isT w p t → isT w' p t
  | .nil, _, hp => hp
  | .node _ _ _ _, _, ⟨b, pl, pr, hp, hb, hl, hr⟩ => ⟨b, pl, pr, hp, hb.ext e, hl.ext e, hr.ext e⟩
theorem isT_node {w : World} {p : Option Addr} {k : Int} {v : Option Addr} {l r : T Int (Option Addr)} (h : isT w p (.node k v l r)) : ∃ b pl pr, p = some ⟨b, 0, none⟩ ∧ NodeAt w b k v pl pr (l.sz + r.sz + 1) (max l.dp r.dp + 1) ∧ isT w pl l ∧ isT w pr r := h
theorem size_any (w : World) (p : Option Addr) (t : T Int (Option Addr)) (h : isT w p t) : Calls Tryz.prog 145 #[.pointer p] w fun e w' => e = .returned (.int .i64 t.sz) ∧ w = w' := by
  cases t with
  | nil =>
    obtain rfl := h
    go_enter Tryz.func145, Tryz.ntmps145
    go_wp2
    go_ret
    exact ⟨rfl, rfl⟩
  | node k v l r =>
    obtain ⟨b, pl, pr, rfl, hb, _, _⟩ := isT_node h
    have c := hb.c4
    clear hb h
    go_enter Tryz.func145, Tryz.ntmps145
    go_wp2
    go_ret
    exact ⟨rfl, rfl⟩
theorem deep_any (w : World) (p : Option Addr) (t : T Int (Option Addr)) (h : isT w p t) : Calls Tryz.prog 172 #[.pointer p] w fun e w' => e = .returned (.int .i64 t.dp) ∧ w = w' := by
  cases t with
  | nil =>
    obtain rfl := h
    go_enter Tryz.func172, Tryz.ntmps172
    go_wp2
    go_ret
    exact ⟨rfl, rfl⟩
  | node k v l r =>
    obtain ⟨b, pl, pr, rfl, hb, _, _⟩ := isT_node h
    have c := hb.c5
    clear hb h
    go_enter Tryz.func172, Tryz.ntmps172
    go_wp2
    go_ret
    exact ⟨rfl, rfl⟩
theorem made_any (w : World) (k : Int) (v : Option Addr) (pl pr : Option Addr) (l r : T Int (Option Addr)) (hl : isT w pl l) (hr : isT w pr r) (hs : l.sz + r.sz < 1000000000) :
    Calls Tryz.prog 146 #[.int .i64 k, .pointer v, .pointer pl, .pointer pr] w fun e w' => ∃ p, e = .returned (.pointer p) ∧ isT w' p (.node k v l r) ∧ Ext w w' := by
  have h1 := l.sz_nn
  have h2 := r.sz_nn
  have h3 := l.dp_nn
  have h4 := r.dp_nn
  have h5 := l.dp_le_sz
  have h6 := r.dp_le_sz
  have H1 := Lib.hid hl
  have H2 := Lib.hid hr
  clear hl hr
  go_enter Tryz.func146, Tryz.ntmps146
  go_wp2_with fail
  refine (size_any _ _ _ H1.out).mono ?_; rintro e w' ⟨rfl, rfl⟩
  go_wp2_with fail
  refine (size_any _ _ _ H2.out).mono ?_; rintro e w' ⟨rfl, rfl⟩
  go_wp2_with fail
  refine (deep_any _ _ _ H1.out).mono ?_; rintro e w' ⟨rfl, rfl⟩
  go_wp2_with fail
  refine (deep_any _ _ _ H2.out).mono ?_; rintro e w' ⟨rfl, rfl⟩
  go_wp2_with fail
  all_goals
    have hB : Ext w (w.alloc (Obj.cells #[.int .i64 k, .pointer v, .pointer pl, .pointer pr, .int .i64 (l.sz + r.sz + 1), .int .i64 (max l.dp r.dp + 1)] 177)) := (Below.refl w.heap.size w).alloc (Nat.le_refl _) _
    have hI : isT (w.alloc (Obj.cells #[.int .i64 k, .pointer v, .pointer pl, .pointer pr, .int .i64 (l.sz + r.sz + 1), .int .i64 (max l.dp r.dp + 1)] 177)) (some ⟨w.heap.size, 0, none⟩) (.node k v l r) := ⟨w.heap.size, pl, pr, rfl, Blk.new _ _ _, H1.out.ext hB, H2.out.ext hB⟩
    first
      | (have e : max l.dp r.dp = l.dp := by omega)
      | (have e : max l.dp r.dp = r.dp := by omega)
    rw [e] at hI hB
    go_ret
    exact ⟨_, rfl, hI, hB⟩
set_option maxRecDepth 100000 in
theorem leftUp_deep (w : World) (k : Int) (v : Option Addr) (b bm : Nat) (pr pll pml pmr : Option Addr) (ll ml mr r : T Int (Option Addr)) (lk mk : Int) (lv mv : Option Addr) (ln ld mn md : Int)
    (hb : NodeAt w b lk lv pll (some ⟨bm, 0, none⟩) ln ld) (hm : NodeAt w bm mk mv pml pmr mn md) (hM : isT w (some ⟨bm, 0, none⟩) (.node mk mv ml mr))
    (h1 : isT w pll ll) (h2 : isT w pml ml) (h3 : isT w pmr mr) (h4 : isT w pr r) (hd : ll.dp < (T.node mk mv ml mr).dp) (hs : ll.sz + ml.sz + mr.sz + r.sz < 900000000) :
    Calls Tryz.prog 173 #[.int .i64 k, .pointer v, .pointer (some ⟨b, 0, none⟩), .pointer pr] w fun e w' => ∃ p, e = .returned (.pointer p) ∧ isT w' p (.node mk mv (.node lk lv ll ml) (.node k v mr r)) ∧ Ext w w' := by
  have g1 := ll.sz_nn
  have g2 := ml.sz_nn
  have g3 := mr.sz_nn
  have g4 := r.sz_nn
  have hD : decide (ll.dp < (T.node mk mv ml mr).dp) = true := decide_eq_true hd
  have hA : Ext w w := Ext.refl _
  have c0 := (hb.ext hA).c0
  have c1 := (hb.ext hA).c1
  have c2 := (hb.ext hA).c2
  have c3 := (hb.ext hA).c3
  have c4 := (hb.ext hA).c4
  have c5 := (hb.ext hA).c5
  have HB := Lib.hid (hb.ext hA)
  have HN := Lib.hid (hm.ext hA)
  have H1 := Lib.hid (h1.ext hA)
  have H2 := Lib.hid (h2.ext hA)
  have H3 := Lib.hid (h3.ext hA)
  have H4 := Lib.hid (h4.ext hA)
  have HM := Lib.hid (hM.ext hA)
  clear h1 h2 h3 h4 hm hb hM hd
  go_enter Tryz.func173, Tryz.ntmps173
  go_wp2_with fail
  refine (deep_any _ _ _ H1.out).mono ?_; rintro e w' ⟨rfl, rfl⟩
  go_wp2_with fail
  refine (deep_any _ _ _ HM.out).mono ?_; rintro e w' ⟨rfl, rfl⟩
  go_wp2_with fail
  clear c0 c1 c2 c3 c4 c5
  refine wp_region_segs 35 [([24, 1, 7, 3], false), ([0, 3], false), ([0, 2], false), ([1], false)] (by kernel_rfl) (by kernel_rfl) ?_
  apply segs_cons
  · intro W hW
    have c0 := (HB.out.ext hW.of_drew).c0
    have c1 := (HB.out.ext hW.of_drew).c1
    have c2 := (HB.out.ext hW.of_drew).c2
    have c3 := (HB.out.ext hW.of_drew).c3
    have c4 := (HB.out.ext hW.of_drew).c4
    have c5 := (HB.out.ext hW.of_drew).c5
    have m0 := (HN.out.ext hW.of_drew).c0
    have m1 := (HN.out.ext hW.of_drew).c1
    have m2 := (HN.out.ext hW.of_drew).c2
    have m3 := (HN.out.ext hW.of_drew).c3
    have m4 := (HN.out.ext hW.of_drew).c4
    have m5 := (HN.out.ext hW.of_drew).c5
    simp only [runsT, runsF, rep, pick]
    go_wp2_with fail
    exact ⟨rfl, rfl⟩
  simp only [runsT, runsF, rep, left]
  go_wp2_with fail
  refine (made_any _ _ _ _ _ _ _ (H1.out.ext (Ext.drew _)) (H2.out.ext (Ext.drew _)) (by omega)).mono ?_
  rintro e w1 ⟨p1, rfl, hp1, hE1⟩
  go_wp2_with fail
  refine ⟨fun _ => hE1, ?_⟩
  apply segs_cons
  · intro W hW
    exact ⟨rfl, rfl⟩
  simp only [runsT, runsF, rep, left]
  go_wp2_with fail
  refine (made_any _ _ _ _ _ _ _ (H3.out.ext ((Ext.drew _).trans hE1)) (H4.out.ext ((Ext.drew _).trans hE1)) (by omega)).mono ?_
  rintro e w2 ⟨p2, rfl, hp2, hE2⟩
  go_wp2_with fail
  refine ⟨fun _ => hE2, ?_⟩
  apply segs_cons
  · intro W hW
    exact ⟨rfl, rfl⟩
  simp only [runsT, runsF, rep, left]
  go_wp2_with fail
  refine (made_any _ _ _ _ _ (.node lk lv ll ml) (.node k v mr r) (hp1.ext hE2) hp2 (by simp only [T.sz]; omega)).mono ?_
  rintro e w3 ⟨p3, rfl, hp3, hE3⟩
  go_wp2_with fail
  refine ⟨fun _ => hE3, ?_⟩
  apply segs_cons
  · intro W hW
    simp only [runsT, runsF, rep, pick]
    go_wp2_with fail
    exact ⟨rfl, rfl⟩
  simp only [runsT, runsF, rep, left]
  go_wp2_with fail
  go_ret
  exact ⟨_, rfl, hp3, hA.trans ((((Ext.drew _).trans hE1).trans hE2).trans hE3)⟩
set_option maxRecDepth 100000 in
theorem leftUp_flat (w : World) (k : Int) (v : Option Addr) (b : Nat) (pr pll plr : Option Addr) (ll lr r : T Int (Option Addr)) (lk : Int) (lv : Option Addr) (ln ld : Int)
    (hb : NodeAt w b lk lv pll plr ln ld) (h1 : isT w pll ll) (h3 : isT w plr lr) (h4 : isT w pr r) (hd : ¬ ll.dp < lr.dp) (hs : ll.sz + lr.sz + r.sz < 900000000) :
    Calls Tryz.prog 173 #[.int .i64 k, .pointer v, .pointer (some ⟨b, 0, none⟩), .pointer pr] w fun e w' => ∃ p, e = .returned (.pointer p) ∧ isT w' p (.node lk lv ll (.node k v lr r)) ∧ Ext w w' := by
  have g1 := ll.sz_nn
  have g2 := lr.sz_nn
  have g3 := r.sz_nn
  have g4 := r.sz_nn
  have hD : decide (ll.dp < lr.dp) = false := decide_eq_false hd
  have hA : Ext w w := Ext.refl _
  have c0 := (hb.ext hA).c0
  have c1 := (hb.ext hA).c1
  have c2 := (hb.ext hA).c2
  have c3 := (hb.ext hA).c3
  have c4 := (hb.ext hA).c4
  have c5 := (hb.ext hA).c5
  have HB := Lib.hid (hb.ext hA)
  have H1 := Lib.hid (h1.ext hA)
  have H3 := Lib.hid (h3.ext hA)
  have H4 := Lib.hid (h4.ext hA)
  clear h1 h3 h4 hb hd
  go_enter Tryz.func173, Tryz.ntmps173
  go_wp2_with fail
  refine (deep_any _ _ _ H1.out).mono ?_; rintro e w' ⟨rfl, rfl⟩
  go_wp2_with fail
  refine (deep_any _ _ _ H3.out).mono ?_; rintro e w' ⟨rfl, rfl⟩
  go_wp2_with fail
  clear c0 c1 c2 c3 c4 c5
  refine wp_region_segs 22 [([19, 3], false), ([0, 2], false), ([1], false)] (by kernel_rfl) (by kernel_rfl) ?_
  apply segs_cons
  · intro W hW
    have c0 := (HB.out.ext hW.of_drew).c0
    have c1 := (HB.out.ext hW.of_drew).c1
    have c2 := (HB.out.ext hW.of_drew).c2
    have c3 := (HB.out.ext hW.of_drew).c3
    have c4 := (HB.out.ext hW.of_drew).c4
    have c5 := (HB.out.ext hW.of_drew).c5
    simp only [runsT, runsF, rep, pick]
    go_wp2_with fail
    exact ⟨rfl, rfl⟩
  simp only [runsT, runsF, rep, left]
  go_wp2_with fail
  refine (made_any _ _ _ _ _ _ _ (H3.out.ext (Ext.drew _)) (H4.out.ext (Ext.drew _)) (by omega)).mono ?_
  rintro e w1 ⟨p1, rfl, hp1, hE1⟩
  go_wp2_with fail
  refine ⟨fun _ => hE1, ?_⟩
  apply segs_cons
  · intro W hW
    exact ⟨rfl, rfl⟩
  simp only [runsT, runsF, rep, left]
  go_wp2_with fail
  refine (made_any _ _ _ _ _ ll (.node k v lr r) (H1.out.ext ((Ext.drew _).trans hE1)) hp1 (by simp only [T.sz]; omega)).mono ?_
  rintro e w2 ⟨p2, rfl, hp2, hE2⟩
  go_wp2_with fail
  refine ⟨fun _ => hE2, ?_⟩
  apply segs_cons
  · intro W hW
    simp only [runsT, runsF, rep, pick]
    go_wp2_with fail
    exact ⟨rfl, rfl⟩
  simp only [runsT, runsF, rep, left]
  go_wp2_with fail
  go_ret
  exact ⟨_, rfl, hp2, hA.trans (((Ext.drew _).trans hE1).trans hE2)⟩
theorem leftUp_any (w : World) (k : Int) (v : Option Addr) (pl pr : Option Addr) (l r : T Int (Option Addr)) (hl : isT w pl l) (hr : isT w pr r) (hd : 0 < l.dp) (hs : l.sz + r.sz < 900000000) :
    Calls Tryz.prog 173 #[.int .i64 k, .pointer v, .pointer pl, .pointer pr] w fun e w' => ∃ p, e = .returned (.pointer p) ∧ isT w' p (T.leftUp k v l r) ∧ Ext w w' := by
  obtain ⟨lk, lv, ll, lr, rfl⟩ := T.dp_pos hd
  obtain ⟨b, pll, plr, rfl, hb, hll, hlr⟩ := isT_node hl
  simp only [T.sz] at hs
  by_cases h : ll.dp < lr.dp
  · obtain ⟨mk, mv, ml, mr, rfl⟩ := T.dp_pos (t := lr) (by have := ll.dp_nn; omega)
    obtain ⟨bm, pml, pmr, rfl, hm, hml, hmr⟩ := isT_node hlr
    have e : T.leftUp k v (.node lk lv ll (.node mk mv ml mr)) r = .node mk mv (.node lk lv ll ml) (.node k v mr r) := by simp only [T.leftUp]; rw [if_pos h]
    rw [e]
    simp only [T.sz] at hs
    exact leftUp_deep w k v b bm pr pll pml pmr ll ml mr r lk mk lv mv _ _ _ _ hb hm hlr hll hml hmr hr h (by omega)
  · have e : T.leftUp k v (.node lk lv ll lr) r = .node lk lv ll (.node k v lr r) := by simp only [T.leftUp]; rw [if_neg h]
    rw [e]
    exact leftUp_flat w k v b pr pll plr ll lr r lk lv _ _ hb hll hlr hr h (by omega)
set_option maxRecDepth 100000 in
theorem rightUp_deep (w : World) (k : Int) (v : Option Addr) (b bm : Nat) (pl prr pml pmr : Option Addr) (l ml mr rr : T Int (Option Addr)) (rk mk : Int) (rv mv : Option Addr) (rn rd mn md : Int)
    (hb : NodeAt w b rk rv (some ⟨bm, 0, none⟩) prr rn rd) (hm : NodeAt w bm mk mv pml pmr mn md) (hM : isT w (some ⟨bm, 0, none⟩) (.node mk mv ml mr))
    (h1 : isT w pl l) (h2 : isT w pml ml) (h3 : isT w pmr mr) (h4 : isT w prr rr) (hd : rr.dp < (T.node mk mv ml mr).dp) (hs : l.sz + ml.sz + mr.sz + rr.sz < 900000000) :
    Calls Tryz.prog 174 #[.int .i64 k, .pointer v, .pointer pl, .pointer (some ⟨b, 0, none⟩)] w fun e w' => ∃ p, e = .returned (.pointer p) ∧ isT w' p (.node mk mv (.node k v l ml) (.node rk rv mr rr)) ∧ Ext w w' := by
  have g1 := l.sz_nn
  have g2 := ml.sz_nn
  have g3 := mr.sz_nn
  have g4 := rr.sz_nn
  have hD : decide (rr.dp < (T.node mk mv ml mr).dp) = true := decide_eq_true hd
  have hA : Ext w w := Ext.refl _
  have c0 := (hb.ext hA).c0
  have c1 := (hb.ext hA).c1
  have c2 := (hb.ext hA).c2
  have c3 := (hb.ext hA).c3
  have c4 := (hb.ext hA).c4
  have c5 := (hb.ext hA).c5
  have HB := Lib.hid (hb.ext hA)
  have HN := Lib.hid (hm.ext hA)
  have H1 := Lib.hid (h1.ext hA)
  have H2 := Lib.hid (h2.ext hA)
  have H3 := Lib.hid (h3.ext hA)
  have H4 := Lib.hid (h4.ext hA)
  have HM := Lib.hid (hM.ext hA)
  clear h1 h2 h3 h4 hm hb hM hd
  go_enter Tryz.func174, Tryz.ntmps174
  go_wp2_with fail
  refine (deep_any _ _ _ H4.out).mono ?_; rintro e w' ⟨rfl, rfl⟩
  go_wp2_with fail
  refine (deep_any _ _ _ HM.out).mono ?_; rintro e w' ⟨rfl, rfl⟩
  go_wp2_with fail
  clear c0 c1 c2 c3 c4 c5
  refine wp_region_segs 35 [([15, 1, 16, 3], false), ([0, 3], false), ([0, 2], false), ([1], false)] (by kernel_rfl) (by kernel_rfl) ?_
  apply segs_cons
  · intro W hW
    have c0 := (HB.out.ext hW.of_drew).c0
    have c1 := (HB.out.ext hW.of_drew).c1
    have c2 := (HB.out.ext hW.of_drew).c2
    have c3 := (HB.out.ext hW.of_drew).c3
    have c4 := (HB.out.ext hW.of_drew).c4
    have c5 := (HB.out.ext hW.of_drew).c5
    have m0 := (HN.out.ext hW.of_drew).c0
    have m1 := (HN.out.ext hW.of_drew).c1
    have m2 := (HN.out.ext hW.of_drew).c2
    have m3 := (HN.out.ext hW.of_drew).c3
    have m4 := (HN.out.ext hW.of_drew).c4
    have m5 := (HN.out.ext hW.of_drew).c5
    simp only [runsT, runsF, rep, pick]
    go_wp2_with fail
    exact ⟨rfl, rfl⟩
  simp only [runsT, runsF, rep, left]
  go_wp2_with fail
  refine (made_any _ _ _ _ _ _ _ (H1.out.ext (Ext.drew _)) (H2.out.ext (Ext.drew _)) (by omega)).mono ?_
  rintro e w1 ⟨p1, rfl, hp1, hE1⟩
  go_wp2_with fail
  refine ⟨fun _ => hE1, ?_⟩
  apply segs_cons
  · intro W hW
    exact ⟨rfl, rfl⟩
  simp only [runsT, runsF, rep, left]
  go_wp2_with fail
  refine (made_any _ _ _ _ _ _ _ (H3.out.ext ((Ext.drew _).trans hE1)) (H4.out.ext ((Ext.drew _).trans hE1)) (by omega)).mono ?_
  rintro e w2 ⟨p2, rfl, hp2, hE2⟩
  go_wp2_with fail
  refine ⟨fun _ => hE2, ?_⟩
  apply segs_cons
  · intro W hW
    exact ⟨rfl, rfl⟩
  simp only [runsT, runsF, rep, left]
  go_wp2_with fail
  refine (made_any _ _ _ _ _ (.node k v l ml) (.node rk rv mr rr) (hp1.ext hE2) hp2 (by simp only [T.sz]; omega)).mono ?_
  rintro e w3 ⟨p3, rfl, hp3, hE3⟩
  go_wp2_with fail
  refine ⟨fun _ => hE3, ?_⟩
  apply segs_cons
  · intro W hW
    simp only [runsT, runsF, rep, pick]
    go_wp2_with fail
    exact ⟨rfl, rfl⟩
  simp only [runsT, runsF, rep, left]
  go_wp2_with fail
  go_ret
  exact ⟨_, rfl, hp3, hA.trans ((((Ext.drew _).trans hE1).trans hE2).trans hE3)⟩
set_option maxRecDepth 100000 in
theorem rightUp_flat (w : World) (k : Int) (v : Option Addr) (b : Nat) (pl prl prr : Option Addr) (l rl rr : T Int (Option Addr)) (rk : Int) (rv : Option Addr) (rn rd : Int)
    (hb : NodeAt w b rk rv prl prr rn rd) (h1 : isT w pl l) (h3 : isT w prl rl) (h4 : isT w prr rr) (hd : ¬ rr.dp < rl.dp) (hs : l.sz + rl.sz + rr.sz < 900000000) :
    Calls Tryz.prog 174 #[.int .i64 k, .pointer v, .pointer pl, .pointer (some ⟨b, 0, none⟩)] w fun e w' => ∃ p, e = .returned (.pointer p) ∧ isT w' p (.node rk rv (.node k v l rl) rr) ∧ Ext w w' := by
  have g1 := l.sz_nn
  have g2 := rl.sz_nn
  have g3 := rr.sz_nn
  have g4 := rr.sz_nn
  have hD : decide (rr.dp < rl.dp) = false := decide_eq_false hd
  have hA : Ext w w := Ext.refl _
  have c0 := (hb.ext hA).c0
  have c1 := (hb.ext hA).c1
  have c2 := (hb.ext hA).c2
  have c3 := (hb.ext hA).c3
  have c4 := (hb.ext hA).c4
  have c5 := (hb.ext hA).c5
  have HB := Lib.hid (hb.ext hA)
  have H1 := Lib.hid (h1.ext hA)
  have H3 := Lib.hid (h3.ext hA)
  have H4 := Lib.hid (h4.ext hA)
  clear h1 h3 h4 hb hd
  go_enter Tryz.func174, Tryz.ntmps174
  go_wp2_with fail
  refine (deep_any _ _ _ H4.out).mono ?_; rintro e w' ⟨rfl, rfl⟩
  go_wp2_with fail
  refine (deep_any _ _ _ H3.out).mono ?_; rintro e w' ⟨rfl, rfl⟩
  go_wp2_with fail
  clear c0 c1 c2 c3 c4 c5
  refine wp_region_segs 22 [([15, 1, 4, 2], false), ([0, 2], false), ([1], false)] (by kernel_rfl) (by kernel_rfl) ?_
  apply segs_cons
  · intro W hW
    have c0 := (HB.out.ext hW.of_drew).c0
    have c1 := (HB.out.ext hW.of_drew).c1
    have c2 := (HB.out.ext hW.of_drew).c2
    have c3 := (HB.out.ext hW.of_drew).c3
    have c4 := (HB.out.ext hW.of_drew).c4
    have c5 := (HB.out.ext hW.of_drew).c5
    simp only [runsT, runsF, rep, pick]
    go_wp2_with fail
    exact ⟨rfl, rfl⟩
  simp only [runsT, runsF, rep, left]
  go_wp2_with fail
  refine (made_any _ _ _ _ _ _ _ (H1.out.ext (Ext.drew _)) (H3.out.ext (Ext.drew _)) (by omega)).mono ?_
  rintro e w1 ⟨p1, rfl, hp1, hE1⟩
  go_wp2_with fail
  refine ⟨fun _ => hE1, ?_⟩
  apply segs_cons
  · intro W hW
    exact ⟨rfl, rfl⟩
  simp only [runsT, runsF, rep, left]
  go_wp2_with fail
  refine (made_any _ _ _ _ _ (.node k v l rl) rr hp1 (H4.out.ext ((Ext.drew _).trans hE1)) (by simp only [T.sz]; omega)).mono ?_
  rintro e w2 ⟨p2, rfl, hp2, hE2⟩
  go_wp2_with fail
  refine ⟨fun _ => hE2, ?_⟩
  apply segs_cons
  · intro W hW
    simp only [runsT, runsF, rep, pick]
    go_wp2_with fail
    exact ⟨rfl, rfl⟩
  simp only [runsT, runsF, rep, left]
  go_wp2_with fail
  go_ret
  exact ⟨_, rfl, hp2, hA.trans (((Ext.drew _).trans hE1).trans hE2)⟩
theorem rightUp_any (w : World) (k : Int) (v : Option Addr) (pl pr : Option Addr) (l r : T Int (Option Addr)) (hl : isT w pl l) (hr : isT w pr r) (hd : 0 < r.dp) (hs : l.sz + r.sz < 900000000) :
    Calls Tryz.prog 174 #[.int .i64 k, .pointer v, .pointer pl, .pointer pr] w fun e w' => ∃ p, e = .returned (.pointer p) ∧ isT w' p (T.rightUp k v l r) ∧ Ext w w' := by
  obtain ⟨rk, rv, rl, rr, rfl⟩ := T.dp_pos hd
  obtain ⟨b, prl, prr, rfl, hb, hrl, hrr⟩ := isT_node hr
  simp only [T.sz] at hs
  by_cases h : rr.dp < rl.dp
  · obtain ⟨mk, mv, ml, mr, rfl⟩ := T.dp_pos (t := rl) (by have := rr.dp_nn; omega)
    obtain ⟨bm, pml, pmr, rfl, hm, hml, hmr⟩ := isT_node hrl
    have e : T.rightUp k v l (.node rk rv (.node mk mv ml mr) rr) = .node mk mv (.node k v l ml) (.node rk rv mr rr) := by simp only [T.rightUp]; rw [if_pos h]
    rw [e]
    simp only [T.sz] at hs
    exact rightUp_deep w k v b bm pl prr pml pmr l ml mr rr rk mk rv mv _ _ _ _ hb hm hrl hl hml hmr hrr h (by omega)
  · have e : T.rightUp k v l (.node rk rv rl rr) = .node rk rv (.node k v l rl) rr := by simp only [T.rightUp]; rw [if_neg h]
    rw [e]
    exact rightUp_flat w k v b pl prl prr l rl rr rk rv _ _ hb hl hrl hrr h (by omega)
theorem joined_any (w : World) (k : Int) (v : Option Addr) (pl pr : Option Addr) (l r : T Int (Option Addr)) (hl : isT w pl l) (hr : isT w pr r) (hs : l.sz + r.sz < 900000000) :
    Calls Tryz.prog 147 #[.int .i64 k, .pointer v, .pointer pl, .pointer pr] w fun e w' => ∃ p, e = .returned (.pointer p) ∧ isT w' p (T.joined k v l r) ∧ Ext w w' := by
  have h3 := l.dp_nn
  have h4 := r.dp_nn
  have h5 := l.dp_le_sz
  have h6 := r.dp_le_sz
  have h7 := l.sz_nn
  have h8 := r.sz_nn
  have hA : Ext w w := Ext.refl _
  have H1 := Lib.hid (hl.ext hA)
  have H2 := Lib.hid (hr.ext hA)
  clear hl hr
  by_cases c1 : l.dp - r.dp > 1
  · have e : T.joined k v l r = T.leftUp k v l r := by unfold T.joined; rw [if_pos c1]
    rw [e]
    have hd : decide (1 < l.dp - r.dp) = true := decide_eq_true c1
    clear e
    go_enter Tryz.func147, Tryz.ntmps147
    go_wp2_with fail
    refine (deep_any _ _ _ H1.out).mono ?_; rintro e w' ⟨rfl, rfl⟩
    go_wp2_with fail
    refine (deep_any _ _ _ H2.out).mono ?_; rintro e w' ⟨rfl, rfl⟩
    go_wp2_with fail
    refine (leftUp_any _ _ _ _ _ _ _ H1.out H2.out (by omega) hs).mono ?_
    rintro e w1 ⟨p1, rfl, hp1, hE1⟩
    go_wp2_with fail
    go_ret
    exact ⟨_, rfl, hp1, hA.trans hE1⟩
  · by_cases c2 : l.dp - r.dp < -1
    · have e : T.joined k v l r = T.rightUp k v l r := by unfold T.joined; rw [if_neg c1, if_pos c2]
      rw [e]
      have hd : decide (1 < l.dp - r.dp) = false := decide_eq_false c1
      have hd2 : decide (l.dp - r.dp < -1) = true := decide_eq_true c2
      clear e
      go_enter Tryz.func147, Tryz.ntmps147
      go_wp2_with fail
      refine (deep_any _ _ _ H1.out).mono ?_; rintro e w' ⟨rfl, rfl⟩
      go_wp2_with fail
      refine (deep_any _ _ _ H2.out).mono ?_; rintro e w' ⟨rfl, rfl⟩
      go_wp2_with fail
      refine (rightUp_any _ _ _ _ _ _ _ H1.out H2.out (by omega) hs).mono ?_
      rintro e w1 ⟨p1, rfl, hp1, hE1⟩
      go_wp2_with fail
      go_ret
      exact ⟨_, rfl, hp1, hA.trans hE1⟩
    · have e : T.joined k v l r = .node k v l r := by unfold T.joined; rw [if_neg c1, if_neg c2]
      rw [e]
      have hd : decide (1 < l.dp - r.dp) = false := decide_eq_false c1
      have hd2 : decide (l.dp - r.dp < -1) = false := decide_eq_false c2
      clear e
      go_enter Tryz.func147, Tryz.ntmps147
      go_wp2_with fail
      refine (deep_any _ _ _ H1.out).mono ?_; rintro e w' ⟨rfl, rfl⟩
      go_wp2_with fail
      refine (deep_any _ _ _ H2.out).mono ?_; rintro e w' ⟨rfl, rfl⟩
      go_wp2_with fail
      refine (made_any _ _ _ _ _ _ _ H1.out H2.out (by omega)).mono ?_
      rintro e w1 ⟨p1, rfl, hp1, hE1⟩
      go_wp2_with fail
      go_ret
      exact ⟨_, rfl, hp1, hA.trans hE1⟩
/-- The tree's own block. -/
def TreeAt (w : World) (b : Nat) (root : Option Addr) : Prop := Blk w b #[.func (.func 79) #[] #[], .pointer root] 157
theorem TreeAt.ext {w w' : World} {b : Nat} {root : Option Addr} (h : TreeAt w b root) (e : Ext w w') : TreeAt w' b root := Blk.ext h e
theorem TreeAt.c0 {w : World} {b : Nat} {root : Option Addr} (h : TreeAt w b root) : w.cell? ⟨b, 0, none⟩ = some (.func (.func 79) #[] #[]) := Blk.cell h rfl
theorem TreeAt.c1 {w : World} {b : Nat} {root : Option Addr} (h : TreeAt w b root) : w.cell? ⟨b, 1, none⟩ = some (.pointer root) := Blk.cell h rfl
/-- A tree of these keys and things. -/
def isTree (w : World) (p : Option Addr) (t : T Int (Option Addr)) : Prop := ∃ b root, p = some ⟨b, 0, none⟩ ∧ TreeAt w b root ∧ isT w root t
theorem isTree.ext {w w' : World} (e : Ext w w') {t : T Int (Option Addr)} {p : Option Addr} : isTree w p t → isTree w' p t := fun ⟨b, root, hp, hb, ht⟩ => ⟨b, root, hp, hb.ext e, ht.ext e⟩
theorem isT.chg {S : Nat → Prop} {w w' : World} (hc : Chg S w w') (hn : Off S w 177) : ∀ {t : T Int (Option Addr)} {p : Option Addr}, isT w p t → isT w' p t
  | .nil, _, hp => hp
  | .node _ _ _ _, _, ⟨b, pl, pr, hp, hb, hl, hr⟩ => ⟨b, pl, pr, hp, Blk.chg hb hc hn, hl.chg hc hn, hr.chg hc hn⟩
theorem isTree.chg {S : Nat → Prop} {w w' : World} (hc : Chg S w w') (hn : Off S w 177) (hn' : Off S w 157) {t : T Int (Option Addr)} {p : Option Addr} : isTree w p t → isTree w' p t := fun ⟨b, root, hp, hb, ht⟩ => ⟨b, root, hp, Blk.chg hb hc hn', ht.chg hc hn⟩
theorem nan_any (a : Int) (w : World) : Calls Tryz.prog 109 #[.int .i64 a] w fun e w' => e = .returned (.bool false) ∧ w = w' := by
  go_enter Tryz.func109, Tryz.ntmps109
  go_wp2
  go_ret
  exact ⟨rfl, rfl⟩
theorem cmp_any (a b : Int) (w : World) : Calls Tryz.prog 79 #[.int .i64 a, .int .i64 b] w fun e w' => e = .returned (.int .i64 (cint a b)) ∧ w = w' := by
  go_enter Tryz.func79, Tryz.ntmps79
  go_wp2_with (go_at_call 109; refine (nan_any _ _).mono ?_; rintro e w' ⟨rfl, rfl⟩)
  all_goals
    go_ret
    refine ⟨?_, rfl⟩
    unfold cint
    first
      | (rw [if_pos (by omega)]; rfl)
      | (rw [if_neg (by omega), if_pos (by omega)]; rfl)
      | (rw [if_neg (by omega), if_neg (by omega)]; rfl)
set_option maxRecDepth 100000 in
theorem put_any (k : Int) (v : Option Addr) : ∀ (t : T Int (Option Addr)) (p : Option Addr) (w : World) (tb : Nat) (root : Option Addr), isT w p t → TreeAt w tb root → t.sz < 800000000 →
    Calls Tryz.prog 122 #[.pointer (some ⟨tb, 0, none⟩), .pointer p, .int .i64 k, .pointer v] w fun e w' => ∃ q, e = .returned (.pointer q) ∧ isT w' q (T.put cint k v t) ∧ Ext w w' := by
  intro t
  induction t with
  | nil =>
    intro p w tb root hp hT _
    obtain rfl := hp
    clear hT
    have hA : Ext w w := Ext.refl _
    go_enter Tryz.func122, Tryz.ntmps122
    go_wp2_with fail
    refine (made_any _ _ _ _ _ .nil .nil rfl rfl (by simp [T.sz])).mono ?_
    rintro e w1 ⟨p1, rfl, hp1, hE1⟩
    go_wp2_with fail
    go_ret
    exact ⟨_, rfl, hp1, hA.trans hE1⟩
  | node xk xv l r ihl ihr =>
    intro p w tb root hp hT hs
    obtain ⟨b, pl, pr, rfl, hb, hl, hr⟩ := isT_node hp
    simp only [T.sz] at hs
    have g1 := l.sz_nn
    have g2 := r.sz_nn
    have hA : Ext w w := Ext.refl _
    have HB := Lib.hid (hb.ext hA)
    have HT := Lib.hid (hT.ext hA)
    have H1 := Lib.hid (hl.ext hA)
    have H2 := Lib.hid (hr.ext hA)
    have IHL0 := Lib.hid ihl
    have IHR0 := Lib.hid ihr
    clear hb hT hl hr hp ihl ihr
    by_cases q1 : cint k xk < 0
    · have e : T.put cint k v (.node xk xv l r) = T.joined xk xv (T.put cint k v l) r := by simp only [T.put]; rw [if_pos q1]
      rw [e]
      have hd : decide (cint k xk < 0) = true := decide_eq_true q1
      clear e
      go_enter Tryz.func122, Tryz.ntmps122
      go_wp2_with fail
      refine wp_region_segs 11 [([9, 2], false), ([1], false)] (by kernel_rfl) (by kernel_rfl) ?_
      apply segs_cons
      · intro W hW
        have c0 := (HB.out.ext hW.of_drew).c0
        have c1 := (HB.out.ext hW.of_drew).c1
        have c2 := (HB.out.ext hW.of_drew).c2
        have c3 := (HB.out.ext hW.of_drew).c3
        have c4 := (HB.out.ext hW.of_drew).c4
        have c5 := (HB.out.ext hW.of_drew).c5
        have t0 := (HT.out.ext hW.of_drew).c0
        have t1 := (HT.out.ext hW.of_drew).c1
        simp only [runsT, runsF, rep, pick]
        go_wp2_with fail
        exact ⟨rfl, rfl⟩
      simp only [runsT, runsF, rep, left]
      go_wp2_with fail
      refine (cmp_any _ _ _).mono ?_
      rintro e w' ⟨rfl, rfl⟩
      go_wp2_with fail
      refine ⟨fun _ => Ext.refl _, ?_⟩
      apply segs_cons
      · intro W hW
        simp only [runsT, runsF, rep, pick]
        go_wp2_with fail
        exact ⟨rfl, rfl⟩
      simp only [runsT, runsF, rep, left]
      go_wp2_with fail
      have IHL := IHL0.out
      refine wp_region_segs 22 [([15, 1, 4, 2], false), ([0, 2], false), ([1], false)] (by kernel_rfl) (by kernel_rfl) ?_
      apply segs_cons
      · intro W hW
        have c0 := (HB.out.ext ((Ext.drew _).trans hW.of_drew)).c0
        have c1 := (HB.out.ext ((Ext.drew _).trans hW.of_drew)).c1
        have c2 := (HB.out.ext ((Ext.drew _).trans hW.of_drew)).c2
        have c3 := (HB.out.ext ((Ext.drew _).trans hW.of_drew)).c3
        have c4 := (HB.out.ext ((Ext.drew _).trans hW.of_drew)).c4
        have c5 := (HB.out.ext ((Ext.drew _).trans hW.of_drew)).c5
        simp only [runsT, runsF, rep, pick]
        go_wp2_with fail
        exact ⟨rfl, rfl⟩
      simp only [runsT, runsF, rep, left]
      go_wp2_with fail
      refine (IHL pl _ tb root (H1.out.ext ((Ext.drew _).trans (Ext.drew _))) (HT.out.ext ((Ext.drew _).trans (Ext.drew _))) (by omega)).mono ?_
      rintro e w1 ⟨p1, rfl, hp1, hE1⟩
      go_wp2_with fail
      refine ⟨fun _ => hE1, ?_⟩
      apply segs_cons
      · intro W hW
        exact ⟨rfl, rfl⟩
      simp only [runsT, runsF, rep, left]
      go_wp2_with fail
      refine (joined_any _ _ _ _ _ _ _ hp1 (H2.out.ext (((Ext.drew _).trans (Ext.drew _)).trans hE1)) (by have := T.sz_put_le cint k v l; omega)).mono ?_
      rintro e w2 ⟨p2, rfl, hp2, hE2⟩
      go_wp2_with fail
      refine ⟨fun _ => hE2, ?_⟩
      apply segs_cons
      · intro W hW
        simp only [runsT, runsF, rep, pick]
        go_wp2_with fail
        exact ⟨rfl, rfl⟩
      simp only [runsT, runsF, rep, left]
      go_wp2_with fail
      go_ret
      exact ⟨_, rfl, hp2, hA.trans ((((Ext.drew _).trans (Ext.drew _)).trans hE1).trans hE2)⟩
    · by_cases q2 : cint k xk > 0
      · have e : T.put cint k v (.node xk xv l r) = T.joined xk xv l (T.put cint k v r) := by simp only [T.put]; rw [if_neg q1, if_pos q2]
        rw [e]
        have hd : decide (cint k xk < 0) = false := decide_eq_false q1
        have hd2 : decide (0 < cint k xk) = true := decide_eq_true q2
        clear e
        go_enter Tryz.func122, Tryz.ntmps122
        go_wp2_with fail
        refine wp_region_segs 11 [([9, 2], false), ([1], false)] (by kernel_rfl) (by kernel_rfl) ?_
        apply segs_cons
        · intro W hW
          have c0 := (HB.out.ext hW.of_drew).c0
          have c1 := (HB.out.ext hW.of_drew).c1
          have c2 := (HB.out.ext hW.of_drew).c2
          have c3 := (HB.out.ext hW.of_drew).c3
          have c4 := (HB.out.ext hW.of_drew).c4
          have c5 := (HB.out.ext hW.of_drew).c5
          have t0 := (HT.out.ext hW.of_drew).c0
          have t1 := (HT.out.ext hW.of_drew).c1
          simp only [runsT, runsF, rep, pick]
          go_wp2_with fail
          exact ⟨rfl, rfl⟩
        simp only [runsT, runsF, rep, left]
        go_wp2_with fail
        refine (cmp_any _ _ _).mono ?_
        rintro e w' ⟨rfl, rfl⟩
        go_wp2_with fail
        refine ⟨fun _ => Ext.refl _, ?_⟩
        apply segs_cons
        · intro W hW
          simp only [runsT, runsF, rep, pick]
          go_wp2_with fail
          exact ⟨rfl, rfl⟩
        simp only [runsT, runsF, rep, left]
        go_wp2_with fail
        have IHR := IHR0.out
        refine wp_region_segs 22 [([19, 3], false), ([0, 2], false), ([1], false)] (by kernel_rfl) (by kernel_rfl) ?_
        apply segs_cons
        · intro W hW
          have c0 := (HB.out.ext ((Ext.drew _).trans hW.of_drew)).c0
          have c1 := (HB.out.ext ((Ext.drew _).trans hW.of_drew)).c1
          have c2 := (HB.out.ext ((Ext.drew _).trans hW.of_drew)).c2
          have c3 := (HB.out.ext ((Ext.drew _).trans hW.of_drew)).c3
          have c4 := (HB.out.ext ((Ext.drew _).trans hW.of_drew)).c4
          have c5 := (HB.out.ext ((Ext.drew _).trans hW.of_drew)).c5
          simp only [runsT, runsF, rep, pick]
          go_wp2_with fail
          exact ⟨rfl, rfl⟩
        simp only [runsT, runsF, rep, left]
        go_wp2_with fail
        refine (IHR pr _ tb root (H2.out.ext ((Ext.drew _).trans (Ext.drew _))) (HT.out.ext ((Ext.drew _).trans (Ext.drew _))) (by omega)).mono ?_
        rintro e w1 ⟨p1, rfl, hp1, hE1⟩
        go_wp2_with fail
        refine ⟨fun _ => hE1, ?_⟩
        apply segs_cons
        · intro W hW
          exact ⟨rfl, rfl⟩
        simp only [runsT, runsF, rep, left]
        go_wp2_with fail
        refine (joined_any _ _ _ _ _ _ _ (H1.out.ext (((Ext.drew _).trans (Ext.drew _)).trans hE1)) hp1 (by have := T.sz_put_le cint k v r; omega)).mono ?_
        rintro e w2 ⟨p2, rfl, hp2, hE2⟩
        go_wp2_with fail
        refine ⟨fun _ => hE2, ?_⟩
        apply segs_cons
        · intro W hW
          simp only [runsT, runsF, rep, pick]
          go_wp2_with fail
          exact ⟨rfl, rfl⟩
        simp only [runsT, runsF, rep, left]
        go_wp2_with fail
        go_ret
        exact ⟨_, rfl, hp2, hA.trans ((((Ext.drew _).trans (Ext.drew _)).trans hE1).trans hE2)⟩
      · have e : T.put cint k v (.node xk xv l r) = .node k v l r := by simp only [T.put]; rw [if_neg q1, if_neg q2]
        rw [e]
        have hd : decide (cint k xk < 0) = false := decide_eq_false q1
        have hd2 : decide (0 < cint k xk) = false := decide_eq_false q2
        clear e
        go_enter Tryz.func122, Tryz.ntmps122
        go_wp2_with fail
        refine wp_region_segs 11 [([9, 2], false), ([1], false)] (by kernel_rfl) (by kernel_rfl) ?_
        apply segs_cons
        · intro W hW
          have c0 := (HB.out.ext hW.of_drew).c0
          have c1 := (HB.out.ext hW.of_drew).c1
          have c2 := (HB.out.ext hW.of_drew).c2
          have c3 := (HB.out.ext hW.of_drew).c3
          have c4 := (HB.out.ext hW.of_drew).c4
          have c5 := (HB.out.ext hW.of_drew).c5
          have t0 := (HT.out.ext hW.of_drew).c0
          have t1 := (HT.out.ext hW.of_drew).c1
          simp only [runsT, runsF, rep, pick]
          go_wp2_with fail
          exact ⟨rfl, rfl⟩
        simp only [runsT, runsF, rep, left]
        go_wp2_with fail
        refine (cmp_any _ _ _).mono ?_
        rintro e w' ⟨rfl, rfl⟩
        go_wp2_with fail
        refine ⟨fun _ => Ext.refl _, ?_⟩
        apply segs_cons
        · intro W hW
          simp only [runsT, runsF, rep, pick]
          go_wp2_with fail
          exact ⟨rfl, rfl⟩
        simp only [runsT, runsF, rep, left]
        go_wp2_with fail
        refine wp_region_segs 12 [([10, 2], false), ([1], false)] (by kernel_rfl) (by kernel_rfl) ?_
        apply segs_cons
        · intro W hW
          have c0 := (HB.out.ext ((Ext.drew _).trans hW.of_drew)).c0
          have c1 := (HB.out.ext ((Ext.drew _).trans hW.of_drew)).c1
          have c2 := (HB.out.ext ((Ext.drew _).trans hW.of_drew)).c2
          have c3 := (HB.out.ext ((Ext.drew _).trans hW.of_drew)).c3
          have c4 := (HB.out.ext ((Ext.drew _).trans hW.of_drew)).c4
          have c5 := (HB.out.ext ((Ext.drew _).trans hW.of_drew)).c5
          simp only [runsT, runsF, rep, pick]
          go_wp2_with fail
          exact ⟨rfl, rfl⟩
        simp only [runsT, runsF, rep, left]
        go_wp2_with fail
        refine (made_any _ _ _ _ _ _ _ (H1.out.ext ((Ext.drew _).trans (Ext.drew _))) (H2.out.ext ((Ext.drew _).trans (Ext.drew _))) (by omega)).mono ?_
        rintro e w1 ⟨p1, rfl, hp1, hE1⟩
        go_wp2_with fail
        refine ⟨fun _ => hE1, ?_⟩
        apply segs_cons
        · intro W hW
          simp only [runsT, runsF, rep, pick]
          go_wp2_with fail
          exact ⟨rfl, rfl⟩
        simp only [runsT, runsF, rep, left]
        go_wp2_with fail
        go_ret
        exact ⟨_, rfl, hp1, hA.trans (((Ext.drew _).trans (Ext.drew _)).trans hE1)⟩
set_option maxRecDepth 100000 in
theorem Put_any (k : Int) (v : Option Addr) (t : T Int (Option Addr)) (p : Option Addr) (w : World) (h : isTree w p t) (hs : t.sz < 800000000) :
    Calls Tryz.prog 91 #[.pointer p, .int .i64 k, .pointer v] w fun e w' => ∃ q, e = .returned (.pointer q) ∧ isTree w' q (T.put cint k v t) ∧ Ext w w' := by
  obtain ⟨tb, root, rfl, hT, hR⟩ := h
  have hA : Ext w w := Ext.refl _
  have HT := Lib.hid (hT.ext hA)
  have H1 := Lib.hid (hR.ext hA)
  clear hT hR
  go_enter Tryz.func91, Tryz.ntmps91
  go_wp2_with fail
  refine wp_region_segs 15 [([11, 4], false), ([1, 2], false), ([1], false)] (by kernel_rfl) (by kernel_rfl) ?_
  apply segs_cons
  · intro W hW
    have t0 := (HT.out.ext hW.of_drew).c0
    have t1 := (HT.out.ext hW.of_drew).c1
    simp only [runsT, runsF, rep, pick]
    go_wp2_with fail
    exact ⟨rfl, rfl⟩
  simp only [runsT, runsF, rep, left]
  go_wp2_with fail
  refine (put_any _ _ _ _ _ tb root (H1.out.ext (Ext.drew _)) (HT.out.ext (Ext.drew _)) hs).mono ?_
  rintro e w1 ⟨p1, rfl, hp1, hE1⟩
  go_wp2_with fail
  refine ⟨fun _ => hE1, ?_⟩
  apply segs_cons
  · intro W hW
    simp only [runsT, runsF, rep, pick]
    go_wp2_with fail
    exact ⟨rfl, rfl⟩
  simp only [runsT, runsF, rep, left]
  go_wp2_with fail
  refine ⟨fun _ => (Below.refl _ _).alloc (Nat.le_refl _) _, ?_⟩
  apply segs_cons
  · intro W hW
    simp only [runsT, runsF, rep, pick]
    go_wp2_with fail
    exact ⟨rfl, rfl⟩
  simp only [runsT, runsF, rep, left]
  go_wp2_with fail
  go_ret
  have hB : Ext w1 (w1.alloc (Obj.cells #[.func (.func 79) #[] #[], .pointer p1] 157)) := (Below.refl _ _).alloc (Nat.le_refl _) _
  exact ⟨_, rfl, ⟨_, p1, rfl, Blk.new _ _ _, hp1.ext hB⟩, hA.trans (((Ext.drew _).trans hE1).trans hB)⟩
set_option maxRecDepth 100000 in
theorem first_any : ∀ (l : T Int (Option Addr)) (k : Int) (v : Option Addr) (r : T Int (Option Addr)) (p : Option Addr) (w : World), isT w p (.node k v l r) → l.sz + r.sz < 800000000 →
    Calls Tryz.prog 180 #[.pointer p] w fun e w' => ∃ q ql, e = .returned (.tuple #[.pointer q, .pointer ql]) ∧ isT w' q (T.first k v l r).1 ∧ (∃ b pl pr n d, ql = some ⟨b, 0, none⟩ ∧ NodeAt w' b (T.first k v l r).2.1 (T.first k v l r).2.2 pl pr n d) ∧ Ext w w' := by
  intro l
  induction l with
  | nil =>
    intro k v r p w hp _
    obtain ⟨b, pl, pr, rfl, hb, hl, hr⟩ := isT_node hp
    obtain rfl := hl
    have HB := Lib.hid hb
    have H2 := Lib.hid hr
    have c0 := hb.c0
    have c1 := hb.c1
    have c2 := hb.c2
    have c3 := hb.c3
    have c4 := hb.c4
    have c5 := hb.c5
    clear hb hr hp
    go_enter Tryz.func180, Tryz.ntmps180
    go_wp2_with fail
    go_ret2
    exact ⟨_, _, rfl, H2.out, ⟨b, _, _, _, _, rfl, HB.out⟩, Ext.refl _⟩
  | node lk lv ll lr ihl _ =>
    intro k v r p w hp hs
    obtain ⟨b, pl, pr, rfl, hb, hl, hr⟩ := isT_node hp
    simp only [T.sz] at hs
    have g1 := ll.sz_nn
    have g2 := lr.sz_nn
    have g3 := r.sz_nn
    have HB := Lib.hid hb
    have H1 := Lib.hid hl
    have H2 := Lib.hid hr
    obtain ⟨bl, pll, plr, rfl, _, _, _⟩ := isT_node hl
    have IHL0 := Lib.hid ihl
    have c0 := hb.c0
    have c1 := hb.c1
    have c2 := hb.c2
    have c3 := hb.c3
    have c4 := hb.c4
    have c5 := hb.c5
    clear hb hl hr hp ihl
    go_enter Tryz.func180, Tryz.ntmps180
    go_wp2_with fail
    refine (IHL0.out lk lv lr _ _ H1.out (by omega)).mono ?_
    rintro e w1 ⟨q1, ql1, rfl, hq1, ⟨b1, pl1, pr1, n1, d1, rfl, hN1⟩, hE1⟩
    go_wp2_with fail
    clear c0 c1 c2 c3 c4 c5
    refine wp_region_segs 17 [([13, 1, 1, 2], false), ([2], false)] (by kernel_rfl) (by kernel_rfl) ?_
    apply segs_cons
    · intro W hW
      have c0 := (HB.out.ext (hE1.trans hW.of_drew)).c0
      have c1 := (HB.out.ext (hE1.trans hW.of_drew)).c1
      have c2 := (HB.out.ext (hE1.trans hW.of_drew)).c2
      have c3 := (HB.out.ext (hE1.trans hW.of_drew)).c3
      have c4 := (HB.out.ext (hE1.trans hW.of_drew)).c4
      have c5 := (HB.out.ext (hE1.trans hW.of_drew)).c5
      simp only [runsT, runsF, rep, pick]
      go_wp2_with fail
      exact ⟨rfl, rfl⟩
    simp only [runsT, runsF, rep, left]
    go_wp2_with fail
    refine (joined_any _ _ _ _ _ _ _ (hq1.ext (Ext.drew _)) (H2.out.ext (hE1.trans (Ext.drew _))) (by have := T.sz_first ll lk lv lr; omega)).mono ?_
    rintro e w2 ⟨p2, rfl, hp2, hE2⟩
    go_wp2_with fail
    refine ⟨fun _ => hE2, ?_⟩
    apply segs_cons
    · intro W hW
      simp only [runsT, runsF, rep, pick]
      go_wp2_with fail
      exact ⟨rfl, rfl⟩
    simp only [runsT, runsF, rep, left]
    go_wp2_with fail
    go_ret2
    exact ⟨_, _, rfl, hp2, ⟨b1, _, _, _, _, rfl, hN1.ext ((Ext.drew _).trans hE2)⟩, (hE1.trans (Ext.drew _)).trans hE2⟩
set_option maxRecDepth 100000 in
theorem both_any (l r : T Int (Option Addr)) (p q : Option Addr) (w : World) (hl : isT w p l) (hr : isT w q r) (hs : l.sz + r.sz < 800000000) :
    Calls Tryz.prog 157 #[.pointer p, .pointer q] w fun e w' => ∃ s, e = .returned (.pointer s) ∧ isT w' s (T.both l r) ∧ Ext w w' := by
  have H1 := Lib.hid hl
  have H2 := Lib.hid hr
  cases l with
  | nil =>
    obtain rfl := hl
    clear hr
    go_enter Tryz.func157, Tryz.ntmps157
    go_wp2_with fail
    go_ret
    exact ⟨_, rfl, by rw [show T.both .nil r = r from by cases r <;> rfl]; exact H2.out, Ext.refl _⟩
  | node lk lv ll lr =>
    obtain ⟨b, pl, pr, rfl, _, _, _⟩ := isT_node hl
    cases r with
    | nil =>
      obtain rfl := hr
      clear hl
      go_enter Tryz.func157, Tryz.ntmps157
      go_wp2_with fail
      go_ret
      exact ⟨_, rfl, H1.out, Ext.refl _⟩
    | node rk rv rl rr =>
      obtain ⟨b2, pl2, pr2, rfl, _, _, _⟩ := isT_node hr
      simp only [T.sz] at hs
      have g1 := ll.sz_nn
      have g2 := lr.sz_nn
      have g3 := rl.sz_nn
      have g4 := rr.sz_nn
      clear hl hr
      go_enter Tryz.func157, Tryz.ntmps157
      go_wp2_with fail
      refine (first_any rl rk rv rr _ _ H2.out (by omega)).mono ?_
      rintro e w1 ⟨q1, ql1, rfl, hq1, ⟨b1, pl1, pr1, n1, d1, rfl, hN1⟩, hE1⟩
      go_wp2_with fail
      refine wp_region_segs 12 [([10, 2], false), ([1], false)] (by kernel_rfl) (by kernel_rfl) ?_
      apply segs_cons
      · intro W hW
        have c0 := (hN1.ext hW.of_drew).c0
        have c1 := (hN1.ext hW.of_drew).c1
        have c2 := (hN1.ext hW.of_drew).c2
        have c3 := (hN1.ext hW.of_drew).c3
        have c4 := (hN1.ext hW.of_drew).c4
        have c5 := (hN1.ext hW.of_drew).c5
        simp only [runsT, runsF, rep, pick]
        go_wp2_with fail
        exact ⟨rfl, rfl⟩
      simp only [runsT, runsF, rep, left]
      go_wp2_with fail
      refine (joined_any _ _ _ _ _ (.node lk lv ll lr) _ (H1.out.ext (hE1.trans (Ext.drew _))) (hq1.ext (Ext.drew _)) (by have := T.sz_first rl rk rv rr; simp only [T.sz]; omega)).mono ?_
      rintro e w2 ⟨p2, rfl, hp2, hE2⟩
      go_wp2_with fail
      refine ⟨fun _ => hE2, ?_⟩
      apply segs_cons
      · intro W hW
        simp only [runsT, runsF, rep, pick]
        go_wp2_with fail
        exact ⟨rfl, rfl⟩
      simp only [runsT, runsF, rep, left]
      go_wp2_with fail
      go_ret
      exact ⟨_, rfl, hp2, (hE1.trans (Ext.drew _)).trans hE2⟩
set_option maxRecDepth 100000 in
theorem drop_any (k : Int) : ∀ (t : T Int (Option Addr)) (p : Option Addr) (w : World) (tb : Nat) (root : Option Addr), isT w p t → TreeAt w tb root → t.sz < 800000000 →
    Calls Tryz.prog 134 #[.pointer (some ⟨tb, 0, none⟩), .pointer p, .int .i64 k] w fun e w' => ∃ q, e = .returned (.pointer q) ∧ isT w' q (T.drop cint k t) ∧ Ext w w' := by
  intro t
  induction t with
  | nil =>
    intro p w tb root hp hT _
    obtain rfl := hp
    clear hT
    go_enter Tryz.func134, Tryz.ntmps134
    go_wp2_with fail
    go_ret
    exact ⟨_, rfl, rfl, Ext.refl _⟩
  | node xk xv l r ihl ihr =>
    intro p w tb root hp hT hs
    obtain ⟨b, pl, pr, rfl, hb, hl, hr⟩ := isT_node hp
    simp only [T.sz] at hs
    have g1 := l.sz_nn
    have g2 := r.sz_nn
    have HB := Lib.hid hb
    have HT := Lib.hid hT
    have H1 := Lib.hid hl
    have H2 := Lib.hid hr
    have IHL0 := Lib.hid ihl
    have IHR0 := Lib.hid ihr
    clear hb hT hl hr hp ihl ihr
    by_cases q1 : cint k xk < 0
    · have e : T.drop cint k (.node xk xv l r) = T.joined xk xv (T.drop cint k l) r := by simp only [T.drop]; rw [if_pos q1]
      rw [e]
      have hd : decide (cint k xk < 0) = true := decide_eq_true q1
      clear e
      go_enter Tryz.func134, Tryz.ntmps134
      go_wp2_with fail
      refine wp_region_segs 11 [([9, 2], false), ([1], false)] (by kernel_rfl) (by kernel_rfl) ?_
      apply segs_cons
      · intro W hW
        have c0 := (HB.out.ext hW.of_drew).c0
        have c1 := (HB.out.ext hW.of_drew).c1
        have c2 := (HB.out.ext hW.of_drew).c2
        have c3 := (HB.out.ext hW.of_drew).c3
        have c4 := (HB.out.ext hW.of_drew).c4
        have c5 := (HB.out.ext hW.of_drew).c5
        have t0 := (HT.out.ext hW.of_drew).c0
        have t1 := (HT.out.ext hW.of_drew).c1
        simp only [runsT, runsF, rep, pick]
        go_wp2_with fail
        exact ⟨rfl, rfl⟩
      simp only [runsT, runsF, rep, left]
      go_wp2_with fail
      refine (cmp_any _ _ _).mono ?_
      rintro e w' ⟨rfl, rfl⟩
      go_wp2_with fail
      refine ⟨fun _ => Ext.refl _, ?_⟩
      apply segs_cons
      · intro W hW
        simp only [runsT, runsF, rep, pick]
        go_wp2_with fail
        exact ⟨rfl, rfl⟩
      simp only [runsT, runsF, rep, left]
      go_wp2_with fail
      have IHL := IHL0.out
      refine wp_region_segs 21 [([14, 1, 4, 2], false), ([0, 2], false), ([1], false)] (by kernel_rfl) (by kernel_rfl) ?_
      apply segs_cons
      · intro W hW
        have c0 := (HB.out.ext ((Ext.drew _).trans hW.of_drew)).c0
        have c1 := (HB.out.ext ((Ext.drew _).trans hW.of_drew)).c1
        have c2 := (HB.out.ext ((Ext.drew _).trans hW.of_drew)).c2
        have c3 := (HB.out.ext ((Ext.drew _).trans hW.of_drew)).c3
        have c4 := (HB.out.ext ((Ext.drew _).trans hW.of_drew)).c4
        have c5 := (HB.out.ext ((Ext.drew _).trans hW.of_drew)).c5
        simp only [runsT, runsF, rep, pick]
        go_wp2_with fail
        exact ⟨rfl, rfl⟩
      simp only [runsT, runsF, rep, left]
      go_wp2_with fail
      refine (IHL pl _ tb root (H1.out.ext ((Ext.drew _).trans (Ext.drew _))) (HT.out.ext ((Ext.drew _).trans (Ext.drew _))) (by omega)).mono ?_
      rintro e w1 ⟨p1, rfl, hp1, hE1⟩
      go_wp2_with fail
      refine ⟨fun _ => hE1, ?_⟩
      apply segs_cons
      · intro W hW
        exact ⟨rfl, rfl⟩
      simp only [runsT, runsF, rep, left]
      go_wp2_with fail
      refine (joined_any _ _ _ _ _ _ _ hp1 (H2.out.ext (((Ext.drew _).trans (Ext.drew _)).trans hE1)) (by have := T.sz_drop_le cint k l; omega)).mono ?_
      rintro e w2 ⟨p2, rfl, hp2, hE2⟩
      go_wp2_with fail
      refine ⟨fun _ => hE2, ?_⟩
      apply segs_cons
      · intro W hW
        simp only [runsT, runsF, rep, pick]
        go_wp2_with fail
        exact ⟨rfl, rfl⟩
      simp only [runsT, runsF, rep, left]
      go_wp2_with fail
      go_ret
      exact ⟨_, rfl, hp2, (((Ext.drew _).trans (Ext.drew _)).trans hE1).trans hE2⟩
    · by_cases q2 : cint k xk > 0
      · have e : T.drop cint k (.node xk xv l r) = T.joined xk xv l (T.drop cint k r) := by simp only [T.drop]; rw [if_neg q1, if_pos q2]
        rw [e]
        have hd : decide (cint k xk < 0) = false := decide_eq_false q1
        have hd2 : decide (0 < cint k xk) = true := decide_eq_true q2
        clear e
        go_enter Tryz.func134, Tryz.ntmps134
        go_wp2_with fail
        refine wp_region_segs 11 [([9, 2], false), ([1], false)] (by kernel_rfl) (by kernel_rfl) ?_
        apply segs_cons
        · intro W hW
          have c0 := (HB.out.ext hW.of_drew).c0
          have c1 := (HB.out.ext hW.of_drew).c1
          have c2 := (HB.out.ext hW.of_drew).c2
          have c3 := (HB.out.ext hW.of_drew).c3
          have c4 := (HB.out.ext hW.of_drew).c4
          have c5 := (HB.out.ext hW.of_drew).c5
          have t0 := (HT.out.ext hW.of_drew).c0
          have t1 := (HT.out.ext hW.of_drew).c1
          simp only [runsT, runsF, rep, pick]
          go_wp2_with fail
          exact ⟨rfl, rfl⟩
        simp only [runsT, runsF, rep, left]
        go_wp2_with fail
        refine (cmp_any _ _ _).mono ?_
        rintro e w' ⟨rfl, rfl⟩
        go_wp2_with fail
        refine ⟨fun _ => Ext.refl _, ?_⟩
        apply segs_cons
        · intro W hW
          simp only [runsT, runsF, rep, pick]
          go_wp2_with fail
          exact ⟨rfl, rfl⟩
        simp only [runsT, runsF, rep, left]
        go_wp2_with fail
        have IHR := IHR0.out
        refine wp_region_segs 21 [([18, 3], false), ([0, 2], false), ([1], false)] (by kernel_rfl) (by kernel_rfl) ?_
        apply segs_cons
        · intro W hW
          have c0 := (HB.out.ext ((Ext.drew _).trans hW.of_drew)).c0
          have c1 := (HB.out.ext ((Ext.drew _).trans hW.of_drew)).c1
          have c2 := (HB.out.ext ((Ext.drew _).trans hW.of_drew)).c2
          have c3 := (HB.out.ext ((Ext.drew _).trans hW.of_drew)).c3
          have c4 := (HB.out.ext ((Ext.drew _).trans hW.of_drew)).c4
          have c5 := (HB.out.ext ((Ext.drew _).trans hW.of_drew)).c5
          simp only [runsT, runsF, rep, pick]
          go_wp2_with fail
          exact ⟨rfl, rfl⟩
        simp only [runsT, runsF, rep, left]
        go_wp2_with fail
        refine (IHR pr _ tb root (H2.out.ext ((Ext.drew _).trans (Ext.drew _))) (HT.out.ext ((Ext.drew _).trans (Ext.drew _))) (by omega)).mono ?_
        rintro e w1 ⟨p1, rfl, hp1, hE1⟩
        go_wp2_with fail
        refine ⟨fun _ => hE1, ?_⟩
        apply segs_cons
        · intro W hW
          exact ⟨rfl, rfl⟩
        simp only [runsT, runsF, rep, left]
        go_wp2_with fail
        refine (joined_any _ _ _ _ _ _ _ (H1.out.ext (((Ext.drew _).trans (Ext.drew _)).trans hE1)) hp1 (by have := T.sz_drop_le cint k r; omega)).mono ?_
        rintro e w2 ⟨p2, rfl, hp2, hE2⟩
        go_wp2_with fail
        refine ⟨fun _ => hE2, ?_⟩
        apply segs_cons
        · intro W hW
          simp only [runsT, runsF, rep, pick]
          go_wp2_with fail
          exact ⟨rfl, rfl⟩
        simp only [runsT, runsF, rep, left]
        go_wp2_with fail
        go_ret
        exact ⟨_, rfl, hp2, (((Ext.drew _).trans (Ext.drew _)).trans hE1).trans hE2⟩
      · have e : T.drop cint k (.node xk xv l r) = T.both l r := by simp only [T.drop]; rw [if_neg q1, if_neg q2]
        rw [e]
        have hd : decide (cint k xk < 0) = false := decide_eq_false q1
        have hd2 : decide (0 < cint k xk) = false := decide_eq_false q2
        clear e
        go_enter Tryz.func134, Tryz.ntmps134
        go_wp2_with fail
        refine wp_region_segs 11 [([9, 2], false), ([1], false)] (by kernel_rfl) (by kernel_rfl) ?_
        apply segs_cons
        · intro W hW
          have c0 := (HB.out.ext hW.of_drew).c0
          have c1 := (HB.out.ext hW.of_drew).c1
          have c2 := (HB.out.ext hW.of_drew).c2
          have c3 := (HB.out.ext hW.of_drew).c3
          have c4 := (HB.out.ext hW.of_drew).c4
          have c5 := (HB.out.ext hW.of_drew).c5
          have t0 := (HT.out.ext hW.of_drew).c0
          have t1 := (HT.out.ext hW.of_drew).c1
          simp only [runsT, runsF, rep, pick]
          go_wp2_with fail
          exact ⟨rfl, rfl⟩
        simp only [runsT, runsF, rep, left]
        go_wp2_with fail
        refine (cmp_any _ _ _).mono ?_
        rintro e w' ⟨rfl, rfl⟩
        go_wp2_with fail
        refine ⟨fun _ => Ext.refl _, ?_⟩
        apply segs_cons
        · intro W hW
          simp only [runsT, runsF, rep, pick]
          go_wp2_with fail
          exact ⟨rfl, rfl⟩
        simp only [runsT, runsF, rep, left]
        go_wp2_with fail
        refine wp_region_segs 10 [([8, 2], false), ([1], false)] (by kernel_rfl) (by kernel_rfl) ?_
        apply segs_cons
        · intro W hW
          have c0 := (HB.out.ext ((Ext.drew _).trans hW.of_drew)).c0
          have c1 := (HB.out.ext ((Ext.drew _).trans hW.of_drew)).c1
          have c2 := (HB.out.ext ((Ext.drew _).trans hW.of_drew)).c2
          have c3 := (HB.out.ext ((Ext.drew _).trans hW.of_drew)).c3
          have c4 := (HB.out.ext ((Ext.drew _).trans hW.of_drew)).c4
          have c5 := (HB.out.ext ((Ext.drew _).trans hW.of_drew)).c5
          simp only [runsT, runsF, rep, pick]
          go_wp2_with fail
          exact ⟨rfl, rfl⟩
        simp only [runsT, runsF, rep, left]
        go_wp2_with fail
        refine (both_any _ _ _ _ _ (H1.out.ext ((Ext.drew _).trans (Ext.drew _))) (H2.out.ext ((Ext.drew _).trans (Ext.drew _))) (by omega)).mono ?_
        rintro e w1 ⟨p1, rfl, hp1, hE1⟩
        go_wp2_with fail
        refine ⟨fun _ => hE1, ?_⟩
        apply segs_cons
        · intro W hW
          simp only [runsT, runsF, rep, pick]
          go_wp2_with fail
          exact ⟨rfl, rfl⟩
        simp only [runsT, runsF, rep, left]
        go_wp2_with fail
        go_ret
        exact ⟨_, rfl, hp1, ((Ext.drew _).trans (Ext.drew _)).trans hE1⟩
set_option maxRecDepth 100000 in
theorem Drop_any (k : Int) (t : T Int (Option Addr)) (p : Option Addr) (w : World) (h : isTree w p t) (hs : t.sz < 800000000) :
    Calls Tryz.prog 104 #[.pointer p, .int .i64 k] w fun e w' => ∃ q, e = .returned (.pointer q) ∧ isTree w' q (T.drop cint k t) ∧ Ext w w' := by
  obtain ⟨tb, root, rfl, hT, hR⟩ := h
  have hA : Ext w w := Ext.refl _
  have HT := Lib.hid (hT.ext hA)
  have H1 := Lib.hid (hR.ext hA)
  clear hT hR
  go_enter Tryz.func104, Tryz.ntmps104
  go_wp2_with fail
  refine wp_region_segs 14 [([10, 4], false), ([1, 2], false), ([1], false)] (by kernel_rfl) (by kernel_rfl) ?_
  apply segs_cons
  · intro W hW
    have t0 := (HT.out.ext hW.of_drew).c0
    have t1 := (HT.out.ext hW.of_drew).c1
    simp only [runsT, runsF, rep, pick]
    go_wp2_with fail
    exact ⟨rfl, rfl⟩
  simp only [runsT, runsF, rep, left]
  go_wp2_with fail
  refine (drop_any _ _ _ _ tb root (H1.out.ext (Ext.drew _)) (HT.out.ext (Ext.drew _)) hs).mono ?_
  rintro e w1 ⟨p1, rfl, hp1, hE1⟩
  go_wp2_with fail
  refine ⟨fun _ => hE1, ?_⟩
  apply segs_cons
  · intro W hW
    simp only [runsT, runsF, rep, pick]
    go_wp2_with fail
    exact ⟨rfl, rfl⟩
  simp only [runsT, runsF, rep, left]
  go_wp2_with fail
  refine ⟨fun _ => (Below.refl _ _).alloc (Nat.le_refl _) _, ?_⟩
  apply segs_cons
  · intro W hW
    simp only [runsT, runsF, rep, pick]
    go_wp2_with fail
    exact ⟨rfl, rfl⟩
  simp only [runsT, runsF, rep, left]
  go_wp2_with fail
  go_ret
  have hB : Ext w1 (w1.alloc (Obj.cells #[.func (.func 79) #[] #[], .pointer p1] 157)) := (Below.refl _ _).alloc (Nat.le_refl _) _
  exact ⟨_, rfl, ⟨_, p1, rfl, Blk.new _ _ _, hp1.ext hB⟩, hA.trans (((Ext.drew _).trans hE1).trans hB)⟩
/-- What a search tells. -/
def Found (w : World) (r : Option (T Int (Option Addr)) × Int) (e : Ending) (w' : World) : Prop :=
  ∃ q, e = .returned (.tuple #[.pointer q, .int .i64 r.2]) ∧ (match r.1 with | none => q = none | some s => isT w' q s ∧ ∃ k v l r, s = .node k v l r) ∧ Ext w w'
set_option maxRecDepth 100000 in
set_option maxHeartbeats 800000 in
theorem find_any (k : Int) (t : T Int (Option Addr)) (p : Option Addr) (w : World) (h : isTree w p t) (hs : t.sz < 1000000000) :
    Calls Tryz.prog 121 #[.pointer p, .int .i64 k] w (Found w (T.find cint k t)) := by
  obtain ⟨tb, root, rfl, hT, hR⟩ := h
  have HT0 := Lib.hid hT
  have H0 := Lib.hid hR
  have t1 := hT.c1
  have g0 := t.sz_nn
  clear hT hR
  go_enter Tryz.func121, Tryz.ntmps121
  go_wp2_with fail
  clear t1
  go_loopg [6, 7] t.sz.toNat (fun g ah x wr => ∃ (s : T Int (Option Addr)) (q : Option Addr) (acc : Int), x = .pointer q ∧ ah = .int .i64 acc ∧ isT wr q s ∧ Ext w wr ∧ (T.find cint k t).1 = (T.find cint k s).1 ∧ (T.find cint k t).2 = acc + (T.find cint k s).2 ∧ 0 ≤ acc ∧ acc + s.sz ≤ t.sz ∧ s.sz.toNat ≤ g)
  case atStart => exact ⟨t, root, 0, rfl, rfl, H0.out, Ext.refl _, rfl, by omega, by omega, by omega, Nat.le_refl _⟩
  case round =>
    obtain ⟨s, q, acc, rfl, rfl, hq, hE, e1, e2, hacc, hsum, hg⟩ := hrel
    have He1 := Lib.hid e1
    have He2 := Lib.hid e2
    have HE := Lib.hid hE
    have HT := Lib.hid (HT0.out.ext hE)
    clear e1 e2 hE
    cases s with
    | nil =>
      obtain rfl := hq
      simp only [T.sz] at hsum hg
      go_wp2_with fail
      go_ret2
      refine ⟨none, ?_, ?_, HE.out⟩
      · rw [He2.out]; simp [T.find]
      · rw [He1.out]; simp [T.find]
    | node xk xv l r =>
      obtain ⟨b, pl, pr, rfl, hb, hl, hr⟩ := isT_node hq
      simp only [T.sz] at hsum hg
      have g1 := l.sz_nn
      have g2 := r.sz_nn
      have HB := Lib.hid hb
      have H1 := Lib.hid hl
      have H2 := Lib.hid hr
      have HQ := Lib.hid hq
      clear hb hl hr hq
      by_cases q1 : cint k xk = 0
      · have e : T.find cint k (.node xk xv l r) = (some (.node xk xv l r), l.sz) := by simp only [T.find]; rw [if_pos q1]
        have He := Lib.hid e
        have hd : (cint k xk == 0) = true := beq_iff_eq.2 q1
        have Hq1 := Lib.hid q1
        clear e q1
        go_wp2_with fail
        have cL := HB.out.c2
        refine wp_region_segs 11 [([9, 2], false), ([1], false)] (by kernel_rfl) (by kernel_rfl) ?_
        apply segs_cons
        · intro W hW
          have c0 := (HB.out.ext hW.of_drew).c0
          have c1 := (HB.out.ext hW.of_drew).c1
          have c2 := (HB.out.ext hW.of_drew).c2
          have c3 := (HB.out.ext hW.of_drew).c3
          have c4 := (HB.out.ext hW.of_drew).c4
          have c5 := (HB.out.ext hW.of_drew).c5
          have t0 := (HT.out.ext hW.of_drew).c0
          simp only [runsT, runsF, rep, pick]
          go_wp2_with fail
          exact ⟨rfl, rfl⟩
        simp only [runsT, runsF, rep, left]
        go_wp2_with fail
        refine (cmp_any _ _ _).mono ?_
        rintro e w' ⟨rfl, rfl⟩
        go_wp2_with fail
        refine ⟨fun _ => Ext.refl _, ?_⟩
        apply segs_cons
        · intro W hW
          simp only [runsT, runsF, rep, pick]
          go_wp2_with fail
          exact ⟨rfl, rfl⟩
        simp only [runsT, runsF, rep, left]
        go_wp2_with fail
        refine (size_any _ _ _ (H1.out.ext ((Ext.drew _)))).mono ?_
        rintro e w' ⟨rfl, rfl⟩
        go_wp2_with fail
        go_ret2
        refine ⟨some ⟨b, 0, none⟩, ?_, ?_, HE.out.trans (Ext.drew _)⟩
        · rw [He2.out, He.out]; rfl
        · rw [He1.out, He.out]; exact ⟨HQ.out.ext (Ext.drew _), _, _, _, _, rfl⟩
      · by_cases q2 : cint k xk < 0
        · have e : T.find cint k (.node xk xv l r) = T.find cint k l := by simp only [T.find]; rw [if_neg q1, if_pos q2]
          have He := Lib.hid e
          have hd : (cint k xk == 0) = false := beq_eq_false_iff_ne.2 q1
          have hd2 : decide (cint k xk < 0) = true := decide_eq_true q2
          clear e q1
          go_wp2_with fail
          have cL := HB.out.c2
          refine wp_region_segs 11 [([9, 2], false), ([1], false)] (by kernel_rfl) (by kernel_rfl) ?_
          apply segs_cons
          · intro W hW
            have c0 := (HB.out.ext hW.of_drew).c0
            have c1 := (HB.out.ext hW.of_drew).c1
            have c2 := (HB.out.ext hW.of_drew).c2
            have c3 := (HB.out.ext hW.of_drew).c3
            have c4 := (HB.out.ext hW.of_drew).c4
            have c5 := (HB.out.ext hW.of_drew).c5
            have t0 := (HT.out.ext hW.of_drew).c0
            simp only [runsT, runsF, rep, pick]
            go_wp2_with fail
            exact ⟨rfl, rfl⟩
          simp only [runsT, runsF, rep, left]
          go_wp2_with fail
          refine (cmp_any _ _ _).mono ?_
          rintro e w' ⟨rfl, rfl⟩
          go_wp2_with fail
          refine ⟨fun _ => Ext.refl _, ?_⟩
          apply segs_cons
          · intro W hW
            simp only [runsT, runsF, rep, pick]
            go_wp2_with fail
            exact ⟨rfl, rfl⟩
          simp only [runsT, runsF, rep, left]
          go_wp2_with fail
          go_roundg l.sz.toNat
          case measure => omega
          case rel => exact ⟨l, pl, acc, rfl, rfl, H1.out.ext (Ext.drew _), HE.out.trans (Ext.drew _), by rw [He1.out, He.out], by rw [He2.out, He.out], hacc, by omega, Nat.le_refl _⟩
        · have e : T.find cint k (.node xk xv l r) = ((T.find cint k r).1, l.sz + 1 + (T.find cint k r).2) := by simp only [T.find]; rw [if_neg q1, if_neg q2]
          have He := Lib.hid e
          have hd : (cint k xk == 0) = false := beq_eq_false_iff_ne.2 q1
          have hd2 : decide (cint k xk < 0) = false := decide_eq_false q2
          clear e q1 q2
          go_wp2_with fail
          refine wp_region_segs 11 [([9, 2], false), ([1], false)] (by kernel_rfl) (by kernel_rfl) ?_
          apply segs_cons
          · intro W hW
            have c0 := (HB.out.ext hW.of_drew).c0
            have c1 := (HB.out.ext hW.of_drew).c1
            have c2 := (HB.out.ext hW.of_drew).c2
            have c3 := (HB.out.ext hW.of_drew).c3
            have c4 := (HB.out.ext hW.of_drew).c4
            have c5 := (HB.out.ext hW.of_drew).c5
            have t0 := (HT.out.ext hW.of_drew).c0
            simp only [runsT, runsF, rep, pick]
            go_wp2_with fail
            exact ⟨rfl, rfl⟩
          simp only [runsT, runsF, rep, left]
          go_wp2_with fail
          refine (cmp_any _ _ _).mono ?_
          rintro e w' ⟨rfl, rfl⟩
          go_wp2_with fail
          refine ⟨fun _ => Ext.refl _, ?_⟩
          apply segs_cons
          · intro W hW
            simp only [runsT, runsF, rep, pick]
            go_wp2_with fail
            exact ⟨rfl, rfl⟩
          simp only [runsT, runsF, rep, left]
          go_wp2_with fail
          refine wp_region_segs 14 [([5, 3, 4, 2], false), ([4], false)] (by kernel_rfl) (by kernel_rfl) ?_
          apply segs_cons
          · intro W hW
            have c0 := (HB.out.ext ((Ext.drew _).trans hW.of_drew)).c0
            have c1 := (HB.out.ext ((Ext.drew _).trans hW.of_drew)).c1
            have c2 := (HB.out.ext ((Ext.drew _).trans hW.of_drew)).c2
            have c3 := (HB.out.ext ((Ext.drew _).trans hW.of_drew)).c3
            have c4 := (HB.out.ext ((Ext.drew _).trans hW.of_drew)).c4
            have c5 := (HB.out.ext ((Ext.drew _).trans hW.of_drew)).c5
            simp only [runsT, runsF, rep, pick]
            go_wp2_with fail
            exact ⟨rfl, rfl⟩
          simp only [runsT, runsF, rep, left]
          go_wp2_with fail
          refine (size_any _ _ _ (H1.out.ext ((Ext.drew _).trans (Ext.drew _)))).mono ?_
          rintro e w' ⟨rfl, rfl⟩
          go_wp2_with fail
          refine ⟨fun _ => Ext.refl _, ?_⟩
          apply segs_cons
          · intro W hW
            simp only [runsT, runsF, rep, pick]
            go_wp2_with fail
            exact ⟨rfl, rfl⟩
          simp only [runsT, runsF, rep, left]
          go_wp2_with fail
          go_roundg r.sz.toNat
          case measure => omega
          case rel => exact ⟨r, pr, acc + l.sz + 1, rfl, by go_num, H2.out.ext ((Ext.drew _).trans (Ext.drew _)), HE.out.trans ((Ext.drew _).trans (Ext.drew _)), by rw [He1.out, He.out], by rw [He2.out, He.out]; omega, by omega, by omega, Nat.le_refl _⟩
theorem New_any (w : World) : Calls Tryz.prog 78 #[.func (.func 79) #[] #[]] w fun e w' => ∃ q, e = .returned (.pointer q) ∧ isTree w' q (T.nil : T Int (Option Addr)) ∧ Ext w w' := by
  have he := fun (w : World) => run_eq_func_nil (P := Tryz.prog) Tryz.underlying124 (.func 79) #[] #[] w
  go_enter Tryz.func78, Tryz.ntmps78
  go_wp2_with fail
  go_ret
  have hA : Ext w (w.alloc (Obj.cells #[.func (.func 79) #[] #[], .pointer none] 157)) := (Below.refl _ _).alloc (Nat.le_refl _) _
  exact ⟨_, rfl, ⟨_, none, rfl, Blk.new _ _ _, rfl⟩, hA⟩
/-- What a look for a key tells: its thing, or the zero one. -/
def Got (w : World) (r : Option (Option Addr)) (e : Ending) (w' : World) : Prop :=
  (match r with | some v => e = .returned (.tuple #[.pointer v, .bool true]) | none => e = .returned (.tuple #[.pointer none, .bool false])) ∧ Ext w w'
theorem get_find (k : Int) : ∀ t : T Int (Option Addr), T.get cint k t = match (T.find cint k t).1 with | some (.node _ v _ _) => some v | _ => none
  | .nil => rfl
  | .node xk xv l r => by
    simp only [T.get, T.find]
    split
    · rfl
    · split
      · exact get_find k l
      · exact get_find k r
theorem Get_any (k : Int) (t : T Int (Option Addr)) (p : Option Addr) (w : World) (h : isTree w p t) (hs : t.sz < 1000000000) :
    Calls Tryz.prog 90 #[.pointer p, .int .i64 k] w (Got w (T.get cint k t)) := by
  skip
  have HP := Lib.hid h
  clear h
  go_enter Tryz.func90, Tryz.ntmps90
  go_wp2_with fail
  refine (find_any k t p _ HP.out hs).mono ?_
  rintro e w1 ⟨q, rfl, hq, hE⟩
  skip
  have hg := get_find k t
  cases hf : (T.find cint k t).1 with
  | none =>
    rw [hf] at hq hg
    obtain rfl := hq
    have HG := Lib.hid hg
    clear hg hf
    go_wp2_with fail
    go_ret2
    unfold Got
    rw [HG.out]
    exact ⟨rfl, hE⟩
  | some s =>
    rw [hf] at hq hg
    obtain ⟨hq, xk, xv, l, r, rfl⟩ := hq
    obtain ⟨b, pl, pr, rfl, hb, _, _⟩ := isT_node hq
    have HG := Lib.hid hg
    have c1 := hb.c1
    clear hg hf hq hb
    go_wp2_with fail
    go_ret2
    unfold Got
    rw [HG.out]
    exact ⟨rfl, hE⟩
end Go.Proofs.YtdfbfcglacalmaaGreat.TrBk
end

section
namespace Go.Proofs.YtdfbfcglacalmaaGreat.Exi
open Go.RowKit Go.Seg Go.Open Go.Lib Rk Ex

def IndexAt (w : World) (b : Nat) (te : T Int Int) (tp : T Int (Option Addr)) (tt : Int → T Int Int) : Prop :=
  ∃ q1 q2, Blk w b #[.pointer q1, .pointer q2] 126 ∧ TrUI.isTree w q1 te ∧ TrBk.isTree w q2 tp ∧ ∀ x ∈ tp.toL, TrUI.isTree w x.2 (tt x.1)
theorem IndexAt.ext {w w' : World} {b : Nat} {te : T Int Int} {tp : T Int (Option Addr)} {tt : Int → T Int Int} (h : IndexAt w b te tp tt) (e : Ext w w') : IndexAt w' b te tp tt := by
  obtain ⟨q1, q2, h1, h2, h3, h4⟩ := h
  exact ⟨q1, q2, h1.ext e, h2.ext e, h3.ext e, fun x hx => (h4 x hx).ext e⟩
theorem IndexAt.setEnds {w : World} {b : Nat} {te te' : T Int Int} {tp : T Int (Option Addr)} {tt : Int → T Int Int} {q : Option Addr} (h : IndexAt w b te tp tt) (hq : TrUI.isTree w q te') : IndexAt (w.setCell ⟨b, 0, none⟩ (.pointer q)) b te' tp tt := by
  obtain ⟨q1, q2, h1, h2, h3, h4⟩ := h
  have hc := Chg.set w b 0 (.pointer q)
  exact ⟨q, q2, h1.set 0 _ rfl, hq.chg hc (.one h1 (by decide)) (.one h1 (by decide)), h3.chg hc (.one h1 (by decide)) (.one h1 (by decide)), fun x hx => (h4 x hx).chg hc (.one h1 (by decide)) (.one h1 (by decide))⟩
theorem IndexAt.setBks {w : World} {b : Nat} {te : T Int Int} {tp tp' : T Int (Option Addr)} {tt tt' : Int → T Int Int} {q : Option Addr} (h : IndexAt w b te tp tt) (hq : TrBk.isTree w q tp') (ht : ∀ x ∈ tp'.toL, TrUI.isTree w x.2 (tt' x.1)) : IndexAt (w.setCell ⟨b, 1, none⟩ (.pointer q)) b te tp' tt' := by
  obtain ⟨q1, q2, h1, h2, h3, h4⟩ := h
  have hc := Chg.set w b 1 (.pointer q)
  exact ⟨q1, q, h1.set 1 _ rfl, h2.chg hc (.one h1 (by decide)) (.one h1 (by decide)), hq.chg hc (.one h1 (by decide)) (.one h1 (by decide)), fun x hx => (ht x hx).chg hc (.one h1 (by decide)) (.one h1 (by decide))⟩

/-- An index of these rows. -/
def Idx (w : World) (b : Nat) (y : List (Int × Int)) : Prop := ∃ te tp tt, IndexAt w b te tp tt ∧ Inv te tp tt ∧ ordL tp.toL tt = y
theorem Idx.ext {w w' : World} {b : Nat} {y : List (Int × Int)} (h : Idx w b y) (e : Ext w w') : Idx w' b y := by
  obtain ⟨te, tp, tt, h1, h2⟩ := h
  exact ⟨te, tp, tt, h1.ext e, h2⟩
theorem Idx.blk {w : World} {b : Nat} {y : List (Int × Int)} (h : Idx w b y) : ∃ q1 q2, Blk w b #[.pointer q1, .pointer q2] 126 := by
  obtain ⟨te, tp, tt, ⟨q1, q2, h1, _⟩, _⟩ := h
  exact ⟨q1, q2, h1⟩

theorem Bucket_any (e : Int) (h1 : 1 ≤ e) (h2 : e ≤ 1099511627776) (w : World) : Calls Tryz.prog 89 #[.int .i64 e] w fun v w' => v = .returned (.int .i64 (bkt e)) ∧ w = w' := by
  have d1 : decide (e < 1) = false := decide_eq_false (by omega)
  go_enter Tryz.func89, Tryz.ntmps89
  go_wp2_with fail
  go_ret
  exact ⟨rfl, rfl⟩
theorem CDue_any (now n : Int) (h1 : 0 ≤ n) (h2 : n ≤ 274877906944) (w : World) : Calls Tryz.prog 114 #[.int .i64 n, .int .i64 now] w fun v w' => v = .returned (.bool (dueB now n)) ∧ w = w' := by
  have d1 : decide (n < 0) = false := decide_eq_false (by omega)
  have d2 : decide (274877906944 < n) = false := decide_eq_false (by omega)
  by_cases h : n < 274877906944
  · have d3 : (n == 274877906944) = false := beq_eq_false_iff_ne.2 (by omega)
    have e : dueB now n = decide (4 * n + 3 ≤ now) := by unfold dueB; rw [if_pos h]
    rw [e]
    by_cases hd : 4 * n + 3 ≤ now
    · have d4 : decide (n * 4 + 4 - 1 ≤ now) = true := decide_eq_true (by omega)
      rw [decide_eq_true hd]
      go_enter Tryz.func114, Tryz.ntmps114
      go_wp2_with fail
      go_ret
      refine ⟨?_, rfl⟩
      first | rfl | (congr 2; simp; omega)
    · have d4 : decide (n * 4 + 4 - 1 ≤ now) = false := decide_eq_false (by omega)
      rw [decide_eq_false hd]
      go_enter Tryz.func114, Tryz.ntmps114
      go_wp2_with fail
      go_ret
      refine ⟨?_, rfl⟩
      first | rfl | (congr 2; simp; omega)
  · obtain rfl : n = 274877906944 := by omega
    have e : dueB now 274877906944 = decide (1099511627776 ≤ now) := by unfold dueB; rw [if_neg (by omega)]
    rw [e]
    go_enter Tryz.func114, Tryz.ntmps114
    go_wp2_with fail
    go_ret
    exact ⟨rfl, rfl⟩

theorem New_idx (w : World) : Calls Tryz.prog 39 #[] w fun e w' => ∃ b, e = .returned (.pointer (some ⟨b, 0, none⟩)) ∧ w.heap.size ≤ b ∧ Idx w' b [] ∧ Ext w w' := by
  have hn : ∀ W, Calls Tryz.prog 77 #[] W fun e w' => ∃ q, e = .returned (.pointer q) ∧ TrUI.isTree w' q .nil ∧ Ext W w' := fun W => by
    go_enter Tryz.func77, Tryz.ntmps77
    go_wp2_with fail
    refine (TrUI.New_any _).mono ?_
    rintro e w' ⟨q, rfl, hq, hE⟩
    go_wp2_with fail
    go_ret
    exact ⟨q, rfl, hq, hE⟩
  have HN := Lib.hid hn
  clear hn
  go_enter Tryz.func39, Tryz.ntmps39
  go_wp2_with fail
  refine (HN.out _).mono ?_
  rintro e w1 ⟨q1, rfl, hq1, hE1⟩
  have HQ1 := Lib.hid hq1
  have HE1 := Lib.hid hE1
  clear hq1 hE1
  go_wp2_with fail
  refine (TrBk.New_any _).mono ?_
  rintro e w2 ⟨q2, rfl, hq2, hE2⟩
  have HQ2 := Lib.hid hq2
  have HE2 := Lib.hid hE2
  clear hq2 hE2
  go_wp2_with fail
  go_ret
  have hA : Ext w2 (w2.alloc (.cells #[.pointer q1, .pointer q2] 126)) := (Below.refl _ _).alloc (Nat.le_refl _) _
  exact ⟨_, rfl, Nat.le_trans HE1.out.size HE2.out.size, ⟨.nil, .nil, fun _ => .nil, ⟨q1, q2, Blk.new _ _ _, (HQ1.out.ext HE2.out).ext hA, HQ2.out.ext hA, fun x hx => by simp [T.toL] at hx⟩, Inv.nil, rfl⟩, (HE1.out.trans HE2.out).trans hA⟩

theorem End_any (b : Nat) (y : List (Int × Int)) (h : Int) (w : World) (hI : Idx w b y) (hl : y.length ≤ 1000000) : Calls Tryz.prog 101 #[.pointer (some ⟨b, 0, none⟩), .int .u64 h] w fun e w' => e = .returned (.int .i64 (endOf y h)) ∧ Ext w w' := by
  obtain ⟨te, tp, tt, ⟨q1, q2, hB, h1, _⟩, hInv, rfl⟩ := hI
  have hsz := ordL_len hInv
  rw [endOf_eq hInv h]
  have b0 := hB.cell (i := 0) rfl
  have H1 := Lib.hid h1
  obtain ⟨gv, hgv⟩ : ∃ gv, T.get cint h te = gv := ⟨_, rfl⟩
  rw [hgv]
  have HG := Lib.hid hgv
  clear hB h1 hInv hgv
  cases gv
  all_goals
    go_enter Tryz.func101, Tryz.ntmps101
    go_wp2_with fail
    refine (TrUI.Get_any h te _ _ H1.out (by omega)).mono ?_
    rintro e w' ⟨he, hE⟩
    rw [HG.out] at he
    obtain rfl := he
    go_wp2_with fail
    go_ret
    exact ⟨rfl, hE⟩
theorem End_nil (h : Int) (w : World) : Calls Tryz.prog 101 #[.pointer none, .int .u64 h] w fun e w' => e = .returned (.int .i64 0) ∧ w = w' := by
  go_enter Tryz.func101, Tryz.ntmps101
  go_wp2_with fail
  go_ret
  exact ⟨rfl, rfl⟩
end Go.Proofs.YtdfbfcglacalmaaGreat.Exi
end

section
namespace Go.Proofs.YtdfbfcglacalmaaGreat.Exi
open Go.RowKit Go.Seg Go.Open Go.Lib Rk Ex

theorem isNil_of_sz {t : T Int Int} (h : t.sz = 0) : t.toL = [] := by
  have := t.sz_toL
  exact List.eq_nil_of_length_eq_zero (by omega)
theorem Idx.mk' {w : World} {b : Nat} {te : T Int Int} {tp : T Int (Option Addr)} {tt : Int → T Int Int} {y : List (Int × Int)} (h : IndexAt w b te tp tt) (hi : Inv te tp tt) (e : ordL tp.toL tt = y) : Idx w b y := ⟨te, tp, tt, h, hi, e⟩

set_option maxRecDepth 100000 in
set_option maxHeartbeats 4000000 in
theorem Drop_any (b : Nat) (y : List (Int × Int)) (h : Int) (w : World) (hI : Idx w b y) (hl : y.length ≤ 1000000) :
    Calls Tryz.prog 73 #[.pointer (some ⟨b, 0, none⟩), .int .u64 h] w fun e w' => e = .returned (.bool (decide (endOf y h ≠ 0))) ∧ Idx w' b (rest y h) ∧ Chg (· = b) w w' := by
  have HI0 := Lib.hid hI
  obtain ⟨te, tp, tt, hA, hInv, hy⟩ := hI
  have HY := Lib.hid hy
  have hend := endOf_eq hInv h
  have hlen := ordL_len hInv
  obtain ⟨hs1, hs2⟩ := hInv.small
  rw [hy] at hend hlen
  have HInv := Lib.hid hInv
  have HAt := Lib.hid hA
  clear hy hInv hA
  cases hg : T.get cint h te with
  | none =>
    rw [hg] at hend
    have hr : rest y h = y := rest_none (fun x hx e1 => by
      rw [← HY.out] at hx
      have := (get_iff HInv.out.ue h x.2).2 (by rw [← e1]; exact (mem_ordL HInv.out x).1 hx)
      rw [hg] at this
      cases this)
    have HEnd := Lib.hid hend
    rw [hr, hend]
    clear hg hend hr
    go_enter Tryz.func73, Tryz.ntmps73
    go_wp2_with fail
    refine (End_any b y h _ HI0.out hl).mono ?_
    rw [HEnd.out]
    rintro e w' ⟨rfl, hE⟩
    go_wp2_with fail
    go_ret
    exact ⟨rfl, HI0.out.ext hE, Chg.of_below hE⟩
  | some v =>
    rw [hg] at hend
    obtain ⟨hv1, hv2, p, hp, hin⟩ := HInv.out.there hg
    have hvend : endOf y h = v := by rw [hend]; rfl
    have HEnd := Lib.hid hvend
    have hpm := (get_iff HInv.out.up _ _).1 hp
    have hsp := hs2 _ hpm
    have hdec : decide (endOf y h ≠ 0) = true := decide_eq_true (by rw [hvend]; omega)
    rw [hdec]
    have dv : (v == 0) = false := beq_eq_false_iff_ne.2 (by omega)
    have HP := Lib.hid hp
    have HPM := Lib.hid hpm
    have HG := Lib.hid hg
    obtain ⟨t', ht'⟩ : ∃ t', T.drop cint h (tt (bkt v)) = t' := ⟨_, rfl⟩
    have HT' := Lib.hid ht'
    have hszd := T.sz_drop_le cint h (tt (bkt v))
    rw [ht'] at hszd
    have hnn := t'.sz_nn
    clear hg hend hp hpm hdec hvend ht' hin
    go_enter Tryz.func73, Tryz.ntmps73
    go_wp2_with fail
    refine (End_any b y h _ HI0.out hl).mono ?_
    rw [HEnd.out]
    rintro e w1 ⟨rfl, hE1⟩
    have HE1 := Lib.hid hE1
    have HA1 := Lib.hid (HAt.out.ext hE1)
    obtain ⟨q1, q2, hB, hq1, hq2, hqt⟩ := HA1.out
    have b0 := hB.cell (i := 0) rfl
    have HQ1 := Lib.hid hq1
    clear hB hq1 hq2 hqt hE1
    go_wp2_with fail
    refine (TrUI.Drop_any h te _ _ HQ1.out (by omega)).mono ?_
    rintro e w2 ⟨q3, rfl, hq3, hE2⟩
    have HA2 := Lib.hid (HA1.out.ext hE2)
    have HQ3 := Lib.hid hq3
    have HC2 := Lib.hid (show Chg (· = b) w w2 from Chg.of_below (HE1.out.trans hE2))
    obtain ⟨q1', q2', hB, _⟩ := HA2.out
    have c0 := hB.cell (i := 0) rfl
    have f0 := hB.frozen 0
    clear hB hq3 hE2 b0
    go_wp2_with fail
    obtain ⟨W3, hW3⟩ : ∃ W, w2.setCell ⟨b, 0, none⟩ (.pointer q3) = W := ⟨_, rfl⟩
    have HA3 : Hid (IndexAt W3 b (T.drop cint h te) tp tt) := Lib.hid (by rw [← hW3]; exact HA2.out.setEnds HQ3.out)
    have HC3 : Hid (Chg (· = b) w W3) := Lib.hid (by rw [← hW3]; exact HC2.out.trans (Chg.set _ _ _ _))
    rw [hW3]
    clear hW3 c0 f0
    refine (Bucket_any v hv1 hv2 _).mono ?_
    rintro e w' ⟨rfl, rfl⟩
    obtain ⟨q4, q5, hB, _, hq5, hqt⟩ := HA3.out
    have b1 := hB.cell (i := 1) rfl
    have HQ5 := Lib.hid hq5
    have HQT := Lib.hid hqt
    clear hB hq5 hqt
    go_wp2_with fail
    refine (TrBk.Get_any (bkt v) tp _ _ HQ5.out (by omega)).mono ?_
    rintro e w4 ⟨he, hE4⟩
    rw [HP.out] at he
    obtain rfl := he
    have HA4 := Lib.hid (HA3.out.ext hE4)
    have HC4 := Lib.hid (show Chg (· = b) w w4 from HC3.out.trans (Chg.of_below hE4))
    have HTP := Lib.hid ((HQT.out _ HPM.out).ext hE4)
    clear hE4 b1
    go_wp2_with fail
    refine (TrUI.Drop_any h (tt (bkt v)) _ _ HTP.out (by omega)).mono ?_
    rw [HT'.out]
    rintro e w5 ⟨q6, rfl, hq6, hE5⟩
    have HA5 := Lib.hid (HA4.out.ext hE5)
    have HC5 := Lib.hid (show Chg (· = b) w w5 from HC4.out.trans (Chg.of_below hE5))
    have HQ6 := Lib.hid hq6
    clear hq6 hE5
    go_wp2_with fail
    refine (TrUI.Len_any t' _ _ HQ6.out).mono ?_
    rintro e w' ⟨rfl, rfl⟩
    obtain ⟨q7, q8, hB, _, hq8, hqt⟩ := HA5.out
    have b1 := hB.cell (i := 1) rfl
    have HQ8 := Lib.hid hq8
    have HQT5 := Lib.hid hqt
    clear hB hq8 hqt
    by_cases hz : t'.sz = 0
    · have dz : (t'.sz == 0) = true := by simp [hz]
      have HInv' := Lib.hid (HInv.out.dropLast HG.out (by rw [HT'.out]; exact isNil_of_sz hz))
      have HRest := Lib.hid (ordL_drop HInv.out h HInv'.out)
      clear hz
      go_wp2_with fail
      refine (TrBk.Drop_any (bkt v) tp _ _ HQ8.out (by omega)).mono ?_
      rintro e w6 ⟨q9, rfl, hq9, hE6⟩
      have HA6 := Lib.hid (HA5.out.ext hE6)
      have HC6 := Lib.hid (show Chg (· = b) w w6 from HC5.out.trans (Chg.of_below hE6))
      have HQ9 := Lib.hid hq9
      have HQT6 := Lib.hid (fun x hx => (HQT5.out x hx).ext hE6)
      obtain ⟨_, _, hB, _⟩ := HA6.out
      have c1 := hB.cell (i := 1) rfl
      have f1 := hB.frozen 1
      clear hB hq9 hE6 b1
      go_wp2_with fail
      go_ret
      exact ⟨rfl, Idx.mk' (HA6.out.setBks HQ9.out (fun x hx => HQT6.out x ((mem_drop HInv.out.up _ _).1 hx).1)) HInv'.out (by rw [HRest.out, HY.out]), HC6.out.trans (Chg.set _ _ _ _)⟩
    · have dz : (t'.sz == 0) = false := beq_eq_false_iff_ne.2 hz
      have HInv' : ∀ q, Hid (Inv (T.drop cint h te) (T.put cint (bkt v) q tp) (upd tt (bkt v) t')) := fun q => Lib.hid (by
        rw [← HT'.out]
        refine HInv.out.dropOne HG.out (fun hn => hz ?_) q
        rw [HT'.out] at hn
        rw [← T.sz_toL, hn]; rfl)
      have HInv' := Lib.hid HInv'
      clear hz
      go_wp2_with fail
      refine (TrBk.Put_any (bkt v) q6 tp _ _ HQ8.out (by omega)).mono ?_
      rintro e w6 ⟨q9, rfl, hq9, hE6⟩
      have HA6 := Lib.hid (HA5.out.ext hE6)
      have HC6 := Lib.hid (show Chg (· = b) w w6 from HC5.out.trans (Chg.of_below hE6))
      have HQ9 := Lib.hid hq9
      have HQT6 : Hid (∀ x ∈ (T.put cint (bkt v) q6 tp).toL, TrUI.isTree w6 x.2 (upd tt (bkt v) t' x.1)) := Lib.hid (fun x hx => by
        rcases (mem_put HInv.out.up _ _ _).1 hx with rfl | ⟨hx, hne⟩
        · rw [upd_self]; exact HQ6.out.ext hE6
        · rw [upd_other _ _ hne]; exact (HQT5.out x hx).ext hE6)
      obtain ⟨_, _, hB, _⟩ := HA6.out
      have c1 := hB.cell (i := 1) rfl
      have f1 := hB.frozen 1
      clear hB hq9 hE6 b1
      go_wp2_with fail
      go_ret
      exact ⟨rfl, Idx.mk' (HA6.out.setBks HQ9.out HQT6.out) (HInv'.out q6).out (by rw [ordL_drop HInv.out h (HInv'.out q6).out, HY.out]), HC6.out.trans (Chg.set _ _ _ _)⟩
theorem Drop_nil (h : Int) (w : World) : Calls Tryz.prog 73 #[.pointer none, .int .u64 h] w fun e w' => e = .returned (.bool false) ∧ w = w' := by
  go_enter Tryz.func73, Tryz.ntmps73
  go_wp2_with fail
  refine (End_nil _ _).mono ?_
  rintro e w' ⟨rfl, rfl⟩
  go_wp2_with fail
  go_ret
  exact ⟨rfl, rfl⟩
end Go.Proofs.YtdfbfcglacalmaaGreat.Exi
end

section
namespace Go.Proofs.YtdfbfcglacalmaaGreat.Exi
open Go.RowKit Go.Seg Go.Open Go.Lib Rk Ex

theorem none_any (W : World) : Calls Tryz.prog 77 #[] W fun e w' => ∃ q, e = .returned (.pointer q) ∧ TrUI.isTree w' q .nil ∧ Ext W w' := by
  go_enter Tryz.func77, Tryz.ntmps77
  go_wp2_with fail
  refine (TrUI.New_any _).mono ?_
  rintro e w' ⟨q, rfl, hq, hE⟩
  go_wp2_with fail
  go_ret
  exact ⟨q, rfl, hq, hE⟩
theorem rest_len (y : List (Int × Int)) (h : Int) : (rest y h).length ≤ y.length := List.length_filter_le _ _

set_option maxRecDepth 100000 in
set_option maxHeartbeats 4000000 in
theorem Put_any (b : Nat) (y : List (Int × Int)) (h e : Int) (w : World) (hI : Idx w b y) (hl : y.length < 1000000) :
    Calls Tryz.prog 57 #[.pointer (some ⟨b, 0, none⟩), .int .u64 h, .int .i64 e] w fun v w' => v = .returned (.tuple #[]) ∧ Idx w' b (refPut y h e) ∧ Chg (· = b) w w' := by
  have HI0 := Lib.hid hI
  have hrl := rest_len y h
  clear hI
  by_cases h1 : e < 1
  · have d1 : decide (e < 1) = true := decide_eq_true h1
    have hp : refPut y h e = rest y h := by unfold refPut; rw [if_pos (.inl h1)]
    rw [hp]
    clear hp
    go_enter Tryz.func57, Tryz.ntmps57
    go_wp2_with fail
    refine (Drop_any b y h _ HI0.out (by omega)).mono ?_
    rintro v w1 ⟨rfl, hI1, hC1⟩
    go_wp2_with fail
    refine bodyPost_ret (results_none rfl _ _ _) rfl ?_
    exact ⟨rfl, hI1, hC1⟩
  have d1 : decide (e < 1) = false := decide_eq_false h1
  by_cases h2 : 1099511627776 < e
  · have d2 : decide (1099511627776 < e) = true := decide_eq_true h2
    have hp : refPut y h e = rest y h := by unfold refPut; rw [if_pos (.inr h2)]
    rw [hp]
    clear hp
    go_enter Tryz.func57, Tryz.ntmps57
    go_wp2_with fail
    refine (Drop_any b y h _ HI0.out (by omega)).mono ?_
    rintro v w1 ⟨rfl, hI1, hC1⟩
    go_wp2_with fail
    refine bodyPost_ret (results_none rfl _ _ _) rfl ?_
    exact ⟨rfl, hI1, hC1⟩
  have d2 : decide (1099511627776 < e) = false := decide_eq_false h2
  have hp : refPut y h e = insX (h, e) (rest y h) := by unfold refPut; rw [if_neg (by omega)]
  rw [hp]
  clear hp
  go_enter Tryz.func57, Tryz.ntmps57
  go_wp2_with fail
  refine (Drop_any b y h _ HI0.out (by omega)).mono ?_
  rintro v w1 ⟨rfl, hI1, hC1⟩
  obtain ⟨te, tp, tt, hA, hInv, hy⟩ := hI1
  have HC1 := Lib.hid hC1
  have HY := Lib.hid hy
  have hlen := ordL_len hInv
  rw [hy] at hlen
  obtain ⟨hs1, hs2⟩ := hInv.small
  have hg : T.get cint h te = none := by
    cases hg : T.get cint h te with
    | none => rfl
    | some v =>
      have := (mem_ordL hInv _).2 ((get_iff hInv.ue _ _).1 hg)
      rw [hy, mem_rest] at this
      exact absurd rfl this.2
  have HG := Lib.hid hg
  have HInv := Lib.hid hInv
  have HA1 := Lib.hid hA
  obtain ⟨q1, q2, hB, hq1, _⟩ := hA
  have b0 := hB.cell (i := 0) rfl
  have HQ1 := Lib.hid hq1
  clear hB hq1 hC1 hy hInv hg
  go_wp2_with fail
  refine (TrUI.Put_any h e te _ _ HQ1.out (by omega)).mono ?_
  rintro v w2 ⟨q3, rfl, hq3, hE2⟩
  have HA2 := Lib.hid (HA1.out.ext hE2)
  have HQ3 := Lib.hid hq3
  have HC2 := Lib.hid (show Chg (· = b) w w2 from HC1.out.trans (Chg.of_below hE2))
  obtain ⟨_, _, hB, _⟩ := HA2.out
  have c0 := hB.cell (i := 0) rfl
  have f0 := hB.frozen 0
  clear hB hq3 hE2 b0
  go_wp2_with fail
  obtain ⟨W3, hW3⟩ : ∃ W, w2.setCell ⟨b, 0, none⟩ (.pointer q3) = W := ⟨_, rfl⟩
  have HA3 : Hid (IndexAt W3 b (T.put cint h e te) tp tt) := Lib.hid (by rw [← hW3]; exact HA2.out.setEnds HQ3.out)
  have HC3 : Hid (Chg (· = b) w W3) := Lib.hid (by rw [← hW3]; exact HC2.out.trans (Chg.set _ _ _ _))
  rw [hW3]
  clear hW3 c0 f0
  refine (Bucket_any e (by omega) (by omega) _).mono ?_
  rintro v w' ⟨rfl, rfl⟩
  obtain ⟨q4, q5, hB, _, hq5, hqt⟩ := HA3.out
  have b1 := hB.cell (i := 1) rfl
  have HQ5 := Lib.hid hq5
  have HQT := Lib.hid hqt
  clear hB hq5 hqt
  cases hp : T.get cint (bkt e) tp with
  | none =>
    have HP := Lib.hid hp
    clear hp
    go_wp2_with fail
    refine (TrBk.Get_any (bkt e) tp _ _ HQ5.out (by omega)).mono ?_
    rintro v w4 ⟨he, hE4⟩
    rw [HP.out] at he
    obtain rfl := he
    have HE4 := Lib.hid hE4
    clear hE4 b1
    go_wp2_with fail
    refine (none_any _).mono ?_
    rintro v w5 ⟨q6, rfl, hq6, hE5⟩
    obtain ⟨t0, ht0⟩ : ∃ t0, (T.nil : T Int Int) = t0 := ⟨_, rfl⟩
    have hq6' : TrUI.isTree w5 q6 t0 := by rw [← ht0]; exact hq6
    have hsz0 : t0.sz ≤ 1000000 := by rw [← ht0]; simp [T.sz]
    have HT0 : Hid ((∃ p, T.get cint (bkt e) tp = some p ∧ t0 = tt (bkt e)) ∨ (T.get cint (bkt e) tp = none ∧ t0 = .nil)) := Lib.hid (.inr ⟨HP.out, ht0.symm⟩)
    have HA5 := Lib.hid ((HA3.out.ext HE4.out).ext hE5)
    have HC5 := Lib.hid (show Chg (· = b) w w5 from (HC3.out.trans (Chg.of_below HE4.out)).trans (Chg.of_below hE5))
    have HQ6 := Lib.hid hq6'
    clear hq6 hq6' hE5 ht0
    obtain ⟨q7, q7', hB, _, hq7, hqt⟩ := HA5.out
    have HB5 := Lib.hid hB
    have HQ7 := Lib.hid hq7
    have HQT5 := Lib.hid hqt
    clear hB hq7 hqt
    go_wp2_with fail
    refine wp_region_segsK [([4, 1, 4, 5], 0, 0), ([1, 5], 3, 10), ([1, 3], 1, 0), ([2, 1], 0, 0), ([1], 1, 0)] (by kernel_rfl) (by kernel_rfl) ?_
    apply segsK_pure
    · intro W
      simp only [runsT, runsF, rep, pick]
      go_wp2_with fail
      exact ⟨rfl, rfl⟩
    simp only [runsT, runsF, rep, left]
    apply segsK_class
    · intro W hW
      have x1 := (HB5.out.ext hW.of_drew).cell (i := 1) rfl
      simp only [runsT, runsF, rep, pick]
      go_wp2_with fail
      exact ⟨rfl, rfl⟩
    simp only [runsT, runsF, rep, left]
    go_wp2_with fail
    refine (TrUI.Put_any h e t0 _ _ (HQ6.out.ext (Ext.drew _)) (by omega)).mono ?_
    rintro v w7 ⟨q8, rfl, hq8, hE7⟩
    have HQ8 := Lib.hid hq8
    have HE7 := Lib.hid ((Ext.drew _).trans hE7)
    clear hq8
    go_wp2_with fail
    refine ⟨fun _ => hE7, ?_⟩
    apply segsK_op
    go_wp2_with fail
    refine (TrBk.Put_any (bkt e) q8 tp _ _ (HQ7.out.ext HE7.out) (by omega)).mono ?_
    rintro v w8 ⟨q9, rfl, hq9, hE8⟩
    have HA8 := Lib.hid ((HA5.out.ext HE7.out).ext hE8)
    have HC8 := Lib.hid (show Chg (· = b) w w8 from (HC5.out.trans (Chg.of_below HE7.out)).trans (Chg.of_below hE8))
    have HQ9 := Lib.hid hq9
    have HQT8 : Hid (∀ x ∈ (T.put cint (bkt e) q8 tp).toL, TrUI.isTree w8 x.2 (upd tt (bkt e) (T.put cint h e t0) x.1)) := Lib.hid (fun x hx => by
      rcases (mem_put HInv.out.up _ _ _).1 hx with rfl | ⟨hx, hne⟩
      · rw [upd_self]; exact HQ8.out.ext hE8
      · rw [upd_other _ _ hne]; exact ((HQT5.out x hx).ext HE7.out).ext hE8)
    obtain ⟨_, _, hB8, _⟩ := HA8.out
    have c1 := hB8.cell (i := 1) rfl
    have f1 := hB8.frozen 1
    clear hB8 hq9 hE8
    go_wp2_with fail
    refine ⟨fun h => (by cases h), ?_⟩
    apply segsK_pure
    · intro W
      simp only [runsT, runsF, rep, pick]
      go_wp2_with fail
      exact ⟨rfl, rfl⟩
    simp only [runsT, runsF, rep, left]
    apply segsK_op
    go_wp2_with fail
    refine ⟨fun h => (by cases h), ?_⟩
    apply segsK_nil
    go_wp2_with fail
    go_end0
    have hInv' := HInv.out.put HG.out (by omega : 1 ≤ e) (by omega) t0 HT0.out q8
    exact ⟨rfl, Idx.mk' (HA8.out.setBks HQ9.out HQT8.out) hInv' (by rw [ordL_put HInv.out h e HG.out hInv', HY.out]), HC8.out.trans (Chg.set _ _ _ _)⟩
  | some p =>
    have HP := Lib.hid hp
    have hpm := (get_iff HInv.out.up _ _).1 hp
    have hsz0 : (tt (bkt e)).sz ≤ 1000000 := by have hs3 : (tt (bkt e)).sz ≤ te.sz := hs2 _ hpm; omega
    have HPM := Lib.hid hpm
    clear hp hpm
    go_wp2_with fail
    refine (TrBk.Get_any (bkt e) tp _ _ HQ5.out (by omega)).mono ?_
    rintro v w5 ⟨he, hE4⟩
    rw [HP.out] at he
    obtain rfl := he
    obtain ⟨t0, ht0⟩ : ∃ t0, tt (bkt e) = t0 := ⟨_, rfl⟩
    have hq6' : TrUI.isTree w5 p t0 := by rw [← ht0]; exact (HQT.out _ HPM.out).ext hE4
    rw [ht0] at hsz0
    have HT0 : Hid ((∃ p, T.get cint (bkt e) tp = some p ∧ t0 = tt (bkt e)) ∨ (T.get cint (bkt e) tp = none ∧ t0 = .nil)) := Lib.hid (.inl ⟨p, HP.out, ht0.symm⟩)
    have HA5 := Lib.hid (HA3.out.ext hE4)
    have HC5 := Lib.hid (show Chg (· = b) w w5 from HC3.out.trans (Chg.of_below hE4))
    have HQ6 := Lib.hid hq6'
    clear hq6' hE4 ht0 b1
    obtain ⟨q7, q7', hB, _, hq7, hqt⟩ := HA5.out
    have HB5 := Lib.hid hB
    have HQ7 := Lib.hid hq7
    have HQT5 := Lib.hid hqt
    clear hB hq7 hqt
    go_wp2_with fail
    refine wp_region_segsK [([4, 1, 4, 5], 0, 0), ([1, 5], 3, 10), ([1, 3], 1, 0), ([2, 1], 0, 0), ([1], 1, 0)] (by kernel_rfl) (by kernel_rfl) ?_
    apply segsK_pure
    · intro W
      simp only [runsT, runsF, rep, pick]
      go_wp2_with fail
      exact ⟨rfl, rfl⟩
    simp only [runsT, runsF, rep, left]
    apply segsK_class
    · intro W hW
      have x1 := (HB5.out.ext hW.of_drew).cell (i := 1) rfl
      simp only [runsT, runsF, rep, pick]
      go_wp2_with fail
      exact ⟨rfl, rfl⟩
    simp only [runsT, runsF, rep, left]
    go_wp2_with fail
    refine (TrUI.Put_any h e t0 _ _ (HQ6.out.ext (Ext.drew _)) (by omega)).mono ?_
    rintro v w7 ⟨q8, rfl, hq8, hE7⟩
    have HQ8 := Lib.hid hq8
    have HE7 := Lib.hid ((Ext.drew _).trans hE7)
    clear hq8
    go_wp2_with fail
    refine ⟨fun _ => hE7, ?_⟩
    apply segsK_op
    go_wp2_with fail
    refine (TrBk.Put_any (bkt e) q8 tp _ _ (HQ7.out.ext HE7.out) (by omega)).mono ?_
    rintro v w8 ⟨q9, rfl, hq9, hE8⟩
    have HA8 := Lib.hid ((HA5.out.ext HE7.out).ext hE8)
    have HC8 := Lib.hid (show Chg (· = b) w w8 from (HC5.out.trans (Chg.of_below HE7.out)).trans (Chg.of_below hE8))
    have HQ9 := Lib.hid hq9
    have HQT8 : Hid (∀ x ∈ (T.put cint (bkt e) q8 tp).toL, TrUI.isTree w8 x.2 (upd tt (bkt e) (T.put cint h e t0) x.1)) := Lib.hid (fun x hx => by
      rcases (mem_put HInv.out.up _ _ _).1 hx with rfl | ⟨hx, hne⟩
      · rw [upd_self]; exact HQ8.out.ext hE8
      · rw [upd_other _ _ hne]; exact ((HQT5.out x hx).ext HE7.out).ext hE8)
    obtain ⟨_, _, hB8, _⟩ := HA8.out
    have c1 := hB8.cell (i := 1) rfl
    have f1 := hB8.frozen 1
    clear hB8 hq9 hE8
    go_wp2_with fail
    refine ⟨fun h => (by cases h), ?_⟩
    apply segsK_pure
    · intro W
      simp only [runsT, runsF, rep, pick]
      go_wp2_with fail
      exact ⟨rfl, rfl⟩
    simp only [runsT, runsF, rep, left]
    apply segsK_op
    go_wp2_with fail
    refine ⟨fun h => (by cases h), ?_⟩
    apply segsK_nil
    go_wp2_with fail
    go_end0
    have hInv' := HInv.out.put HG.out (by omega : 1 ≤ e) (by omega) t0 HT0.out q8
    exact ⟨rfl, Idx.mk' (HA8.out.setBks HQ9.out HQT8.out) hInv' (by rw [ordL_put HInv.out h e HG.out hInv', HY.out]), HC8.out.trans (Chg.set _ _ _ _)⟩
theorem Put_nil (h e : Int) (w : World) : Calls Tryz.prog 57 #[.pointer none, .int .u64 h, .int .i64 e] w fun v w' => v = .returned (.tuple #[]) ∧ w = w' := by
  go_enter Tryz.func57, Tryz.ntmps57
  go_wp2_with fail
  refine (Drop_nil _ _).mono ?_
  rintro e w' ⟨rfl, rfl⟩
  go_wp2_with fail
  refine bodyPost_ret (results_none rfl _ _ _) rfl ?_
  exact ⟨rfl, rfl⟩
end Go.Proofs.YtdfbfcglacalmaaGreat.Exi
end
