/-
  The document's answer for layer 22: Find, and what the law turns one entry into the other by.
  Fewer than 1,000,000 of each; no other condition.
-/
import Derived.Test.YtnpfikabcmngpaaShR
namespace Go.Proofs.Ytnpfikabcmngpaa.ShR
open Go.RowKit Go.Seg Go.Open Go.Lib Rk Go.Row

theorem _root_.Go.Open.Blk.set7a {w : World} {b : Nat} {cs : Array Value} {E : TypeId} (h : Blk w b cs E) (hn : cs.size = 7) (a0 a1 a2 a3 a4 a5 a6 : Value) (o : Obj) :
    Blk ((((((((w.setCell ⟨b, 0, none⟩ a0).setCell ⟨b, 1, none⟩ a1).setCell ⟨b, 2, none⟩ a2).setCell ⟨b, 3, none⟩ a3).setCell ⟨b, 4, none⟩ a4).setCell ⟨b, 5, none⟩ a5).setCell ⟨b, 6, none⟩ a6).alloc o) b #[a0, a1, a2, a3, a4, a5, a6] E :=
  (Blk.set7 h hn a0 a1 a2 a3 a4 a5 a6).ext ((Below.refl _ _).alloc (Nat.le_refl _) _)
theorem Ext.set7a {w0 w : World} {b : Nat} (h : Ext w0 w) (hb : w0.heap.size ≤ b) (a0 a1 a2 a3 a4 a5 a6 : Value) (o : Obj) :
    Ext w0 ((((((((w.setCell ⟨b, 0, none⟩ a0).setCell ⟨b, 1, none⟩ a1).setCell ⟨b, 2, none⟩ a2).setCell ⟨b, 3, none⟩ a3).setCell ⟨b, 4, none⟩ a4).setCell ⟨b, 5, none⟩ a5).setCell ⟨b, 6, none⟩ a6).alloc o) := by
  have hs := Below.size h
  exact Below.alloc (Ext.set7 h hb a0 a1 a2 a3 a4 a5 a6) (by simpa using hs) _
/-- What is there of a pair. -/
def findR (L : List (Int × En)) (h c : Int) : Option En := match assoc L h with
  | some v => if v.1 = c then some v else none
  | none => none
set_option maxRecDepth 100000 in
set_option maxHeartbeats 2000000 in
theorem rFind_none (uL uW : Value) (B : Nat) (L : List (Int × En)) (Wy : List (Int × Int × Int)) (h c : Int) (w : World) (hL : RowL w B uL L) (hW : RowW w B uW Wy) (hl : L.length ≤ 1000000) (hg : assoc L h = none) :
    Calls Try.prog 13 #[.agg #[uL, uW], .agg #[.int .u64 h, .int .u64 c]] w fun e w' => e = .returned (foundV h none) ∧ Ext w w' := by
  obtain ⟨a, cap, rfl⟩ := hL.val
  obtain ⟨a2, cap2, rfl⟩ := hW.val
  have HL := Lib.hid hL
  have HW := Lib.hid hW
  have HG := Lib.hid hg
  clear hL hW hg
  have hA : Ext w (((w.alloc (Obj.cells #[.slice a L.length cap, .slice a2 Wy.length cap2] 30)).alloc (Obj.cells #[.int .u64 h, .int .u64 c] 39)).alloc (Obj.cells #[.int .u64 0, .int .u64 0, .int .i64 0, .int .i64 0, .int .i64 0, .int .i64 0, .int .i64 0] 35)) := (((Below.refl _ _).alloc (Nat.le_refl _) _).alloc (by simp) _).alloc (by simp; omega) _
  have HP := Lib.hid (show Blk (((w.alloc (Obj.cells #[.slice a L.length cap, .slice a2 Wy.length cap2] 30)).alloc (Obj.cells #[.int .u64 h, .int .u64 c] 39)).alloc (Obj.cells #[.int .u64 0, .int .u64 0, .int .i64 0, .int .i64 0, .int .i64 0, .int .i64 0, .int .i64 0] 35)) (w.heap.size + 1) #[.int .u64 h, .int .u64 c] 39 from Blk.ext (blk_at (by simp)) ((Below.refl _ _).alloc (Nat.le_refl _) _))
  have HR := Lib.hid (show Blk (((w.alloc (Obj.cells #[.slice a L.length cap, .slice a2 Wy.length cap2] 30)).alloc (Obj.cells #[.int .u64 h, .int .u64 c] 39)).alloc (Obj.cells #[.int .u64 0, .int .u64 0, .int .i64 0, .int .i64 0, .int .i64 0, .int .i64 0, .int .i64 0] 35)) (w.heap.size + 1 + 1) #[.int .u64 0, .int .u64 0, .int .i64 0, .int .i64 0, .int .i64 0, .int .i64 0, .int .i64 0] 35 from blk_at (by simp))
  go_enter Try.func13, Try.ntmps13
  go_wp2_with fail
  refine (rLook _ _ B L Wy h _ (HL.out.ext hA) (HW.out.ext hA) hl).mono ?_
  rw [HG.out]
  simp only [foundV, zS]
  rintro e w1 ⟨rfl, hE⟩
  have p0 := (HP.out.ext hE).cell (i := 0) rfl
  have p1 := (HP.out.ext hE).cell (i := 1) rfl
  have hst := Go.run_storeCells_new (P := Try.prog) w1 35 #[.int .u64 0, .int .u64 0, .int .i64 0, .int .i64 0, .int .i64 0, .int .i64 0, .int .i64 0] #[.int .u64 0, .int .u64 0, .int .i64 0, .int .i64 0, .int .i64 0, .int .i64 0, .int .i64 0] (by kernel_rfl) rfl (by simp [Value.oneCell'])
  have hld := Go.run_loadCellsFrom_new (P := Try.prog) w1 35 #[.int .u64 0, .int .u64 0, .int .i64 0, .int .i64 0, .int .i64 0, .int .i64 0, .int .i64 0] 7 rfl
  have z0 := (HR.out.ext hE).cell (i := 0) rfl
  have y0 := (HR.out.ext hE).frozen 0
  have z1 := (HR.out.ext hE).cell (i := 1) rfl
  have y1 := (HR.out.ext hE).frozen 1
  have z2 := (HR.out.ext hE).cell (i := 2) rfl
  have y2 := (HR.out.ext hE).frozen 2
  have z3 := (HR.out.ext hE).cell (i := 3) rfl
  have y3 := (HR.out.ext hE).frozen 3
  have z4 := (HR.out.ext hE).cell (i := 4) rfl
  have y4 := (HR.out.ext hE).frozen 4
  have z5 := (HR.out.ext hE).cell (i := 5) rfl
  have y5 := (HR.out.ext hE).frozen 5
  have z6 := (HR.out.ext hE).cell (i := 6) rfl
  have y6 := (HR.out.ext hE).frozen 6
  have HR1 := Lib.hid (HR.out.ext hE)
  have HE := Lib.hid (below_ext hA hE)
  have hlt : w.heap.size + 1 + 1 < w1.heap.size := by have := hE.size; simp at this; omega
  have hlt0 : w.heap.size + 1 < w1.heap.size := by omega
  have hlt1 : w.heap.size < w1.heap.size := by omega
  clear hE
  go_wp2_with fail
  (try simp only [Exit.inBlock, Exit.then])
  refine bodyPost_ret (results_struct (ty := 35) rfl rfl rfl (c := #[.int .u64 0, .int .u64 0, .int .i64 0, .int .i64 0, .int .i64 0, .int .i64 0, .int .i64 0]) ?_ (by kernel_rfl) (by kernel_rfl)) rfl ?_
  · first
    | exact Blk.set7a HR1.out rfl _ _ _ _ _ _ _ _
    | exact Blk.set7 HR1.out rfl _ _ _ _ _ _ _
  refine ⟨rfl, ?_⟩
  first | exact Ext.set7a HE.out (by omega) _ _ _ _ _ _ _ _ | exact Ext.set7 HE.out (by omega) _ _ _ _ _ _ _

set_option maxRecDepth 100000 in
set_option maxHeartbeats 2000000 in
theorem rFind_some (uL uW : Value) (B : Nat) (L : List (Int × En)) (Wy : List (Int × Int × Int)) (h c : Int) (v : En) (w : World) (hL : RowL w B uL L) (hW : RowW w B uW Wy) (hl : L.length ≤ 1000000) (hg : assoc L h = some v) (hc : v.1 = c) :
    Calls Try.prog 13 #[.agg #[uL, uW], .agg #[.int .u64 h, .int .u64 c]] w fun e w' => e = .returned (foundV h (some v)) ∧ Ext w w' := by
  obtain ⟨a, cap, rfl⟩ := hL.val
  obtain ⟨a2, cap2, rfl⟩ := hW.val
  have HL := Lib.hid hL
  have HW := Lib.hid hW
  have HG := Lib.hid hg
  have d : (v.1 != c) = false := by simp [hc]
  clear hc
  clear hL hW hg
  have hA : Ext w (((w.alloc (Obj.cells #[.slice a L.length cap, .slice a2 Wy.length cap2] 30)).alloc (Obj.cells #[.int .u64 h, .int .u64 c] 39)).alloc (Obj.cells #[.int .u64 0, .int .u64 0, .int .i64 0, .int .i64 0, .int .i64 0, .int .i64 0, .int .i64 0] 35)) := (((Below.refl _ _).alloc (Nat.le_refl _) _).alloc (by simp) _).alloc (by simp; omega) _
  have HP := Lib.hid (show Blk (((w.alloc (Obj.cells #[.slice a L.length cap, .slice a2 Wy.length cap2] 30)).alloc (Obj.cells #[.int .u64 h, .int .u64 c] 39)).alloc (Obj.cells #[.int .u64 0, .int .u64 0, .int .i64 0, .int .i64 0, .int .i64 0, .int .i64 0, .int .i64 0] 35)) (w.heap.size + 1) #[.int .u64 h, .int .u64 c] 39 from Blk.ext (blk_at (by simp)) ((Below.refl _ _).alloc (Nat.le_refl _) _))
  have HR := Lib.hid (show Blk (((w.alloc (Obj.cells #[.slice a L.length cap, .slice a2 Wy.length cap2] 30)).alloc (Obj.cells #[.int .u64 h, .int .u64 c] 39)).alloc (Obj.cells #[.int .u64 0, .int .u64 0, .int .i64 0, .int .i64 0, .int .i64 0, .int .i64 0, .int .i64 0] 35)) (w.heap.size + 1 + 1) #[.int .u64 0, .int .u64 0, .int .i64 0, .int .i64 0, .int .i64 0, .int .i64 0, .int .i64 0] 35 from blk_at (by simp))
  go_enter Try.func13, Try.ntmps13
  go_wp2_with fail
  refine (rLook _ _ B L Wy h _ (HL.out.ext hA) (HW.out.ext hA) hl).mono ?_
  rw [HG.out]
  simp only [foundV, valS]
  rintro e w1 ⟨rfl, hE⟩
  have p0 := (HP.out.ext hE).cell (i := 0) rfl
  have p1 := (HP.out.ext hE).cell (i := 1) rfl
  have hst := Go.run_storeCells_new (P := Try.prog) w1 35 #[.int .u64 0, .int .u64 0, .int .i64 0, .int .i64 0, .int .i64 0, .int .i64 0, .int .i64 0] #[.int .u64 h, .int .u64 v.1, .int .i64 v.2.1, .int .i64 v.2.2.1, .int .i64 v.2.2.2.1, .int .i64 v.2.2.2.2.1, .int .i64 v.2.2.2.2.2] (by kernel_rfl) rfl (by simp [Value.oneCell'])
  have hld := Go.run_loadCellsFrom_new (P := Try.prog) w1 35 #[.int .u64 h, .int .u64 v.1, .int .i64 v.2.1, .int .i64 v.2.2.1, .int .i64 v.2.2.2.1, .int .i64 v.2.2.2.2.1, .int .i64 v.2.2.2.2.2] 7 rfl
  have z0 := (HR.out.ext hE).cell (i := 0) rfl
  have y0 := (HR.out.ext hE).frozen 0
  have z1 := (HR.out.ext hE).cell (i := 1) rfl
  have y1 := (HR.out.ext hE).frozen 1
  have z2 := (HR.out.ext hE).cell (i := 2) rfl
  have y2 := (HR.out.ext hE).frozen 2
  have z3 := (HR.out.ext hE).cell (i := 3) rfl
  have y3 := (HR.out.ext hE).frozen 3
  have z4 := (HR.out.ext hE).cell (i := 4) rfl
  have y4 := (HR.out.ext hE).frozen 4
  have z5 := (HR.out.ext hE).cell (i := 5) rfl
  have y5 := (HR.out.ext hE).frozen 5
  have z6 := (HR.out.ext hE).cell (i := 6) rfl
  have y6 := (HR.out.ext hE).frozen 6
  have HR1 := Lib.hid (HR.out.ext hE)
  have HE := Lib.hid (below_ext hA hE)
  have hlt : w.heap.size + 1 + 1 < w1.heap.size := by have := hE.size; simp at this; omega
  have hlt0 : w.heap.size + 1 < w1.heap.size := by omega
  have hlt1 : w.heap.size < w1.heap.size := by omega
  clear hE
  go_wp2_with fail
  (try simp only [Exit.inBlock, Exit.then])
  refine bodyPost_ret (results_struct (ty := 35) rfl rfl rfl (c := #[.int .u64 h, .int .u64 v.1, .int .i64 v.2.1, .int .i64 v.2.2.1, .int .i64 v.2.2.2.1, .int .i64 v.2.2.2.2.1, .int .i64 v.2.2.2.2.2]) ?_ (by kernel_rfl) (by kernel_rfl)) rfl ?_
  · first
    | exact Blk.set7a HR1.out rfl _ _ _ _ _ _ _ _
    | exact Blk.set7 HR1.out rfl _ _ _ _ _ _ _
  refine ⟨rfl, ?_⟩
  first | exact Ext.set7a HE.out (by omega) _ _ _ _ _ _ _ _ | exact Ext.set7 HE.out (by omega) _ _ _ _ _ _ _

set_option maxRecDepth 100000 in
set_option maxHeartbeats 2000000 in
theorem rFind_other (uL uW : Value) (B : Nat) (L : List (Int × En)) (Wy : List (Int × Int × Int)) (h c : Int) (v : En) (w : World) (hL : RowL w B uL L) (hW : RowW w B uW Wy) (hl : L.length ≤ 1000000) (hg : assoc L h = some v) (hc : v.1 ≠ c) :
    Calls Try.prog 13 #[.agg #[uL, uW], .agg #[.int .u64 h, .int .u64 c]] w fun e w' => e = .returned (foundV h none) ∧ Ext w w' := by
  obtain ⟨a, cap, rfl⟩ := hL.val
  obtain ⟨a2, cap2, rfl⟩ := hW.val
  have HL := Lib.hid hL
  have HW := Lib.hid hW
  have HG := Lib.hid hg
  have d : (v.1 != c) = true := by simp [hc]
  clear hc
  clear hL hW hg
  have hA : Ext w (((w.alloc (Obj.cells #[.slice a L.length cap, .slice a2 Wy.length cap2] 30)).alloc (Obj.cells #[.int .u64 h, .int .u64 c] 39)).alloc (Obj.cells #[.int .u64 0, .int .u64 0, .int .i64 0, .int .i64 0, .int .i64 0, .int .i64 0, .int .i64 0] 35)) := (((Below.refl _ _).alloc (Nat.le_refl _) _).alloc (by simp) _).alloc (by simp; omega) _
  have HP := Lib.hid (show Blk (((w.alloc (Obj.cells #[.slice a L.length cap, .slice a2 Wy.length cap2] 30)).alloc (Obj.cells #[.int .u64 h, .int .u64 c] 39)).alloc (Obj.cells #[.int .u64 0, .int .u64 0, .int .i64 0, .int .i64 0, .int .i64 0, .int .i64 0, .int .i64 0] 35)) (w.heap.size + 1) #[.int .u64 h, .int .u64 c] 39 from Blk.ext (blk_at (by simp)) ((Below.refl _ _).alloc (Nat.le_refl _) _))
  have HR := Lib.hid (show Blk (((w.alloc (Obj.cells #[.slice a L.length cap, .slice a2 Wy.length cap2] 30)).alloc (Obj.cells #[.int .u64 h, .int .u64 c] 39)).alloc (Obj.cells #[.int .u64 0, .int .u64 0, .int .i64 0, .int .i64 0, .int .i64 0, .int .i64 0, .int .i64 0] 35)) (w.heap.size + 1 + 1) #[.int .u64 0, .int .u64 0, .int .i64 0, .int .i64 0, .int .i64 0, .int .i64 0, .int .i64 0] 35 from blk_at (by simp))
  go_enter Try.func13, Try.ntmps13
  go_wp2_with fail
  refine (rLook _ _ B L Wy h _ (HL.out.ext hA) (HW.out.ext hA) hl).mono ?_
  rw [HG.out]
  simp only [foundV, valS]
  rintro e w1 ⟨rfl, hE⟩
  have p0 := (HP.out.ext hE).cell (i := 0) rfl
  have p1 := (HP.out.ext hE).cell (i := 1) rfl
  have hst := Go.run_storeCells_new (P := Try.prog) w1 35 #[.int .u64 0, .int .u64 0, .int .i64 0, .int .i64 0, .int .i64 0, .int .i64 0, .int .i64 0] #[.int .u64 h, .int .u64 v.1, .int .i64 v.2.1, .int .i64 v.2.2.1, .int .i64 v.2.2.2.1, .int .i64 v.2.2.2.2.1, .int .i64 v.2.2.2.2.2] (by kernel_rfl) rfl (by simp [Value.oneCell'])
  have hld := Go.run_loadCellsFrom_new (P := Try.prog) w1 35 #[.int .u64 h, .int .u64 v.1, .int .i64 v.2.1, .int .i64 v.2.2.1, .int .i64 v.2.2.2.1, .int .i64 v.2.2.2.2.1, .int .i64 v.2.2.2.2.2] 7 rfl
  have z0 := (HR.out.ext hE).cell (i := 0) rfl
  have y0 := (HR.out.ext hE).frozen 0
  have z1 := (HR.out.ext hE).cell (i := 1) rfl
  have y1 := (HR.out.ext hE).frozen 1
  have z2 := (HR.out.ext hE).cell (i := 2) rfl
  have y2 := (HR.out.ext hE).frozen 2
  have z3 := (HR.out.ext hE).cell (i := 3) rfl
  have y3 := (HR.out.ext hE).frozen 3
  have z4 := (HR.out.ext hE).cell (i := 4) rfl
  have y4 := (HR.out.ext hE).frozen 4
  have z5 := (HR.out.ext hE).cell (i := 5) rfl
  have y5 := (HR.out.ext hE).frozen 5
  have z6 := (HR.out.ext hE).cell (i := 6) rfl
  have y6 := (HR.out.ext hE).frozen 6
  have HR1 := Lib.hid (HR.out.ext hE)
  have HE := Lib.hid (below_ext hA hE)
  have hlt : w.heap.size + 1 + 1 < w1.heap.size := by have := hE.size; simp at this; omega
  have hlt0 : w.heap.size + 1 < w1.heap.size := by omega
  have hlt1 : w.heap.size < w1.heap.size := by omega
  clear hE
  go_wp2_with fail
  (try simp only [Exit.inBlock, Exit.then])
  refine bodyPost_ret (results_struct (ty := 35) rfl rfl rfl (c := #[.int .u64 0, .int .u64 0, .int .i64 0, .int .i64 0, .int .i64 0, .int .i64 0, .int .i64 0]) ?_ (by kernel_rfl) (by kernel_rfl)) rfl ?_
  · first
    | exact Blk.set7a HR1.out rfl _ _ _ _ _ _ _ _
    | exact Blk.set7 HR1.out rfl _ _ _ _ _ _ _
  refine ⟨rfl, ?_⟩
  first | exact Ext.set7a HE.out (by omega) _ _ _ _ _ _ _ _ | exact Ext.set7 HE.out (by omega) _ _ _ _ _ _ _

theorem rFind (uL uW : Value) (B : Nat) (L : List (Int × En)) (Wy : List (Int × Int × Int)) (h c : Int) (w : World) (hL : RowL w B uL L) (hW : RowW w B uW Wy) (hl : L.length ≤ 1000000) :
    Calls Try.prog 13 #[.agg #[uL, uW], .agg #[.int .u64 h, .int .u64 c]] w fun e w' => e = .returned (foundV h (findR L h c)) ∧ Ext w w' := by
  unfold findR
  cases hg : assoc L h with
  | none => exact rFind_none uL uW B L Wy h c w hL hW hl hg
  | some v =>
    dsimp only
    by_cases hc : v.1 = c
    · rw [if_pos hc]; exact rFind_some uL uW B L Wy h c v w hL hW hl hg hc
    · rw [if_neg hc]; exact rFind_other uL uW B L Wy h c v w hL hW hl hg hc
end Go.Proofs.Ytnpfikabcmngpaa.ShR
