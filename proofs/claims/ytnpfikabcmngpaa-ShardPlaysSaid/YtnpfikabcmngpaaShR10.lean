/-
  Law 22: same: where neither is there, where both are.
-/
import Derived.Test.YtnpfikabcmngpaaShR9
namespace Go.Proofs.Ytnpfikabcmngpaa.ShR
open Go.RowKit Go.Seg Go.Open Go.Lib Rk Go.Row

set_option maxRecDepth 100000 in
set_option maxHeartbeats 4000000 in
theorem same_no (x : Int × En) (w : World) : Calls Try.prog 14 #[.agg #[.int .u64 0, .int .i64 0, .int .i64 0, .int .i64 0, .int .i64 0, .int .i64 0], .bool false, .agg #[.int .u64 x.1, .int .u64 x.2.1, .int .i64 x.2.2.1, .int .i64 x.2.2.2.1, .int .i64 x.2.2.2.2.1, .int .i64 x.2.2.2.2.2.1, .int .i64 x.2.2.2.2.2.2], .bool false] w fun e w' => e = .returned (.bool true) ∧ Ext w w' := by
  go_enter Try.func14, Try.ntmps14
  go_wp2_with fail
  obtain ⟨W0, hW0⟩ : ∃ W, (w.alloc (.cells #[.int .u64 0, .int .i64 0, .int .i64 0, .int .i64 0, .int .i64 0, .int .i64 0] 41)).alloc (.cells #[.int .u64 x.1, .int .u64 x.2.1, .int .i64 x.2.2.1, .int .i64 x.2.2.2.1, .int .i64 x.2.2.2.2.1, .int .i64 x.2.2.2.2.2.1, .int .i64 x.2.2.2.2.2.2] 35) = W := ⟨_, rfl⟩
  have hE0 : Ext w W0 := by rw [← hW0]; exact ((Below.refl _ _).alloc (Nat.le_refl _) _).alloc (by simp) _
  have hP : Blk W0 w.heap.size #[.int .u64 0, .int .i64 0, .int .i64 0, .int .i64 0, .int .i64 0, .int .i64 0] 41 := by rw [← hW0]; exact (Blk.new _ _ _).ext ((Below.refl _ _).alloc (Nat.le_refl _) _)
  rw [hW0]
  have HPd := Lib.hid (hP.ext (Ext.drew W0))
  have HE0 := Lib.hid (below_ext hE0 (Ext.drew W0))
  clear hW0 hE0 hP
  refine wp_region_segsK [([7, 1, 1, 15], 0, 0), ([1, 15], 2, 8), ([1, 14], 1, 0), ([5, 9], 0, 0), ([2, 1, 1, 5], 3, 19), ([1, 4], 1, 0), ([4], 0, 0)] (by kernel_rfl) (by kernel_rfl) ?_
  apply segsK_pure
  · intro W
    simp only [runsT, runsF, rep, pick]
    go_wp2_with fail
    exact ⟨rfl, rfl⟩
  simp only [runsT, runsF, rep, left]
  apply segsK_look
  · have y0 := HPd.out.cell (i := 0) rfl
    have y1 := HPd.out.cell (i := 1) rfl
    have y2 := HPd.out.cell (i := 2) rfl
    have y3 := HPd.out.cell (i := 3) rfl
    have y4 := HPd.out.cell (i := 4) rfl
    have y5 := HPd.out.cell (i := 5) rfl
    simp only [runsT, runsF, rep, pick]
    go_wp2_with fail
    exact ⟨rfl, rfl⟩
  simp only [runsT, runsF, rep, left]
  apply segsK_op
  go_wp2_with fail
  refine ⟨fun h => (by cases h), ?_⟩
  apply segsK_pure
  · intro W
    simp only [runsT, runsF, rep, pick]
    go_wp2_with fail
    exact ⟨rfl, rfl⟩
  simp only [runsT, runsF, rep, left]
  apply segsK_class
  · intro W hW
    simp only [runsT, runsF, rep, pick]
    go_wp2_with fail
    exact ⟨rfl, rfl⟩
  simp only [runsT, runsF, rep, left]
  go_wp2_with fail
  refine ⟨fun _ => Ext.refl _, ?_⟩
  apply segsK_op
  go_wp2_with fail
  refine ⟨fun h => (by cases h), ?_⟩
  apply segsK_pure
  · intro W
    simp only [runsT, runsF, rep, pick]
    go_wp2_with fail
    exact ⟨rfl, rfl⟩
  simp only [runsT, runsF, rep, left]
  apply segsK_nil
  go_wp2_with fail
  go_ret
  exact ⟨rfl, HE0.out⟩
set_option maxRecDepth 100000 in
set_option maxHeartbeats 4000000 in
theorem same_yes (h : Int) (v : En) (w : World) : Calls Try.prog 14 #[.agg #[.int .u64 v.1, .int .i64 v.2.1, .int .i64 v.2.2.1, .int .i64 v.2.2.2.1, .int .i64 v.2.2.2.2.1, .int .i64 v.2.2.2.2.2], .bool true, valS (h, v), .bool true] w fun e w' => e = .returned (.bool true) ∧ Ext w w' := by
  simp only [valS]
  go_enter Try.func14, Try.ntmps14
  go_wp2_with fail
  obtain ⟨W0, hW0⟩ : ∃ W, (w.alloc (.cells #[.int .u64 v.1, .int .i64 v.2.1, .int .i64 v.2.2.1, .int .i64 v.2.2.2.1, .int .i64 v.2.2.2.2.1, .int .i64 v.2.2.2.2.2] 41)).alloc (.cells #[.int .u64 h, .int .u64 v.1, .int .i64 v.2.1, .int .i64 v.2.2.1, .int .i64 v.2.2.2.1, .int .i64 v.2.2.2.2.1, .int .i64 v.2.2.2.2.2] 35) = W := ⟨_, rfl⟩
  have hE0 : Ext w W0 := by rw [← hW0]; exact ((Below.refl _ _).alloc (Nat.le_refl _) _).alloc (by simp) _
  have hP : Blk W0 w.heap.size #[.int .u64 v.1, .int .i64 v.2.1, .int .i64 v.2.2.1, .int .i64 v.2.2.2.1, .int .i64 v.2.2.2.2.1, .int .i64 v.2.2.2.2.2] 41 := by rw [← hW0]; exact (Blk.new _ _ _).ext ((Below.refl _ _).alloc (Nat.le_refl _) _)
  have hX : Blk W0 (w.heap.size + 1) #[.int .u64 h, .int .u64 v.1, .int .i64 v.2.1, .int .i64 v.2.2.1, .int .i64 v.2.2.2.1, .int .i64 v.2.2.2.2.1, .int .i64 v.2.2.2.2.2] 35 := by rw [← hW0]; exact blk_at (by simp)
  rw [hW0]
  have HPd := Lib.hid (hP.ext (Ext.drew W0))
  have HXd := Lib.hid (hX.ext (Ext.drew W0))
  have HE0 := Lib.hid (below_ext hE0 (Ext.drew W0))
  clear hW0 hE0 hP hX
  refine wp_region_segsK [([7, 1, 1, 15], 0, 0), ([1, 15], 2, 8), ([1, 14], 1, 0), ([5, 9], 0, 0), ([2, 1, 1, 5], 3, 19), ([1, 4], 1, 0), ([4], 0, 0)] (by kernel_rfl) (by kernel_rfl) ?_
  apply segsK_pure
  · intro W
    simp only [runsT, runsF, rep, pick]
    go_wp2_with fail
    exact ⟨rfl, rfl⟩
  simp only [runsT, runsF, rep, left]
  apply segsK_look
  · have y0 := HPd.out.cell (i := 0) rfl
    have y1 := HPd.out.cell (i := 1) rfl
    have y2 := HPd.out.cell (i := 2) rfl
    have y3 := HPd.out.cell (i := 3) rfl
    have y4 := HPd.out.cell (i := 4) rfl
    have y5 := HPd.out.cell (i := 5) rfl
    simp only [runsT, runsF, rep, pick]
    go_wp2_with fail
    exact ⟨rfl, rfl⟩
  simp only [runsT, runsF, rep, left]
  apply segsK_op
  go_wp2_with fail
  refine ⟨fun h => (by cases h), ?_⟩
  apply segsK_pure
  · intro W
    simp only [runsT, runsF, rep, pick]
    go_wp2_with fail
    exact ⟨rfl, rfl⟩
  simp only [runsT, runsF, rep, left]
  apply segsK_class
  · intro W hW
    have y0 := (HPd.out.ext hW).cell (i := 0) rfl
    have y1 := (HPd.out.ext hW).cell (i := 1) rfl
    have y2 := (HPd.out.ext hW).cell (i := 2) rfl
    have y3 := (HPd.out.ext hW).cell (i := 3) rfl
    have y4 := (HPd.out.ext hW).cell (i := 4) rfl
    have y5 := (HPd.out.ext hW).cell (i := 5) rfl
    have x0 := (HXd.out.ext hW).cell (i := 0) rfl
    have x1 := (HXd.out.ext hW).cell (i := 1) rfl
    have x2 := (HXd.out.ext hW).cell (i := 2) rfl
    have x3 := (HXd.out.ext hW).cell (i := 3) rfl
    have x4 := (HXd.out.ext hW).cell (i := 4) rfl
    have x5 := (HXd.out.ext hW).cell (i := 5) rfl
    have x6 := (HXd.out.ext hW).cell (i := 6) rfl
    simp only [runsT, runsF, rep, pick]
    go_wp2_with fail
    exact ⟨rfl, rfl⟩
  simp only [runsT, runsF, rep, left]
  go_wp2_with fail
  refine (back_any h v _).mono ?_
  simp only [valS]
  rintro e9 w9 ⟨rfl, hE9⟩
  have HE9 := Lib.hid (below_ext HE0.out hE9)
  go_wp2_with fail
  refine ⟨fun _ => hE9, ?_⟩
  apply segsK_op
  go_wp2_with fail
  refine ⟨fun h => (by cases h), ?_⟩
  apply segsK_pure
  · intro W
    simp only [runsT, runsF, rep, pick]
    go_wp2_with fail
    exact ⟨rfl, rfl⟩
  simp only [runsT, runsF, rep, left]
  apply segsK_nil
  go_wp2_with fail
  go_ret
  exact ⟨rfl, HE9.out⟩
end Go.Proofs.Ytnpfikabcmngpaa.ShR
