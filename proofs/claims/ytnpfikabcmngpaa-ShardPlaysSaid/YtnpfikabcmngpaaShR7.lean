/-
  The document's answer for layer 22: Renew.
  Fewer than 1,000,000 of each; no other condition.
-/
import Derived.Test.YtnpfikabcmngpaaShR6
namespace Go.Proofs.Ytnpfikabcmngpaa.ShR
open Go.RowKit Go.Seg Go.Open Go.Lib Rk Go.Row

set_option maxRecDepth 100000 in
set_option maxHeartbeats 4000000 in
theorem rRenew_none (uL uW : Value) (B : Nat) (L : List (Int × En)) (Wy : List (Int × Int × Int)) (e : Int × En) (w : World) (hL : RowL w B uL L) (hW : RowW w B uW Wy) (hl : L.length ≤ 999998) (hg : findR L e.1 e.2.1 = none) :
    Calls Try.prog 48 #[.agg #[uL, uW], .agg #[.int .u64 e.1, .int .u64 e.2.1, .int .i64 e.2.2.1, .int .i64 e.2.2.2.1, .int .i64 e.2.2.2.2.1, .int .i64 e.2.2.2.2.2.1, .int .i64 e.2.2.2.2.2.2]] w fun e' w' => e' = .returned (.tuple #[.agg #[uL, uW], .bool false]) ∧ Ext w w' := by
  obtain ⟨a, cap, rfl⟩ := hL.val
  obtain ⟨a2, cap2, rfl⟩ := hW.val
  have HL := Lib.hid hL
  have HW := Lib.hid hW
  have HG := Lib.hid hg
  clear hL hW hg
  have hA : Ext w (((w.alloc (Obj.cells #[.slice a L.length cap, .slice a2 Wy.length cap2] 30)).alloc (Obj.cells #[.int .u64 e.1, .int .u64 e.2.1, .int .i64 e.2.2.1, .int .i64 e.2.2.2.1, .int .i64 e.2.2.2.2.1, .int .i64 e.2.2.2.2.2.1, .int .i64 e.2.2.2.2.2.2] 35)).alloc (Obj.cells #[.slice none 0 0, .slice none 0 0] 30)) := (((Below.refl _ _).alloc (Nat.le_refl _) _).alloc (by simp) _).alloc (by simp; omega) _
  have HX := Lib.hid (show Blk (((w.alloc (Obj.cells #[.slice a L.length cap, .slice a2 Wy.length cap2] 30)).alloc (Obj.cells #[.int .u64 e.1, .int .u64 e.2.1, .int .i64 e.2.2.1, .int .i64 e.2.2.2.1, .int .i64 e.2.2.2.2.1, .int .i64 e.2.2.2.2.2.1, .int .i64 e.2.2.2.2.2.2] 35)).alloc (Obj.cells #[.slice none 0 0, .slice none 0 0] 30)) (w.heap.size + 1) #[.int .u64 e.1, .int .u64 e.2.1, .int .i64 e.2.2.1, .int .i64 e.2.2.2.1, .int .i64 e.2.2.2.2.1, .int .i64 e.2.2.2.2.2.1, .int .i64 e.2.2.2.2.2.2] 35 from Blk.ext (blk_at (by simp)) ((Below.refl _ _).alloc (Nat.le_refl _) _))
  have HR := Lib.hid (show Blk (((w.alloc (Obj.cells #[.slice a L.length cap, .slice a2 Wy.length cap2] 30)).alloc (Obj.cells #[.int .u64 e.1, .int .u64 e.2.1, .int .i64 e.2.2.1, .int .i64 e.2.2.2.1, .int .i64 e.2.2.2.2.1, .int .i64 e.2.2.2.2.2.1, .int .i64 e.2.2.2.2.2.2] 35)).alloc (Obj.cells #[.slice none 0 0, .slice none 0 0] 30)) (w.heap.size + 1 + 1) #[.slice none 0 0, .slice none 0 0] 30 from blk_at (by simp))
  have HP := Lib.hid (show Blk (((w.alloc (Obj.cells #[.slice a L.length cap, .slice a2 Wy.length cap2] 30)).alloc (Obj.cells #[.int .u64 e.1, .int .u64 e.2.1, .int .i64 e.2.2.1, .int .i64 e.2.2.2.1, .int .i64 e.2.2.2.2.1, .int .i64 e.2.2.2.2.2.1, .int .i64 e.2.2.2.2.2.2] 35)).alloc (Obj.cells #[.slice none 0 0, .slice none 0 0] 30)) w.heap.size #[.slice a L.length cap, .slice a2 Wy.length cap2] 30 from ((Blk.new _ _ _).ext ((Below.refl _ _).alloc (Nat.le_refl _) _)).ext ((Below.refl _ _).alloc (Nat.le_refl _) _))
  go_enter Try.func48, Try.ntmps48
  go_wp2_with fail
  refine (rFind _ _ B L Wy e.1 e.2.1 _ (HL.out.ext hA) (HW.out.ext hA) (by omega)).mono ?_
  rw [HG.out]
  simp only [foundV, zS]
  rintro e' w1 ⟨rfl, hE⟩
  have hR1 := HR.out.ext hE
  have hX1 := HX.out.ext hE
  have p0 := (HP.out.ext hE).cell (i := 0) rfl
  have p1 := (HP.out.ext hE).cell (i := 1) rfl
  have k0 := hX1.cell (i := 0) rfl
  have kf0 := hX1.frozen 0
  have k1 := hX1.cell (i := 1) rfl
  have kf1 := hX1.frozen 1
  have k2 := hX1.cell (i := 2) rfl
  have kf2 := hX1.frozen 2
  have k3 := hX1.cell (i := 3) rfl
  have kf3 := hX1.frozen 3
  have k4 := hX1.cell (i := 4) rfl
  have kf4 := hX1.frozen 4
  have k5 := hX1.cell (i := 5) rfl
  have kf5 := hX1.frozen 5
  have k6 := hX1.cell (i := 6) rfl
  have kf6 := hX1.frozen 6
  have z0 := hR1.cell (i := 0) rfl
  have zf0 := hR1.frozen 0
  have z1 := hR1.cell (i := 1) rfl
  have zf1 := hR1.frozen 1
  have hst := Go.run_storeCells_new (P := Try.prog) w1 35 #[.int .u64 0, .int .u64 0, .int .i64 0, .int .i64 0, .int .i64 0, .int .i64 0, .int .i64 0] #[.int .u64 0, .int .u64 0, .int .i64 0, .int .i64 0, .int .i64 0, .int .i64 0, .int .i64 0] (by kernel_rfl) rfl (by simp [Value.oneCell'])
  have hlt : w.heap.size + 1 + 1 < w1.heap.size := hR1.lt
  have hlt0 : w.heap.size + 1 < w1.heap.size := by omega
  have hlt1 : w.heap.size < w1.heap.size := by omega
  have HR1 := Lib.hid hR1
  have HE := Lib.hid (below_ext hA hE)
  clear hE hR1 hX1 hA HP HR HX
  go_wp2_with fail
  (try simp only [Exit.inBlock, Exit.then])
  refine bodyPost_ret (results_struct (ty := 30) rfl rfl rfl (c := #[.slice a L.length cap, .slice a2 Wy.length cap2]) ((Blk.set2 HR1.out rfl _ _).ext ((Below.refl _ _).alloc (Nat.le_refl _) _)) (by kernel_rfl) (by kernel_rfl)) rfl ?_
  exact ⟨rfl, Below.alloc (Ext.set2 HE.out (by omega) _ _) (by simp; omega) _⟩

set_option maxRecDepth 100000 in
set_option maxHeartbeats 4000000 in
theorem rRenew_old (uL uW : Value) (B : Nat) (L : List (Int × En)) (Wy : List (Int × Int × Int)) (e : Int × En) (w : World) (hL : RowL w B uL L) (hW : RowW w B uW Wy) (hl : L.length ≤ 999998) (v : En) (hg : findR L e.1 e.2.1 = some v) (hv : v.2.2.2.1 ≠ e.2.2.2.2.1) :
    Calls Try.prog 48 #[.agg #[uL, uW], .agg #[.int .u64 e.1, .int .u64 e.2.1, .int .i64 e.2.2.1, .int .i64 e.2.2.2.1, .int .i64 e.2.2.2.2.1, .int .i64 e.2.2.2.2.2.1, .int .i64 e.2.2.2.2.2.2]] w fun e' w' => e' = .returned (.tuple #[.agg #[uL, uW], .bool false]) ∧ Ext w w' := by
  obtain ⟨a, cap, rfl⟩ := hL.val
  obtain ⟨a2, cap2, rfl⟩ := hW.val
  have HL := Lib.hid hL
  have HW := Lib.hid hW
  have HG := Lib.hid hg
  have d : (v.2.2.2.1 != e.2.2.2.2.1) = true := by simp [hv]
  clear hv
  clear hL hW hg
  have hA : Ext w (((w.alloc (Obj.cells #[.slice a L.length cap, .slice a2 Wy.length cap2] 30)).alloc (Obj.cells #[.int .u64 e.1, .int .u64 e.2.1, .int .i64 e.2.2.1, .int .i64 e.2.2.2.1, .int .i64 e.2.2.2.2.1, .int .i64 e.2.2.2.2.2.1, .int .i64 e.2.2.2.2.2.2] 35)).alloc (Obj.cells #[.slice none 0 0, .slice none 0 0] 30)) := (((Below.refl _ _).alloc (Nat.le_refl _) _).alloc (by simp) _).alloc (by simp; omega) _
  have HX := Lib.hid (show Blk (((w.alloc (Obj.cells #[.slice a L.length cap, .slice a2 Wy.length cap2] 30)).alloc (Obj.cells #[.int .u64 e.1, .int .u64 e.2.1, .int .i64 e.2.2.1, .int .i64 e.2.2.2.1, .int .i64 e.2.2.2.2.1, .int .i64 e.2.2.2.2.2.1, .int .i64 e.2.2.2.2.2.2] 35)).alloc (Obj.cells #[.slice none 0 0, .slice none 0 0] 30)) (w.heap.size + 1) #[.int .u64 e.1, .int .u64 e.2.1, .int .i64 e.2.2.1, .int .i64 e.2.2.2.1, .int .i64 e.2.2.2.2.1, .int .i64 e.2.2.2.2.2.1, .int .i64 e.2.2.2.2.2.2] 35 from Blk.ext (blk_at (by simp)) ((Below.refl _ _).alloc (Nat.le_refl _) _))
  have HR := Lib.hid (show Blk (((w.alloc (Obj.cells #[.slice a L.length cap, .slice a2 Wy.length cap2] 30)).alloc (Obj.cells #[.int .u64 e.1, .int .u64 e.2.1, .int .i64 e.2.2.1, .int .i64 e.2.2.2.1, .int .i64 e.2.2.2.2.1, .int .i64 e.2.2.2.2.2.1, .int .i64 e.2.2.2.2.2.2] 35)).alloc (Obj.cells #[.slice none 0 0, .slice none 0 0] 30)) (w.heap.size + 1 + 1) #[.slice none 0 0, .slice none 0 0] 30 from blk_at (by simp))
  have HP := Lib.hid (show Blk (((w.alloc (Obj.cells #[.slice a L.length cap, .slice a2 Wy.length cap2] 30)).alloc (Obj.cells #[.int .u64 e.1, .int .u64 e.2.1, .int .i64 e.2.2.1, .int .i64 e.2.2.2.1, .int .i64 e.2.2.2.2.1, .int .i64 e.2.2.2.2.2.1, .int .i64 e.2.2.2.2.2.2] 35)).alloc (Obj.cells #[.slice none 0 0, .slice none 0 0] 30)) w.heap.size #[.slice a L.length cap, .slice a2 Wy.length cap2] 30 from ((Blk.new _ _ _).ext ((Below.refl _ _).alloc (Nat.le_refl _) _)).ext ((Below.refl _ _).alloc (Nat.le_refl _) _))
  go_enter Try.func48, Try.ntmps48
  go_wp2_with fail
  refine (rFind _ _ B L Wy e.1 e.2.1 _ (HL.out.ext hA) (HW.out.ext hA) (by omega)).mono ?_
  rw [HG.out]
  simp only [foundV, valS]
  rintro e' w1 ⟨rfl, hE⟩
  have hR1 := HR.out.ext hE
  have hX1 := HX.out.ext hE
  have p0 := (HP.out.ext hE).cell (i := 0) rfl
  have p1 := (HP.out.ext hE).cell (i := 1) rfl
  have k0 := hX1.cell (i := 0) rfl
  have kf0 := hX1.frozen 0
  have k1 := hX1.cell (i := 1) rfl
  have kf1 := hX1.frozen 1
  have k2 := hX1.cell (i := 2) rfl
  have kf2 := hX1.frozen 2
  have k3 := hX1.cell (i := 3) rfl
  have kf3 := hX1.frozen 3
  have k4 := hX1.cell (i := 4) rfl
  have kf4 := hX1.frozen 4
  have k5 := hX1.cell (i := 5) rfl
  have kf5 := hX1.frozen 5
  have k6 := hX1.cell (i := 6) rfl
  have kf6 := hX1.frozen 6
  have z0 := hR1.cell (i := 0) rfl
  have zf0 := hR1.frozen 0
  have z1 := hR1.cell (i := 1) rfl
  have zf1 := hR1.frozen 1
  have hst := Go.run_storeCells_new (P := Try.prog) w1 35 #[.int .u64 0, .int .u64 0, .int .i64 0, .int .i64 0, .int .i64 0, .int .i64 0, .int .i64 0] #[.int .u64 e.1, .int .u64 v.1, .int .i64 v.2.1, .int .i64 v.2.2.1, .int .i64 v.2.2.2.1, .int .i64 v.2.2.2.2.1, .int .i64 v.2.2.2.2.2] (by kernel_rfl) rfl (by simp [Value.oneCell'])
  have hlt : w.heap.size + 1 + 1 < w1.heap.size := hR1.lt
  have hlt0 : w.heap.size + 1 < w1.heap.size := by omega
  have hlt1 : w.heap.size < w1.heap.size := by omega
  have HR1 := Lib.hid hR1
  have HE := Lib.hid (below_ext hA hE)
  clear hE hR1 hX1 hA HP HR HX
  go_wp2_with fail
  (try simp only [Exit.inBlock, Exit.then])
  refine bodyPost_ret (results_struct (ty := 30) rfl rfl rfl (c := #[.slice a L.length cap, .slice a2 Wy.length cap2]) ((Blk.set2 HR1.out rfl _ _).ext ((Below.refl _ _).alloc (Nat.le_refl _) _)) (by kernel_rfl) (by kernel_rfl)) rfl ?_
  exact ⟨rfl, Below.alloc (Ext.set2 HE.out (by omega) _ _) (by simp; omega) _⟩

set_option maxRecDepth 100000 in
set_option maxHeartbeats 4000000 in
theorem rRenew_yes (uL uW : Value) (B : Nat) (L : List (Int × En)) (Wy : List (Int × Int × Int)) (e : Int × En) (w : World) (hL : RowL w B uL L) (hW : RowW w B uW Wy) (hl : L.length ≤ 999998) (v : En) (hg : findR L e.1 e.2.1 = some v) (hv : v.2.2.2.1 = e.2.2.2.2.1) :
    Calls Try.prog 48 #[.agg #[uL, uW], .agg #[.int .u64 e.1, .int .u64 e.2.1, .int .i64 e.2.2.1, .int .i64 e.2.2.2.1, .int .i64 e.2.2.2.2.1, .int .i64 e.2.2.2.2.2.1, .int .i64 e.2.2.2.2.2.2]] w fun e' w' => ∃ uL', e' = .returned (.tuple #[.agg #[uL', uW], .bool true]) ∧ RowL w' w.heap.size uL' (insB e (restR L e.1)) ∧ Ext w w' := by
  obtain ⟨a, cap, rfl⟩ := hL.val
  obtain ⟨a2, cap2, rfl⟩ := hW.val
  have HL := Lib.hid hL
  have HW := Lib.hid hW
  have HG := Lib.hid hg
  have d : (v.2.2.2.1 != e.2.2.2.2.1) = false := by simp [hv]
  clear hv
  clear hL hW hg
  have hA : Ext w (((w.alloc (Obj.cells #[.slice a L.length cap, .slice a2 Wy.length cap2] 30)).alloc (Obj.cells #[.int .u64 e.1, .int .u64 e.2.1, .int .i64 e.2.2.1, .int .i64 e.2.2.2.1, .int .i64 e.2.2.2.2.1, .int .i64 e.2.2.2.2.2.1, .int .i64 e.2.2.2.2.2.2] 35)).alloc (Obj.cells #[.slice none 0 0, .slice none 0 0] 30)) := (((Below.refl _ _).alloc (Nat.le_refl _) _).alloc (by simp) _).alloc (by simp; omega) _
  have HX := Lib.hid (show Blk (((w.alloc (Obj.cells #[.slice a L.length cap, .slice a2 Wy.length cap2] 30)).alloc (Obj.cells #[.int .u64 e.1, .int .u64 e.2.1, .int .i64 e.2.2.1, .int .i64 e.2.2.2.1, .int .i64 e.2.2.2.2.1, .int .i64 e.2.2.2.2.2.1, .int .i64 e.2.2.2.2.2.2] 35)).alloc (Obj.cells #[.slice none 0 0, .slice none 0 0] 30)) (w.heap.size + 1) #[.int .u64 e.1, .int .u64 e.2.1, .int .i64 e.2.2.1, .int .i64 e.2.2.2.1, .int .i64 e.2.2.2.2.1, .int .i64 e.2.2.2.2.2.1, .int .i64 e.2.2.2.2.2.2] 35 from Blk.ext (blk_at (by simp)) ((Below.refl _ _).alloc (Nat.le_refl _) _))
  have HR := Lib.hid (show Blk (((w.alloc (Obj.cells #[.slice a L.length cap, .slice a2 Wy.length cap2] 30)).alloc (Obj.cells #[.int .u64 e.1, .int .u64 e.2.1, .int .i64 e.2.2.1, .int .i64 e.2.2.2.1, .int .i64 e.2.2.2.2.1, .int .i64 e.2.2.2.2.2.1, .int .i64 e.2.2.2.2.2.2] 35)).alloc (Obj.cells #[.slice none 0 0, .slice none 0 0] 30)) (w.heap.size + 1 + 1) #[.slice none 0 0, .slice none 0 0] 30 from blk_at (by simp))
  have HP := Lib.hid (show Blk (((w.alloc (Obj.cells #[.slice a L.length cap, .slice a2 Wy.length cap2] 30)).alloc (Obj.cells #[.int .u64 e.1, .int .u64 e.2.1, .int .i64 e.2.2.1, .int .i64 e.2.2.2.1, .int .i64 e.2.2.2.2.1, .int .i64 e.2.2.2.2.2.1, .int .i64 e.2.2.2.2.2.2] 35)).alloc (Obj.cells #[.slice none 0 0, .slice none 0 0] 30)) w.heap.size #[.slice a L.length cap, .slice a2 Wy.length cap2] 30 from ((Blk.new _ _ _).ext ((Below.refl _ _).alloc (Nat.le_refl _) _)).ext ((Below.refl _ _).alloc (Nat.le_refl _) _))
  go_enter Try.func48, Try.ntmps48
  go_wp2_with fail
  refine (rFind _ _ B L Wy e.1 e.2.1 _ (HL.out.ext hA) (HW.out.ext hA) (by omega)).mono ?_
  rw [HG.out]
  simp only [foundV, valS]
  rintro e' w1 ⟨rfl, hE⟩
  have hR1 := HR.out.ext hE
  have hX1 := HX.out.ext hE
  have p0 := (HP.out.ext hE).cell (i := 0) rfl
  have p1 := (HP.out.ext hE).cell (i := 1) rfl
  have k0 := hX1.cell (i := 0) rfl
  have kf0 := hX1.frozen 0
  have k1 := hX1.cell (i := 1) rfl
  have kf1 := hX1.frozen 1
  have k2 := hX1.cell (i := 2) rfl
  have kf2 := hX1.frozen 2
  have k3 := hX1.cell (i := 3) rfl
  have kf3 := hX1.frozen 3
  have k4 := hX1.cell (i := 4) rfl
  have kf4 := hX1.frozen 4
  have k5 := hX1.cell (i := 5) rfl
  have kf5 := hX1.frozen 5
  have k6 := hX1.cell (i := 6) rfl
  have kf6 := hX1.frozen 6
  have z0 := hR1.cell (i := 0) rfl
  have zf0 := hR1.frozen 0
  have z1 := hR1.cell (i := 1) rfl
  have zf1 := hR1.frozen 1
  have hst := Go.run_storeCells_new (P := Try.prog) w1 35 #[.int .u64 0, .int .u64 0, .int .i64 0, .int .i64 0, .int .i64 0, .int .i64 0, .int .i64 0] #[.int .u64 e.1, .int .u64 v.1, .int .i64 v.2.1, .int .i64 v.2.2.1, .int .i64 v.2.2.2.1, .int .i64 v.2.2.2.2.1, .int .i64 v.2.2.2.2.2] (by kernel_rfl) rfl (by simp [Value.oneCell'])
  have hlt : w.heap.size + 1 + 1 < w1.heap.size := hR1.lt
  have hlt0 : w.heap.size + 1 < w1.heap.size := by omega
  have hlt1 : w.heap.size < w1.heap.size := by omega
  have HR1 := Lib.hid hR1
  have HE := Lib.hid (below_ext hA hE)
  clear hE hR1 hX1 hA HP HR HX
  go_wp2_with fail
  have hA2 : Ext w1 (w1.alloc (Obj.cells #[.int .u64 e.1, .int .u64 v.1, .int .i64 v.2.1, .int .i64 v.2.2.1, .int .i64 v.2.2.2.1, .int .i64 v.2.2.2.2.1, .int .i64 v.2.2.2.2.2] 35)) := (Below.refl _ _).alloc (Nat.le_refl _) _
  have hE2 := below_ext HE.out hA2
  refine (rPut _ _ B L Wy e _ (HL.out.ext hE2) (HW.out.ext hE2) hl).mono ?_
  rintro e' w2 ⟨uL', rfl, hR2, hE3⟩
  have hR3 := (HR1.out.ext hA2).ext hE3
  obtain ⟨a3, cap3, rfl⟩ := hR2.val
  have z0 := hR3.cell (i := 0) rfl
  have z1 := hR3.cell (i := 1) rfl
  have zf0 := hR3.frozen 0
  have zf1 := hR3.frozen 1
  have HF := Lib.hid (And.intro hR3 (And.intro (hR2.base hE2.size) (below_ext hE2 hE3)))
  clear hA2 hE2 hR2 hE3 hR3 p0 p1
  go_wp2_with fail
  (try simp only [Exit.inBlock, Exit.then])
  obtain ⟨k1, k2, k3⟩ := HF.out
  refine bodyPost_ret (results_struct (ty := 30) rfl rfl rfl (c := #[.slice a3 (insB e (restR L e.1)).length cap3, .slice a2 Wy.length cap2]) (Blk.set2 k1 rfl _ _) (by kernel_rfl) (by kernel_rfl)) rfl ?_
  refine ⟨_, rfl, ?_, Ext.set2 k3 (by omega) _ _⟩
  exact (RowG.chg k2 (Chg.set w2 (w.heap.size + 1 + 1) 0 _) (.one k1 (by decide))).chg (Chg.set _ (w.heap.size + 1 + 1) 1 _) (.one (k1.set 0 _ rfl) (by decide))
end Go.Proofs.Ytnpfikabcmngpaa.ShR
