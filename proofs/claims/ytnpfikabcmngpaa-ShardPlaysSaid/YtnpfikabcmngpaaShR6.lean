/-
  The document's answer for layer 22: Renew, Bump; what the law turns one entry into the other by.
  Fewer than 1,000,000 of each; no other condition.
-/
import Derived.Test.YtnpfikabcmngpaaShR5
namespace Go.Proofs.Ytnpfikabcmngpaa.ShR
open Go.RowKit Go.Seg Go.Open Go.Lib Rk Go.Row

theorem of_any (x : Int × En) (w : World) : Calls Try.prog 46 #[.agg #[.int .u64 x.1, .int .u64 x.2.1, .int .i64 x.2.2.1, .int .i64 x.2.2.2.1, .int .i64 x.2.2.2.2.1, .int .i64 x.2.2.2.2.2.1, .int .i64 x.2.2.2.2.2.2]] w fun e w' =>
    e = .returned (.agg #[.int .u64 x.2.1, .int .i64 x.2.2.1, .int .i64 x.2.2.2.1, .int .i64 x.2.2.2.2.1, .int .i64 x.2.2.2.2.2.1, .int .i64 x.2.2.2.2.2.2]) ∧ Ext w w' := by
  go_enter Try.func46, Try.ntmps46
  go_wp2_with fail
  (try simp only [Exit.inBlock, Exit.then])
  refine bodyPost_ret (results_one (ty := 41) rfl rfl (c := #[.int .u64 x.2.1, .int .i64 x.2.2.1, .int .i64 x.2.2.2.1, .int .i64 x.2.2.2.2.1, .int .i64 x.2.2.2.2.2.1, .int .i64 x.2.2.2.2.2.2]) (blk_at (by simp)) (by kernel_rfl) (by kernel_rfl)) rfl ?_
  exact ⟨rfl, ((Below.refl _ _).alloc (Nat.le_refl _) _).alloc (by simp) _⟩
theorem back_any (h : Int) (v : En) (w : World) : Calls Try.prog 19 #[.int .u64 h, .agg #[.int .u64 v.1, .int .i64 v.2.1, .int .i64 v.2.2.1, .int .i64 v.2.2.2.1, .int .i64 v.2.2.2.2.1, .int .i64 v.2.2.2.2.2]] w fun e w' =>
    e = .returned (valS (h, v)) ∧ Ext w w' := by
  go_enter Try.func19, Try.ntmps19
  go_wp2_with fail
  (try simp only [Exit.inBlock, Exit.then])
  refine bodyPost_ret (results_one (ty := 35) rfl rfl (c := #[.int .u64 h, .int .u64 v.1, .int .i64 v.2.1, .int .i64 v.2.2.1, .int .i64 v.2.2.2.1, .int .i64 v.2.2.2.2.1, .int .i64 v.2.2.2.2.2]) (blk_at (by simp)) (by kernel_rfl) (by kernel_rfl)) rfl ?_
  exact ⟨rfl, ((Below.refl _ _).alloc (Nat.le_refl _) _).alloc (by simp) _⟩

set_option maxRecDepth 100000 in
set_option maxHeartbeats 4000000 in
theorem rBump_no (uL uW : Value) (B : Nat) (L : List (Int × En)) (Wy : List (Int × Int × Int)) (h t : Int) (w : World) (hL : RowL w B uL L) (hW : RowW w B uW Wy) (hl : Wy.length ≤ 999998) (hm : (wayR Wy h).1 = 0) :
    Calls Try.prog 54 #[.agg #[uL, uW], .int .u64 h, .int .i64 t] w fun e w' => e = .returned (.tuple #[.agg #[uL, uW], .bool false]) ∧ Ext w w' := by
  obtain ⟨a, cap, rfl⟩ := hL.val
  obtain ⟨a2, cap2, rfl⟩ := hW.val
  have HL := Lib.hid hL
  have HW := Lib.hid hW
  have HM := Lib.hid hm
  clear hL hW hm
  have hA : Ext w ((w.alloc (Obj.cells #[.slice a L.length cap, .slice a2 Wy.length cap2] 30)).alloc (Obj.cells #[.slice none 0 0, .slice none 0 0] 30)) := ((Below.refl _ _).alloc (Nat.le_refl _) _).alloc (by simp) _
  have HP := Lib.hid (show Blk ((w.alloc (Obj.cells #[.slice a L.length cap, .slice a2 Wy.length cap2] 30)).alloc (Obj.cells #[.slice none 0 0, .slice none 0 0] 30)) w.heap.size #[.slice a L.length cap, .slice a2 Wy.length cap2] 30 from (Blk.new _ _ _).ext ((Below.refl _ _).alloc (Nat.le_refl _) _))
  have HR := Lib.hid (show Blk ((w.alloc (Obj.cells #[.slice a L.length cap, .slice a2 Wy.length cap2] 30)).alloc (Obj.cells #[.slice none 0 0, .slice none 0 0] 30)) (w.heap.size + 1) #[.slice none 0 0, .slice none 0 0] 30 from blk_at (by simp))
  go_enter Try.func54, Try.ntmps54
  go_wp2_with fail
  refine (rWay _ _ B L Wy h _ (HL.out.ext hA) (HW.out.ext hA) (by omega)).mono ?_
  rw [HM.out]
  rintro e w1 ⟨rfl, hE⟩
  have hR1 := HR.out.ext hE
  have p0 := (HP.out.ext hE).cell (i := 0) rfl
  have p1 := (HP.out.ext hE).cell (i := 1) rfl
  have z0 := hR1.cell (i := 0) rfl
  have z1 := hR1.cell (i := 1) rfl
  have zf0 := hR1.frozen 0
  have zf1 := hR1.frozen 1
  have hlt : w.heap.size + 1 < w1.heap.size := hR1.lt
  have hlt0 : w.heap.size < w1.heap.size := by omega
  have HR1 := Lib.hid hR1
  have HE := Lib.hid (below_ext hA hE)
  clear hE hR1 hA HP HR
  go_wp2_with fail
  (try simp only [Exit.inBlock, Exit.then])
  refine bodyPost_ret (results_struct (ty := 30) rfl rfl rfl (c := #[.slice a L.length cap, .slice a2 Wy.length cap2]) ((Blk.set2 HR1.out rfl _ _).ext ((Below.refl _ _).alloc (Nat.le_refl _) _)) (by kernel_rfl) (by kernel_rfl)) rfl ?_
  exact ⟨rfl, Below.alloc (Ext.set2 HE.out (by omega) _ _) (by simp; omega) _⟩
set_option maxRecDepth 100000 in
set_option maxHeartbeats 4000000 in
theorem rDone_no (uL uW : Value) (B : Nat) (L : List (Int × En)) (Wy : List (Int × Int × Int)) (h t : Int) (w : World) (hL : RowL w B uL L) (hW : RowW w B uW Wy) (hl : Wy.length ≤ 999998) (hm : (wayR Wy h).1 = 0) :
    Calls Try.prog 56 #[.agg #[uL, uW], .int .u64 h, .int .i64 t] w fun e w' => e = .returned (.tuple #[.agg #[uL, uW], .bool false]) ∧ Ext w w' := by
  obtain ⟨a, cap, rfl⟩ := hL.val
  obtain ⟨a2, cap2, rfl⟩ := hW.val
  have HL := Lib.hid hL
  have HW := Lib.hid hW
  have HM := Lib.hid hm
  clear hL hW hm
  have hA : Ext w ((w.alloc (Obj.cells #[.slice a L.length cap, .slice a2 Wy.length cap2] 30)).alloc (Obj.cells #[.slice none 0 0, .slice none 0 0] 30)) := ((Below.refl _ _).alloc (Nat.le_refl _) _).alloc (by simp) _
  have HP := Lib.hid (show Blk ((w.alloc (Obj.cells #[.slice a L.length cap, .slice a2 Wy.length cap2] 30)).alloc (Obj.cells #[.slice none 0 0, .slice none 0 0] 30)) w.heap.size #[.slice a L.length cap, .slice a2 Wy.length cap2] 30 from (Blk.new _ _ _).ext ((Below.refl _ _).alloc (Nat.le_refl _) _))
  have HR := Lib.hid (show Blk ((w.alloc (Obj.cells #[.slice a L.length cap, .slice a2 Wy.length cap2] 30)).alloc (Obj.cells #[.slice none 0 0, .slice none 0 0] 30)) (w.heap.size + 1) #[.slice none 0 0, .slice none 0 0] 30 from blk_at (by simp))
  go_enter Try.func56, Try.ntmps56
  go_wp2_with fail
  refine (rWay _ _ B L Wy h _ (HL.out.ext hA) (HW.out.ext hA) (by omega)).mono ?_
  rw [HM.out]
  rintro e w1 ⟨rfl, hE⟩
  have hR1 := HR.out.ext hE
  have p0 := (HP.out.ext hE).cell (i := 0) rfl
  have p1 := (HP.out.ext hE).cell (i := 1) rfl
  have z0 := hR1.cell (i := 0) rfl
  have z1 := hR1.cell (i := 1) rfl
  have zf0 := hR1.frozen 0
  have zf1 := hR1.frozen 1
  have hlt : w.heap.size + 1 < w1.heap.size := hR1.lt
  have hlt0 : w.heap.size < w1.heap.size := by omega
  have HR1 := Lib.hid hR1
  have HE := Lib.hid (below_ext hA hE)
  clear hE hR1 hA HP HR
  go_wp2_with fail
  (try simp only [Exit.inBlock, Exit.then])
  refine bodyPost_ret (results_struct (ty := 30) rfl rfl rfl (c := #[.slice a L.length cap, .slice a2 Wy.length cap2]) ((Blk.set2 HR1.out rfl _ _).ext ((Below.refl _ _).alloc (Nat.le_refl _) _)) (by kernel_rfl) (by kernel_rfl)) rfl ?_
  exact ⟨rfl, Below.alloc (Ext.set2 HE.out (by omega) _ _) (by simp; omega) _⟩
set_option maxRecDepth 100000 in
set_option maxHeartbeats 4000000 in
theorem rBump_yes (uL uW : Value) (B : Nat) (L : List (Int × En)) (Wy : List (Int × Int × Int)) (h t : Int) (w : World) (hL : RowL w B uL L) (hW : RowW w B uW Wy) (hl : Wy.length ≤ 999998) (m : Int) (hm : (wayR Wy h).1 = m) (hm0 : m ≠ 0) :
    Calls Try.prog 54 #[.agg #[uL, uW], .int .u64 h, .int .i64 t] w fun e w' => ∃ uW', e = .returned (.tuple #[.agg #[uL, uW'], .bool true]) ∧ RowW w' w.heap.size uW' (setR Wy (h, m, t)) ∧ Ext w w' := by
  obtain ⟨a, cap, rfl⟩ := hL.val
  obtain ⟨a2, cap2, rfl⟩ := hW.val
  have HL := Lib.hid hL
  have HW := Lib.hid hW
  have HM := Lib.hid hm
  have d : (m == 0) = false := by simp [hm0]
  clear hL hW hm hm0
  have hA : Ext w ((w.alloc (Obj.cells #[.slice a L.length cap, .slice a2 Wy.length cap2] 30)).alloc (Obj.cells #[.slice none 0 0, .slice none 0 0] 30)) := ((Below.refl _ _).alloc (Nat.le_refl _) _).alloc (by simp) _
  have HP := Lib.hid (show Blk ((w.alloc (Obj.cells #[.slice a L.length cap, .slice a2 Wy.length cap2] 30)).alloc (Obj.cells #[.slice none 0 0, .slice none 0 0] 30)) w.heap.size #[.slice a L.length cap, .slice a2 Wy.length cap2] 30 from (Blk.new _ _ _).ext ((Below.refl _ _).alloc (Nat.le_refl _) _))
  have HR := Lib.hid (show Blk ((w.alloc (Obj.cells #[.slice a L.length cap, .slice a2 Wy.length cap2] 30)).alloc (Obj.cells #[.slice none 0 0, .slice none 0 0] 30)) (w.heap.size + 1) #[.slice none 0 0, .slice none 0 0] 30 from blk_at (by simp))
  go_enter Try.func54, Try.ntmps54
  go_wp2_with fail
  refine (rWay _ _ B L Wy h _ (HL.out.ext hA) (HW.out.ext hA) (by omega)).mono ?_
  rw [HM.out]
  rintro e w1 ⟨rfl, hE⟩
  have hR1 := HR.out.ext hE
  have p0 := (HP.out.ext hE).cell (i := 0) rfl
  have p1 := (HP.out.ext hE).cell (i := 1) rfl
  have hlt : w.heap.size + 1 < w1.heap.size := hR1.lt
  have hlt0 : w.heap.size < w1.heap.size := by omega
  have HR1 := Lib.hid hR1
  have HE := Lib.hid (below_ext hA hE)
  clear hE hR1 hA HP HR
  go_wp2_with fail
  have hA2 : Ext w1 (w1.alloc (Obj.cells #[.int .u64 h, .int .i64 m, .int .i64 t] 52)) := (Below.refl _ _).alloc (Nat.le_refl _) _
  have hE2 := below_ext HE.out hA2
  refine (rset _ _ B L Wy h m t _ (HL.out.ext hE2) (HW.out.ext hE2) hl).mono ?_
  rintro e w2 ⟨uW', rfl, hR2, hE3⟩
  have hR3 := (HR1.out.ext hA2).ext hE3
  obtain ⟨a3, cap3, rfl⟩ := hR2.val
  have z0 := hR3.cell (i := 0) rfl
  have z1 := hR3.cell (i := 1) rfl
  have zf0 := hR3.frozen 0
  have zf1 := hR3.frozen 1
  have HF := Lib.hid (And.intro hR3 (And.intro (hR2.base hE2.size) (below_ext hE2 hE3)))
  clear hA2 hE2 hR2 hE3 hR3 p0 p1
  go_wp2_with fail
  (try simp only [Exit.inBlock, Exit.then])
  obtain ⟨k1, k2, k3⟩ := HF.out
  refine bodyPost_ret (results_struct (ty := 30) rfl rfl rfl (c := #[.slice a L.length cap, .slice a3 (setR Wy (h, m, t)).length cap3]) (Blk.set2 k1 rfl _ _) (by kernel_rfl) (by kernel_rfl)) rfl ?_
  refine ⟨_, rfl, ?_, Ext.set2 k3 (by omega) _ _⟩
  exact (RowG.chg k2 (Chg.set w2 (w.heap.size + 1) 0 _) (.one k1 (by decide))).chg (Chg.set _ (w.heap.size + 1) 1 _) (.one (k1.set 0 _ rfl) (by decide))
end Go.Proofs.Ytnpfikabcmngpaa.ShR
