/-
  Package shard, at things that are ints: looking, finding, cutting; of no shard there is nothing.
  Fewer than 1,000,000 entries and ways; no other condition.
-/
import Derived.Test.YtnpfikabcmngpaaShI
import Derived.Deep.WholeRow
import Derived.Test.YtnpfikabcmngpaaStruct
namespace Go.Proofs.Ytnpfikabcmngpaa.ShI
open Go.RowKit Go.Seg Go.Open Go.Lib Rk

theorem Look_none (b : Nat) (te : T Int Ent) (tw : T Int (Int × Int)) (h : Int) (w : World) (hS : ShardAt w b te tw) (hs : te.sz < 1000000) (hg : T.get cint h te = none) :
    Calls Try.prog 10 #[.pointer (some ⟨b, 0, none⟩), .int .u64 h] w fun e w' => e = .returned (.tuple #[.agg #[.int .u64 0, .int .i64 0, .int .i64 0, .int .i64 0, .int .i64 0, .int .i64 0], .bool false]) ∧ Ext w w' := by
  refine (Look_any b te tw h w hS hs).mono ?_
  rintro e w' ⟨rfl, hE⟩
  unfold entOf
  rw [hg]
  exact ⟨rfl, hE⟩
theorem Look_some (b : Nat) (te : T Int Ent) (tw : T Int (Int × Int)) (h : Int) (v : Ent) (w : World) (hS : ShardAt w b te tw) (hs : te.sz < 1000000) (hg : T.get cint h te = some v) :
    Calls Try.prog 10 #[.pointer (some ⟨b, 0, none⟩), .int .u64 h] w fun e w' => e = .returned (.tuple #[.agg #[.int .u64 v.1, .int .i64 v.2.1, .int .i64 v.2.2.1, .int .i64 v.2.2.2.1, .int .i64 v.2.2.2.2.1, .int .i64 v.2.2.2.2.2], .bool true]) ∧ Ext w w' := by
  refine (Look_any b te tw h w hS hs).mono ?_
  rintro e w' ⟨rfl, hE⟩
  unfold entOf
  rw [hg]
  exact ⟨rfl, hE⟩

theorem blk_at {w : World} {cs : Array Value} {E k : Nat} (h : k = w.heap.size) : Blk (w.alloc (.cells cs E)) k cs E := h ▸ Blk.new w cs E
set_option maxRecDepth 100000 in
set_option maxHeartbeats 2000000 in
theorem Find_none (b : Nat) (te : T Int Ent) (tw : T Int (Int × Int)) (h c : Int) (w : World) (hS : ShardAt w b te tw) (hs : te.sz < 1000000) (hg : T.get cint h te = none) :
    Calls Try.prog 12 #[.pointer (some ⟨b, 0, none⟩), .agg #[.int .u64 h, .int .u64 c]] w fun e w' => e = .returned (.tuple #[.agg #[.int .u64 0, .int .i64 0, .int .i64 0, .int .i64 0, .int .i64 0, .int .i64 0], .bool false]) ∧ Ext w w' := by
  have HS := Lib.hid hS
  have HG := Lib.hid hg
  clear hS hg
  have hA : Ext w ((w.alloc (Obj.cells #[.int .u64 h, .int .u64 c] 39)).alloc (Obj.cells #[.int .u64 0, .int .i64 0, .int .i64 0, .int .i64 0, .int .i64 0, .int .i64 0] 41)) := ((Below.refl _ _).alloc (Nat.le_refl _) _).alloc (by simp) _
  have HP := Lib.hid (show Blk ((w.alloc (Obj.cells #[.int .u64 h, .int .u64 c] 39)).alloc (Obj.cells #[.int .u64 0, .int .i64 0, .int .i64 0, .int .i64 0, .int .i64 0, .int .i64 0] 41)) w.heap.size #[.int .u64 h, .int .u64 c] 39 from (Blk.new _ _ _).ext ((Below.refl _ _).alloc (Nat.le_refl _) _))
  have HR := Lib.hid (show Blk ((w.alloc (Obj.cells #[.int .u64 h, .int .u64 c] 39)).alloc (Obj.cells #[.int .u64 0, .int .i64 0, .int .i64 0, .int .i64 0, .int .i64 0, .int .i64 0] 41)) (w.heap.size + 1) #[.int .u64 0, .int .i64 0, .int .i64 0, .int .i64 0, .int .i64 0, .int .i64 0] 41 from blk_at (by simp))
  go_enter Try.func12, Try.ntmps12
  go_wp2_with fail
  refine (Look_none _ _ _ _ _ (HS.out.ext hA) hs HG.out).mono ?_
  rintro e w1 ⟨rfl, hE⟩
  have p0 := (HP.out.ext hE).cell (i := 0) rfl
  have p1 := (HP.out.ext hE).cell (i := 1) rfl
  have hst := Go.run_storeCells_new (P := Try.prog) w1 41 #[.int .u64 0, .int .i64 0, .int .i64 0, .int .i64 0, .int .i64 0, .int .i64 0] #[.int .u64 0, .int .i64 0, .int .i64 0, .int .i64 0, .int .i64 0, .int .i64 0] (by kernel_rfl) rfl (by simp [Value.oneCell'])
  have hld := Go.run_loadCellsFrom_new (P := Try.prog) w1 41 #[.int .u64 0, .int .i64 0, .int .i64 0, .int .i64 0, .int .i64 0, .int .i64 0] 6 rfl
  have z0 := (HR.out.ext hE).cell (i := 0) rfl
  have y0 := (HR.out.ext hE).frozen 0
  have z1 := (HR.out.ext hE).cell (i := 1) rfl
  have y1 := (HR.out.ext hE).frozen 1
  have z2 := (HR.out.ext hE).cell (i := 2) rfl
  have y2 := (HR.out.ext hE).frozen 2
  have z3 := (HR.out.ext hE).cell (i := 3) rfl
  have y3 := (HR.out.ext hE).frozen 3
  have z4 := (HR.out.ext hE).cell (i := 4) rfl
  have y4 := (HR.out.ext hE).frozen 4
  have z5 := (HR.out.ext hE).cell (i := 5) rfl
  have y5 := (HR.out.ext hE).frozen 5
  have HR1 := Lib.hid (HR.out.ext hE)
  have HE := Lib.hid (below_ext hA hE)
  have hlt : w.heap.size + 1 < w1.heap.size := by have := hE.size; simp at this; omega
  have hlt0 : w.heap.size < w1.heap.size := by omega
  clear hE
  go_wp2_with fail
  (try simp only [Exit.inBlock, Exit.then])
  refine bodyPost_ret (results_struct (ty := 41) rfl rfl rfl (c := #[.int .u64 0, .int .i64 0, .int .i64 0, .int .i64 0, .int .i64 0, .int .i64 0]) ?_ (by kernel_rfl) (by kernel_rfl)) rfl ?_
  · first
    | exact Blk.set6a HR1.out rfl _ _ _ _ _ _ _
    | exact Blk.set6 HR1.out rfl _ _ _ _ _ _
  refine ⟨rfl, ?_⟩
  first | exact Ext.set6a HE.out (by simp) _ _ _ _ _ _ _ | exact Ext.set6 HE.out (by simp) _ _ _ _ _ _

set_option maxRecDepth 100000 in
set_option maxHeartbeats 2000000 in
theorem Find_some (b : Nat) (te : T Int Ent) (tw : T Int (Int × Int)) (h c : Int) (v : Ent) (w : World) (hS : ShardAt w b te tw) (hs : te.sz < 1000000) (hg : T.get cint h te = some v) (hc : v.1 = c) :
    Calls Try.prog 12 #[.pointer (some ⟨b, 0, none⟩), .agg #[.int .u64 h, .int .u64 c]] w fun e w' => e = .returned (.tuple #[.agg #[.int .u64 v.1, .int .i64 v.2.1, .int .i64 v.2.2.1, .int .i64 v.2.2.2.1, .int .i64 v.2.2.2.2.1, .int .i64 v.2.2.2.2.2], .bool true]) ∧ Ext w w' := by
  have HS := Lib.hid hS
  have HG := Lib.hid hg
  have d : (v.1 != c) = false := by simp [hc]
  clear hS hg hc
  have hA : Ext w ((w.alloc (Obj.cells #[.int .u64 h, .int .u64 c] 39)).alloc (Obj.cells #[.int .u64 0, .int .i64 0, .int .i64 0, .int .i64 0, .int .i64 0, .int .i64 0] 41)) := ((Below.refl _ _).alloc (Nat.le_refl _) _).alloc (by simp) _
  have HP := Lib.hid (show Blk ((w.alloc (Obj.cells #[.int .u64 h, .int .u64 c] 39)).alloc (Obj.cells #[.int .u64 0, .int .i64 0, .int .i64 0, .int .i64 0, .int .i64 0, .int .i64 0] 41)) w.heap.size #[.int .u64 h, .int .u64 c] 39 from (Blk.new _ _ _).ext ((Below.refl _ _).alloc (Nat.le_refl _) _))
  have HR := Lib.hid (show Blk ((w.alloc (Obj.cells #[.int .u64 h, .int .u64 c] 39)).alloc (Obj.cells #[.int .u64 0, .int .i64 0, .int .i64 0, .int .i64 0, .int .i64 0, .int .i64 0] 41)) (w.heap.size + 1) #[.int .u64 0, .int .i64 0, .int .i64 0, .int .i64 0, .int .i64 0, .int .i64 0] 41 from blk_at (by simp))
  go_enter Try.func12, Try.ntmps12
  go_wp2_with fail
  refine (Look_some _ _ _ _ _ _ (HS.out.ext hA) hs HG.out).mono ?_
  rintro e w1 ⟨rfl, hE⟩
  have p0 := (HP.out.ext hE).cell (i := 0) rfl
  have p1 := (HP.out.ext hE).cell (i := 1) rfl
  have hst := Go.run_storeCells_new (P := Try.prog) w1 41 #[.int .u64 0, .int .i64 0, .int .i64 0, .int .i64 0, .int .i64 0, .int .i64 0] #[.int .u64 v.1, .int .i64 v.2.1, .int .i64 v.2.2.1, .int .i64 v.2.2.2.1, .int .i64 v.2.2.2.2.1, .int .i64 v.2.2.2.2.2] (by kernel_rfl) rfl (by simp [Value.oneCell'])
  have hld := Go.run_loadCellsFrom_new (P := Try.prog) w1 41 #[.int .u64 v.1, .int .i64 v.2.1, .int .i64 v.2.2.1, .int .i64 v.2.2.2.1, .int .i64 v.2.2.2.2.1, .int .i64 v.2.2.2.2.2] 6 rfl
  have z0 := (HR.out.ext hE).cell (i := 0) rfl
  have y0 := (HR.out.ext hE).frozen 0
  have z1 := (HR.out.ext hE).cell (i := 1) rfl
  have y1 := (HR.out.ext hE).frozen 1
  have z2 := (HR.out.ext hE).cell (i := 2) rfl
  have y2 := (HR.out.ext hE).frozen 2
  have z3 := (HR.out.ext hE).cell (i := 3) rfl
  have y3 := (HR.out.ext hE).frozen 3
  have z4 := (HR.out.ext hE).cell (i := 4) rfl
  have y4 := (HR.out.ext hE).frozen 4
  have z5 := (HR.out.ext hE).cell (i := 5) rfl
  have y5 := (HR.out.ext hE).frozen 5
  have HR1 := Lib.hid (HR.out.ext hE)
  have HE := Lib.hid (below_ext hA hE)
  have hlt : w.heap.size + 1 < w1.heap.size := by have := hE.size; simp at this; omega
  have hlt0 : w.heap.size < w1.heap.size := by omega
  clear hE
  go_wp2_with fail
  (try simp only [Exit.inBlock, Exit.then])
  refine bodyPost_ret (results_struct (ty := 41) rfl rfl rfl (c := #[.int .u64 v.1, .int .i64 v.2.1, .int .i64 v.2.2.1, .int .i64 v.2.2.2.1, .int .i64 v.2.2.2.2.1, .int .i64 v.2.2.2.2.2]) ?_ (by kernel_rfl) (by kernel_rfl)) rfl ?_
  · first
    | exact Blk.set6a HR1.out rfl _ _ _ _ _ _ _
    | exact Blk.set6 HR1.out rfl _ _ _ _ _ _
  refine ⟨rfl, ?_⟩
  first | exact Ext.set6a HE.out (by simp) _ _ _ _ _ _ _ | exact Ext.set6 HE.out (by simp) _ _ _ _ _ _

set_option maxRecDepth 100000 in
set_option maxHeartbeats 2000000 in
theorem Find_other (b : Nat) (te : T Int Ent) (tw : T Int (Int × Int)) (h c : Int) (v : Ent) (w : World) (hS : ShardAt w b te tw) (hs : te.sz < 1000000) (hg : T.get cint h te = some v) (hc : v.1 ≠ c) :
    Calls Try.prog 12 #[.pointer (some ⟨b, 0, none⟩), .agg #[.int .u64 h, .int .u64 c]] w fun e w' => e = .returned (.tuple #[.agg #[.int .u64 0, .int .i64 0, .int .i64 0, .int .i64 0, .int .i64 0, .int .i64 0], .bool false]) ∧ Ext w w' := by
  have HS := Lib.hid hS
  have HG := Lib.hid hg
  have d : (v.1 != c) = true := by simp [hc]
  clear hS hg hc
  have hA : Ext w ((w.alloc (Obj.cells #[.int .u64 h, .int .u64 c] 39)).alloc (Obj.cells #[.int .u64 0, .int .i64 0, .int .i64 0, .int .i64 0, .int .i64 0, .int .i64 0] 41)) := ((Below.refl _ _).alloc (Nat.le_refl _) _).alloc (by simp) _
  have HP := Lib.hid (show Blk ((w.alloc (Obj.cells #[.int .u64 h, .int .u64 c] 39)).alloc (Obj.cells #[.int .u64 0, .int .i64 0, .int .i64 0, .int .i64 0, .int .i64 0, .int .i64 0] 41)) w.heap.size #[.int .u64 h, .int .u64 c] 39 from (Blk.new _ _ _).ext ((Below.refl _ _).alloc (Nat.le_refl _) _))
  have HR := Lib.hid (show Blk ((w.alloc (Obj.cells #[.int .u64 h, .int .u64 c] 39)).alloc (Obj.cells #[.int .u64 0, .int .i64 0, .int .i64 0, .int .i64 0, .int .i64 0, .int .i64 0] 41)) (w.heap.size + 1) #[.int .u64 0, .int .i64 0, .int .i64 0, .int .i64 0, .int .i64 0, .int .i64 0] 41 from blk_at (by simp))
  go_enter Try.func12, Try.ntmps12
  go_wp2_with fail
  refine (Look_some _ _ _ _ _ _ (HS.out.ext hA) hs HG.out).mono ?_
  rintro e w1 ⟨rfl, hE⟩
  have p0 := (HP.out.ext hE).cell (i := 0) rfl
  have p1 := (HP.out.ext hE).cell (i := 1) rfl
  have hst := Go.run_storeCells_new (P := Try.prog) w1 41 #[.int .u64 0, .int .i64 0, .int .i64 0, .int .i64 0, .int .i64 0, .int .i64 0] #[.int .u64 v.1, .int .i64 v.2.1, .int .i64 v.2.2.1, .int .i64 v.2.2.2.1, .int .i64 v.2.2.2.2.1, .int .i64 v.2.2.2.2.2] (by kernel_rfl) rfl (by simp [Value.oneCell'])
  have hld := Go.run_loadCellsFrom_new (P := Try.prog) w1 41 #[.int .u64 v.1, .int .i64 v.2.1, .int .i64 v.2.2.1, .int .i64 v.2.2.2.1, .int .i64 v.2.2.2.2.1, .int .i64 v.2.2.2.2.2] 6 rfl
  have z0 := (HR.out.ext hE).cell (i := 0) rfl
  have y0 := (HR.out.ext hE).frozen 0
  have z1 := (HR.out.ext hE).cell (i := 1) rfl
  have y1 := (HR.out.ext hE).frozen 1
  have z2 := (HR.out.ext hE).cell (i := 2) rfl
  have y2 := (HR.out.ext hE).frozen 2
  have z3 := (HR.out.ext hE).cell (i := 3) rfl
  have y3 := (HR.out.ext hE).frozen 3
  have z4 := (HR.out.ext hE).cell (i := 4) rfl
  have y4 := (HR.out.ext hE).frozen 4
  have z5 := (HR.out.ext hE).cell (i := 5) rfl
  have y5 := (HR.out.ext hE).frozen 5
  have HR1 := Lib.hid (HR.out.ext hE)
  have HE := Lib.hid (below_ext hA hE)
  have hlt : w.heap.size + 1 < w1.heap.size := by have := hE.size; simp at this; omega
  have hlt0 : w.heap.size < w1.heap.size := by omega
  clear hE
  go_wp2_with fail
  (try simp only [Exit.inBlock, Exit.then])
  refine bodyPost_ret (results_struct (ty := 41) rfl rfl rfl (c := #[.int .u64 0, .int .i64 0, .int .i64 0, .int .i64 0, .int .i64 0, .int .i64 0]) ?_ (by kernel_rfl) (by kernel_rfl)) rfl ?_
  · first
    | exact Blk.set6a HR1.out rfl _ _ _ _ _ _ _
    | exact Blk.set6 HR1.out rfl _ _ _ _ _ _
  refine ⟨rfl, ?_⟩
  first | exact Ext.set6a HE.out (by simp) _ _ _ _ _ _ _ | exact Ext.set6 HE.out (by simp) _ _ _ _ _ _

set_option maxRecDepth 100000 in
set_option maxHeartbeats 2000000 in
theorem Find_nil (h c : Int) (w : World) :
    Calls Try.prog 12 #[.pointer none, .agg #[.int .u64 h, .int .u64 c]] w fun e w' => e = .returned (.tuple #[.agg #[.int .u64 0, .int .i64 0, .int .i64 0, .int .i64 0, .int .i64 0, .int .i64 0], .bool false]) ∧ Ext w w' := by
  have hA : Ext w ((w.alloc (Obj.cells #[.int .u64 h, .int .u64 c] 39)).alloc (Obj.cells #[.int .u64 0, .int .i64 0, .int .i64 0, .int .i64 0, .int .i64 0, .int .i64 0] 41)) := ((Below.refl _ _).alloc (Nat.le_refl _) _).alloc (by simp) _
  have HP := Lib.hid (show Blk ((w.alloc (Obj.cells #[.int .u64 h, .int .u64 c] 39)).alloc (Obj.cells #[.int .u64 0, .int .i64 0, .int .i64 0, .int .i64 0, .int .i64 0, .int .i64 0] 41)) w.heap.size #[.int .u64 h, .int .u64 c] 39 from (Blk.new _ _ _).ext ((Below.refl _ _).alloc (Nat.le_refl _) _))
  have HR := Lib.hid (show Blk ((w.alloc (Obj.cells #[.int .u64 h, .int .u64 c] 39)).alloc (Obj.cells #[.int .u64 0, .int .i64 0, .int .i64 0, .int .i64 0, .int .i64 0, .int .i64 0] 41)) (w.heap.size + 1) #[.int .u64 0, .int .i64 0, .int .i64 0, .int .i64 0, .int .i64 0, .int .i64 0] 41 from blk_at (by simp))
  go_enter Try.func12, Try.ntmps12
  go_wp2_with fail
  refine (Look_nil _ _).mono ?_
  rintro e w1 ⟨rfl, hE⟩
  have p0 := (HP.out.ext hE).cell (i := 0) rfl
  have p1 := (HP.out.ext hE).cell (i := 1) rfl
  have hst := Go.run_storeCells_new (P := Try.prog) w1 41 #[.int .u64 0, .int .i64 0, .int .i64 0, .int .i64 0, .int .i64 0, .int .i64 0] #[.int .u64 0, .int .i64 0, .int .i64 0, .int .i64 0, .int .i64 0, .int .i64 0] (by kernel_rfl) rfl (by simp [Value.oneCell'])
  have hld := Go.run_loadCellsFrom_new (P := Try.prog) w1 41 #[.int .u64 0, .int .i64 0, .int .i64 0, .int .i64 0, .int .i64 0, .int .i64 0] 6 rfl
  have z0 := (HR.out.ext hE).cell (i := 0) rfl
  have y0 := (HR.out.ext hE).frozen 0
  have z1 := (HR.out.ext hE).cell (i := 1) rfl
  have y1 := (HR.out.ext hE).frozen 1
  have z2 := (HR.out.ext hE).cell (i := 2) rfl
  have y2 := (HR.out.ext hE).frozen 2
  have z3 := (HR.out.ext hE).cell (i := 3) rfl
  have y3 := (HR.out.ext hE).frozen 3
  have z4 := (HR.out.ext hE).cell (i := 4) rfl
  have y4 := (HR.out.ext hE).frozen 4
  have z5 := (HR.out.ext hE).cell (i := 5) rfl
  have y5 := (HR.out.ext hE).frozen 5
  have HR1 := Lib.hid (HR.out.ext hE)
  have HE := Lib.hid (below_ext hA hE)
  have hlt : w.heap.size + 1 < w1.heap.size := by have := hE.size; simp at this; omega
  have hlt0 : w.heap.size < w1.heap.size := by omega
  clear hE
  go_wp2_with fail
  (try simp only [Exit.inBlock, Exit.then])
  refine bodyPost_ret (results_struct (ty := 41) rfl rfl rfl (c := #[.int .u64 0, .int .i64 0, .int .i64 0, .int .i64 0, .int .i64 0, .int .i64 0]) ?_ (by kernel_rfl) (by kernel_rfl)) rfl ?_
  · first
    | exact Blk.set6a HR1.out rfl _ _ _ _ _ _ _
    | exact Blk.set6 HR1.out rfl _ _ _ _ _ _
  refine ⟨rfl, ?_⟩
  first | exact Ext.set6a HE.out (by simp) _ _ _ _ _ _ _ | exact Ext.set6 HE.out (by simp) _ _ _ _ _ _

set_option maxRecDepth 100000 in
set_option maxHeartbeats 2000000 in
theorem Remove_nil (h : Int) (w : World) :
    Calls Try.prog 52 #[.pointer none, .int .u64 h] w fun e w' => e = .returned (.tuple #[.agg #[.int .u64 0, .int .i64 0, .int .i64 0, .int .i64 0, .int .i64 0, .int .i64 0], .bool false]) ∧ Ext w w' := by
  have hA : Ext w (w.alloc (Obj.cells #[.int .u64 0, .int .i64 0, .int .i64 0, .int .i64 0, .int .i64 0, .int .i64 0] 41)) := (Below.refl _ _).alloc (Nat.le_refl _) _
  have HR := Lib.hid (show Blk (w.alloc (Obj.cells #[.int .u64 0, .int .i64 0, .int .i64 0, .int .i64 0, .int .i64 0, .int .i64 0] 41)) w.heap.size #[.int .u64 0, .int .i64 0, .int .i64 0, .int .i64 0, .int .i64 0, .int .i64 0] 41 from Blk.new _ _ _)
  go_enter Try.func52, Try.ntmps52
  go_wp2_with fail
  refine (Look_nil _ _).mono ?_
  rintro e w1 ⟨rfl, hE⟩
  have hst := Go.run_storeCells_new (P := Try.prog) w1 41 #[.int .u64 0, .int .i64 0, .int .i64 0, .int .i64 0, .int .i64 0, .int .i64 0] #[.int .u64 0, .int .i64 0, .int .i64 0, .int .i64 0, .int .i64 0, .int .i64 0] (by kernel_rfl) rfl (by simp [Value.oneCell'])
  have hld := Go.run_loadCellsFrom_new (P := Try.prog) w1 41 #[.int .u64 0, .int .i64 0, .int .i64 0, .int .i64 0, .int .i64 0, .int .i64 0] 6 rfl
  have z0 := (HR.out.ext hE).cell (i := 0) rfl
  have y0 := (HR.out.ext hE).frozen 0
  have z1 := (HR.out.ext hE).cell (i := 1) rfl
  have y1 := (HR.out.ext hE).frozen 1
  have z2 := (HR.out.ext hE).cell (i := 2) rfl
  have y2 := (HR.out.ext hE).frozen 2
  have z3 := (HR.out.ext hE).cell (i := 3) rfl
  have y3 := (HR.out.ext hE).frozen 3
  have z4 := (HR.out.ext hE).cell (i := 4) rfl
  have y4 := (HR.out.ext hE).frozen 4
  have z5 := (HR.out.ext hE).cell (i := 5) rfl
  have y5 := (HR.out.ext hE).frozen 5
  have HR1 := Lib.hid (HR.out.ext hE)
  have HE := Lib.hid (below_ext hA hE)
  have hlt : w.heap.size < w1.heap.size := by have := hE.size; simp at this; omega
  clear hE
  go_wp2_with fail
  (try simp only [Exit.inBlock, Exit.then])
  refine bodyPost_ret (results_struct (ty := 41) rfl rfl rfl (c := #[.int .u64 0, .int .i64 0, .int .i64 0, .int .i64 0, .int .i64 0, .int .i64 0]) ?_ (by kernel_rfl) (by kernel_rfl)) rfl ?_
  · first
    | exact Blk.set6a HR1.out rfl _ _ _ _ _ _ _
    | exact Blk.set6 HR1.out rfl _ _ _ _ _ _
  refine ⟨rfl, ?_⟩
  first | exact Ext.set6a HE.out (by simp) _ _ _ _ _ _ _ | exact Ext.set6 HE.out (by simp) _ _ _ _ _ _

set_option maxRecDepth 100000 in
set_option maxHeartbeats 2000000 in
theorem Cut_nil (h c : Int) (w : World) :
    Calls Try.prog 50 #[.pointer none, .agg #[.int .u64 h, .int .u64 c]] w fun e w' => e = .returned (.tuple #[.agg #[.int .u64 0, .int .i64 0, .int .i64 0, .int .i64 0, .int .i64 0, .int .i64 0], .bool false]) ∧ Ext w w' := by
  have hA : Ext w ((w.alloc (Obj.cells #[.int .u64 h, .int .u64 c] 39)).alloc (Obj.cells #[.int .u64 0, .int .i64 0, .int .i64 0, .int .i64 0, .int .i64 0, .int .i64 0] 41)) := ((Below.refl _ _).alloc (Nat.le_refl _) _).alloc (by simp) _
  have HP := Lib.hid (show Blk ((w.alloc (Obj.cells #[.int .u64 h, .int .u64 c] 39)).alloc (Obj.cells #[.int .u64 0, .int .i64 0, .int .i64 0, .int .i64 0, .int .i64 0, .int .i64 0] 41)) w.heap.size #[.int .u64 h, .int .u64 c] 39 from (Blk.new _ _ _).ext ((Below.refl _ _).alloc (Nat.le_refl _) _))
  have HR := Lib.hid (show Blk ((w.alloc (Obj.cells #[.int .u64 h, .int .u64 c] 39)).alloc (Obj.cells #[.int .u64 0, .int .i64 0, .int .i64 0, .int .i64 0, .int .i64 0, .int .i64 0] 41)) (w.heap.size + 1) #[.int .u64 0, .int .i64 0, .int .i64 0, .int .i64 0, .int .i64 0, .int .i64 0] 41 from blk_at (by simp))
  go_enter Try.func50, Try.ntmps50
  go_wp2_with fail
  refine (Find_nil _ _ _).mono ?_
  rintro e w1 ⟨rfl, hE⟩
  have p0 := (HP.out.ext hE).cell (i := 0) rfl
  have p1 := (HP.out.ext hE).cell (i := 1) rfl
  have hst := Go.run_storeCells_new (P := Try.prog) w1 41 #[.int .u64 0, .int .i64 0, .int .i64 0, .int .i64 0, .int .i64 0, .int .i64 0] #[.int .u64 0, .int .i64 0, .int .i64 0, .int .i64 0, .int .i64 0, .int .i64 0] (by kernel_rfl) rfl (by simp [Value.oneCell'])
  have hld := Go.run_loadCellsFrom_new (P := Try.prog) w1 41 #[.int .u64 0, .int .i64 0, .int .i64 0, .int .i64 0, .int .i64 0, .int .i64 0] 6 rfl
  have z0 := (HR.out.ext hE).cell (i := 0) rfl
  have y0 := (HR.out.ext hE).frozen 0
  have z1 := (HR.out.ext hE).cell (i := 1) rfl
  have y1 := (HR.out.ext hE).frozen 1
  have z2 := (HR.out.ext hE).cell (i := 2) rfl
  have y2 := (HR.out.ext hE).frozen 2
  have z3 := (HR.out.ext hE).cell (i := 3) rfl
  have y3 := (HR.out.ext hE).frozen 3
  have z4 := (HR.out.ext hE).cell (i := 4) rfl
  have y4 := (HR.out.ext hE).frozen 4
  have z5 := (HR.out.ext hE).cell (i := 5) rfl
  have y5 := (HR.out.ext hE).frozen 5
  have HR1 := Lib.hid (HR.out.ext hE)
  have HE := Lib.hid (below_ext hA hE)
  have hlt : w.heap.size + 1 < w1.heap.size := by have := hE.size; simp at this; omega
  have hlt0 : w.heap.size < w1.heap.size := by omega
  clear hE
  go_wp2_with fail
  (try simp only [Exit.inBlock, Exit.then])
  refine bodyPost_ret (results_struct (ty := 41) rfl rfl rfl (c := #[.int .u64 0, .int .i64 0, .int .i64 0, .int .i64 0, .int .i64 0, .int .i64 0]) ?_ (by kernel_rfl) (by kernel_rfl)) rfl ?_
  · first
    | exact Blk.set6a HR1.out rfl _ _ _ _ _ _ _
    | exact Blk.set6 HR1.out rfl _ _ _ _ _ _
  refine ⟨rfl, ?_⟩
  first | exact Ext.set6a HE.out (by simp) _ _ _ _ _ _ _ | exact Ext.set6 HE.out (by simp) _ _ _ _ _ _

set_option maxRecDepth 100000 in
set_option maxHeartbeats 2000000 in
theorem Renew_nil (h : Int) (v : Ent) (w : World) : Calls Try.prog 49 #[.pointer none, .int .u64 h, .agg #[.int .u64 v.1, .int .i64 v.2.1, .int .i64 v.2.2.1, .int .i64 v.2.2.2.1, .int .i64 v.2.2.2.2.1, .int .i64 v.2.2.2.2.2]] w fun e w' => e = .returned (.bool false) ∧ Ext w w' := by
  have hA : Ext w (w.alloc (Obj.cells #[.int .u64 v.1, .int .i64 v.2.1, .int .i64 v.2.2.1, .int .i64 v.2.2.2.1, .int .i64 v.2.2.2.2.1, .int .i64 v.2.2.2.2.2] 41)) := (Below.refl _ _).alloc (Nat.le_refl _) _
  go_enter Try.func49, Try.ntmps49
  go_wp2_with fail
  refine (Find_nil _ _ _).mono ?_
  rintro e w1 ⟨rfl, hE⟩
  have HE := Lib.hid (below_ext hA hE)
  clear hE
  go_wp2_with fail
  go_ret
  refine ⟨rfl, ?_⟩
  repeat (first | (refine Below.setCell ?_ (by simp) _) | (refine Below.alloc ?_ (by have := HE.out.size; simp; omega) _))
  exact HE.out
theorem SLen_nil (w : World) : Calls Try.prog 15 #[.pointer none] w fun e w' => e = .returned (.int .i64 0) ∧ w = w' := by
  go_enter Try.func15, Try.ntmps15
  go_wp2_with fail
  go_ret
  exact ⟨rfl, rfl⟩
theorem SLen_any (b : Nat) (te : T Int Ent) (tw : T Int (Int × Int)) (w : World) (hS : ShardAt w b te tw) : Calls Try.prog 15 #[.pointer (some ⟨b, 0, none⟩)] w fun e w' => e = .returned (.int .i64 te.sz) ∧ w = w' := by
  obtain ⟨q1, q2, hB, hT, _⟩ := hS
  have b0 := hB.cell (i := 0) rfl
  have HT := Lib.hid hT
  clear hB hT
  go_enter Try.func15, Try.ntmps15
  go_wp2_with fail
  refine (TrEi.Len_any _ _ _ HT.out).mono ?_
  rintro e w' ⟨rfl, rfl⟩
  go_wp2_with fail
  go_ret
  exact ⟨rfl, rfl⟩

end Go.Proofs.Ytnpfikabcmngpaa.ShI