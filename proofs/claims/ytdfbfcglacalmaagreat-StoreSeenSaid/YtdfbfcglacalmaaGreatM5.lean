/-
  Package shard, at things that are ints: looking, finding, cutting; of no shard there is nothing. Fewer than 1,000,000 entries and ways; no other condition.
  A region that draws its order, by a tree: operations that look are taken whenever they come up, in all worlds of a class; where several calls, stores or allocations are ready, each may come first. No program in sight; no condition.
  The document's answer for layer 22: Look, Way: rows of entries, and of what is on its way. Fewer than 1,000,000 of each; no other condition.
  The document's answer for layer 22: Find, and what the law turns one entry into the other by. Fewer than 1,000,000 of each; no other condition.
  The document's answer for layer 22: Remove. Fewer than 1,000,000 of each; no other condition.
  PLAIN LAW: an index of hashes by their ends: all of them, and those of each bucket; the rows that are told, in order. No program in sight; no condition.
  PLAIN LAW: the rows of an index behind its steps; how many there are; what is due. No program in sight; no condition.
-/
import Derived.Test.YtdfbfcglacalmaaGreatM4
import Derived.Deep.WholeRow
import Derived.Test.YtdfbfcglacalmaaGreatM1
import Derived.Test.YtdfbfcglacalmaaGreatM2
section
namespace Go.Proofs.YtdfbfcglacalmaaGreat.ShI
open Go.RowKit Go.Seg Go.Open Go.Lib Rk

theorem Look_none (b : Nat) (te : T Int Ent) (tw : T Int (Int × Int)) (h : Int) (w : World) (hS : ShardAt w b te tw) (hs : te.sz < 1000000) (hg : T.get cint h te = none) :
    Calls Tryz.prog 47 #[.pointer (some ⟨b, 0, none⟩), .int .u64 h] w fun e w' => e = .returned (.tuple #[.agg #[.int .u64 0, .int .i64 0, .int .i64 0, .int .i64 0, .int .i64 0, .int .i64 0], .bool false]) ∧ Ext w w' := by
  refine (Look_any b te tw h w hS hs).mono ?_
  rintro e w' ⟨rfl, hE⟩
  unfold entOf
  rw [hg]
  exact ⟨rfl, hE⟩
theorem Look_some (b : Nat) (te : T Int Ent) (tw : T Int (Int × Int)) (h : Int) (v : Ent) (w : World) (hS : ShardAt w b te tw) (hs : te.sz < 1000000) (hg : T.get cint h te = some v) :
    Calls Tryz.prog 47 #[.pointer (some ⟨b, 0, none⟩), .int .u64 h] w fun e w' => e = .returned (.tuple #[.agg #[.int .u64 v.1, .int .i64 v.2.1, .int .i64 v.2.2.1, .int .i64 v.2.2.2.1, .int .i64 v.2.2.2.2.1, .int .i64 v.2.2.2.2.2], .bool true]) ∧ Ext w w' := by
  refine (Look_any b te tw h w hS hs).mono ?_
  rintro e w' ⟨rfl, hE⟩
  unfold entOf
  rw [hg]
  exact ⟨rfl, hE⟩

theorem blk_at {w : World} {cs : Array Value} {E k : Nat} (h : k = w.heap.size) : Blk (w.alloc (.cells cs E)) k cs E := h ▸ Blk.new w cs E
set_option maxRecDepth 100000 in
set_option maxHeartbeats 2000000 in
theorem Find_none (b : Nat) (te : T Int Ent) (tw : T Int (Int × Int)) (h c : Int) (w : World) (hS : ShardAt w b te tw) (hs : te.sz < 1000000) (hg : T.get cint h te = none) :
    Calls Tryz.prog 58 #[.pointer (some ⟨b, 0, none⟩), .agg #[.int .u64 h, .int .u64 c]] w fun e w' => e = .returned (.tuple #[.agg #[.int .u64 0, .int .i64 0, .int .i64 0, .int .i64 0, .int .i64 0, .int .i64 0], .bool false]) ∧ Ext w w' := by
  have HS := Lib.hid hS
  have HG := Lib.hid hg
  clear hS hg
  have hA : Ext w ((w.alloc (Obj.cells #[.int .u64 h, .int .u64 c] 39)).alloc (Obj.cells #[.int .u64 0, .int .i64 0, .int .i64 0, .int .i64 0, .int .i64 0, .int .i64 0] 41)) := ((Below.refl _ _).alloc (Nat.le_refl _) _).alloc (by simp) _
  have HP := Lib.hid (show Blk ((w.alloc (Obj.cells #[.int .u64 h, .int .u64 c] 39)).alloc (Obj.cells #[.int .u64 0, .int .i64 0, .int .i64 0, .int .i64 0, .int .i64 0, .int .i64 0] 41)) w.heap.size #[.int .u64 h, .int .u64 c] 39 from (Blk.new _ _ _).ext ((Below.refl _ _).alloc (Nat.le_refl _) _))
  have HR := Lib.hid (show Blk ((w.alloc (Obj.cells #[.int .u64 h, .int .u64 c] 39)).alloc (Obj.cells #[.int .u64 0, .int .i64 0, .int .i64 0, .int .i64 0, .int .i64 0, .int .i64 0] 41)) (w.heap.size + 1) #[.int .u64 0, .int .i64 0, .int .i64 0, .int .i64 0, .int .i64 0, .int .i64 0] 41 from blk_at (by simp))
  go_enter Tryz.func58, Tryz.ntmps58
  go_wp2_with fail
  refine (Look_none _ _ _ _ _ (HS.out.ext hA) hs HG.out).mono ?_
  rintro e w1 ⟨rfl, hE⟩
  have p0 := (HP.out.ext hE).cell (i := 0) rfl
  have p1 := (HP.out.ext hE).cell (i := 1) rfl
  have hst := Go.run_storeCells_new (P := Tryz.prog) w1 41 #[.int .u64 0, .int .i64 0, .int .i64 0, .int .i64 0, .int .i64 0, .int .i64 0] #[.int .u64 0, .int .i64 0, .int .i64 0, .int .i64 0, .int .i64 0, .int .i64 0] (by kernel_rfl) rfl (by simp [Value.oneCell'])
  have hld := Go.run_loadCellsFrom_new (P := Tryz.prog) w1 41 #[.int .u64 0, .int .i64 0, .int .i64 0, .int .i64 0, .int .i64 0, .int .i64 0] 6 rfl
  have z0 := (HR.out.ext hE).cell (i := 0) rfl
  have y0 := (HR.out.ext hE).frozen 0
  have z1 := (HR.out.ext hE).cell (i := 1) rfl
  have y1 := (HR.out.ext hE).frozen 1
  have z2 := (HR.out.ext hE).cell (i := 2) rfl
  have y2 := (HR.out.ext hE).frozen 2
  have z3 := (HR.out.ext hE).cell (i := 3) rfl
  have y3 := (HR.out.ext hE).frozen 3
  have z4 := (HR.out.ext hE).cell (i := 4) rfl
  have y4 := (HR.out.ext hE).frozen 4
  have z5 := (HR.out.ext hE).cell (i := 5) rfl
  have y5 := (HR.out.ext hE).frozen 5
  have HR1 := Lib.hid (HR.out.ext hE)
  have HE := Lib.hid (below_ext hA hE)
  have hlt : w.heap.size + 1 < w1.heap.size := by have := hE.size; simp at this; omega
  have hlt0 : w.heap.size < w1.heap.size := by omega
  clear hE
  go_wp2_with fail
  (try simp only [Exit.inBlock, Exit.then])
  refine bodyPost_ret (results_struct (ty := 41) rfl rfl rfl (c := #[.int .u64 0, .int .i64 0, .int .i64 0, .int .i64 0, .int .i64 0, .int .i64 0]) ?_ (by kernel_rfl) (by kernel_rfl)) rfl ?_
  · first
    | exact Blk.set6a HR1.out rfl _ _ _ _ _ _ _
    | exact Blk.set6 HR1.out rfl _ _ _ _ _ _
  refine ⟨rfl, ?_⟩
  first | exact Ext.set6a HE.out (by simp) _ _ _ _ _ _ _ | exact Ext.set6 HE.out (by simp) _ _ _ _ _ _

set_option maxRecDepth 100000 in
set_option maxHeartbeats 2000000 in
theorem Find_some (b : Nat) (te : T Int Ent) (tw : T Int (Int × Int)) (h c : Int) (v : Ent) (w : World) (hS : ShardAt w b te tw) (hs : te.sz < 1000000) (hg : T.get cint h te = some v) (hc : v.1 = c) :
    Calls Tryz.prog 58 #[.pointer (some ⟨b, 0, none⟩), .agg #[.int .u64 h, .int .u64 c]] w fun e w' => e = .returned (.tuple #[.agg #[.int .u64 v.1, .int .i64 v.2.1, .int .i64 v.2.2.1, .int .i64 v.2.2.2.1, .int .i64 v.2.2.2.2.1, .int .i64 v.2.2.2.2.2], .bool true]) ∧ Ext w w' := by
  have HS := Lib.hid hS
  have HG := Lib.hid hg
  have d : (v.1 != c) = false := by simp [hc]
  clear hS hg hc
  have hA : Ext w ((w.alloc (Obj.cells #[.int .u64 h, .int .u64 c] 39)).alloc (Obj.cells #[.int .u64 0, .int .i64 0, .int .i64 0, .int .i64 0, .int .i64 0, .int .i64 0] 41)) := ((Below.refl _ _).alloc (Nat.le_refl _) _).alloc (by simp) _
  have HP := Lib.hid (show Blk ((w.alloc (Obj.cells #[.int .u64 h, .int .u64 c] 39)).alloc (Obj.cells #[.int .u64 0, .int .i64 0, .int .i64 0, .int .i64 0, .int .i64 0, .int .i64 0] 41)) w.heap.size #[.int .u64 h, .int .u64 c] 39 from (Blk.new _ _ _).ext ((Below.refl _ _).alloc (Nat.le_refl _) _))
  have HR := Lib.hid (show Blk ((w.alloc (Obj.cells #[.int .u64 h, .int .u64 c] 39)).alloc (Obj.cells #[.int .u64 0, .int .i64 0, .int .i64 0, .int .i64 0, .int .i64 0, .int .i64 0] 41)) (w.heap.size + 1) #[.int .u64 0, .int .i64 0, .int .i64 0, .int .i64 0, .int .i64 0, .int .i64 0] 41 from blk_at (by simp))
  go_enter Tryz.func58, Tryz.ntmps58
  go_wp2_with fail
  refine (Look_some _ _ _ _ _ _ (HS.out.ext hA) hs HG.out).mono ?_
  rintro e w1 ⟨rfl, hE⟩
  have p0 := (HP.out.ext hE).cell (i := 0) rfl
  have p1 := (HP.out.ext hE).cell (i := 1) rfl
  have hst := Go.run_storeCells_new (P := Tryz.prog) w1 41 #[.int .u64 0, .int .i64 0, .int .i64 0, .int .i64 0, .int .i64 0, .int .i64 0] #[.int .u64 v.1, .int .i64 v.2.1, .int .i64 v.2.2.1, .int .i64 v.2.2.2.1, .int .i64 v.2.2.2.2.1, .int .i64 v.2.2.2.2.2] (by kernel_rfl) rfl (by simp [Value.oneCell'])
  have hld := Go.run_loadCellsFrom_new (P := Tryz.prog) w1 41 #[.int .u64 v.1, .int .i64 v.2.1, .int .i64 v.2.2.1, .int .i64 v.2.2.2.1, .int .i64 v.2.2.2.2.1, .int .i64 v.2.2.2.2.2] 6 rfl
  have z0 := (HR.out.ext hE).cell (i := 0) rfl
  have y0 := (HR.out.ext hE).frozen 0
  have z1 := (HR.out.ext hE).cell (i := 1) rfl
  have y1 := (HR.out.ext hE).frozen 1
  have z2 := (HR.out.ext hE).cell (i := 2) rfl
  have y2 := (HR.out.ext hE).frozen 2
  have z3 := (HR.out.ext hE).cell (i := 3) rfl
  have y3 := (HR.out.ext hE).frozen 3
  have z4 := (HR.out.ext hE).cell (i := 4) rfl
  have y4 := (HR.out.ext hE).frozen 4
  have z5 := (HR.out.ext hE).cell (i := 5) rfl
  have y5 := (HR.out.ext hE).frozen 5
  have HR1 := Lib.hid (HR.out.ext hE)
  have HE := Lib.hid (below_ext hA hE)
  have hlt : w.heap.size + 1 < w1.heap.size := by have := hE.size; simp at this; omega
  have hlt0 : w.heap.size < w1.heap.size := by omega
  clear hE
  go_wp2_with fail
  (try simp only [Exit.inBlock, Exit.then])
  refine bodyPost_ret (results_struct (ty := 41) rfl rfl rfl (c := #[.int .u64 v.1, .int .i64 v.2.1, .int .i64 v.2.2.1, .int .i64 v.2.2.2.1, .int .i64 v.2.2.2.2.1, .int .i64 v.2.2.2.2.2]) ?_ (by kernel_rfl) (by kernel_rfl)) rfl ?_
  · first
    | exact Blk.set6a HR1.out rfl _ _ _ _ _ _ _
    | exact Blk.set6 HR1.out rfl _ _ _ _ _ _
  refine ⟨rfl, ?_⟩
  first | exact Ext.set6a HE.out (by simp) _ _ _ _ _ _ _ | exact Ext.set6 HE.out (by simp) _ _ _ _ _ _

set_option maxRecDepth 100000 in
set_option maxHeartbeats 2000000 in
theorem Find_other (b : Nat) (te : T Int Ent) (tw : T Int (Int × Int)) (h c : Int) (v : Ent) (w : World) (hS : ShardAt w b te tw) (hs : te.sz < 1000000) (hg : T.get cint h te = some v) (hc : v.1 ≠ c) :
    Calls Tryz.prog 58 #[.pointer (some ⟨b, 0, none⟩), .agg #[.int .u64 h, .int .u64 c]] w fun e w' => e = .returned (.tuple #[.agg #[.int .u64 0, .int .i64 0, .int .i64 0, .int .i64 0, .int .i64 0, .int .i64 0], .bool false]) ∧ Ext w w' := by
  have HS := Lib.hid hS
  have HG := Lib.hid hg
  have d : (v.1 != c) = true := by simp [hc]
  clear hS hg hc
  have hA : Ext w ((w.alloc (Obj.cells #[.int .u64 h, .int .u64 c] 39)).alloc (Obj.cells #[.int .u64 0, .int .i64 0, .int .i64 0, .int .i64 0, .int .i64 0, .int .i64 0] 41)) := ((Below.refl _ _).alloc (Nat.le_refl _) _).alloc (by simp) _
  have HP := Lib.hid (show Blk ((w.alloc (Obj.cells #[.int .u64 h, .int .u64 c] 39)).alloc (Obj.cells #[.int .u64 0, .int .i64 0, .int .i64 0, .int .i64 0, .int .i64 0, .int .i64 0] 41)) w.heap.size #[.int .u64 h, .int .u64 c] 39 from (Blk.new _ _ _).ext ((Below.refl _ _).alloc (Nat.le_refl _) _))
  have HR := Lib.hid (show Blk ((w.alloc (Obj.cells #[.int .u64 h, .int .u64 c] 39)).alloc (Obj.cells #[.int .u64 0, .int .i64 0, .int .i64 0, .int .i64 0, .int .i64 0, .int .i64 0] 41)) (w.heap.size + 1) #[.int .u64 0, .int .i64 0, .int .i64 0, .int .i64 0, .int .i64 0, .int .i64 0] 41 from blk_at (by simp))
  go_enter Tryz.func58, Tryz.ntmps58
  go_wp2_with fail
  refine (Look_some _ _ _ _ _ _ (HS.out.ext hA) hs HG.out).mono ?_
  rintro e w1 ⟨rfl, hE⟩
  have p0 := (HP.out.ext hE).cell (i := 0) rfl
  have p1 := (HP.out.ext hE).cell (i := 1) rfl
  have hst := Go.run_storeCells_new (P := Tryz.prog) w1 41 #[.int .u64 0, .int .i64 0, .int .i64 0, .int .i64 0, .int .i64 0, .int .i64 0] #[.int .u64 v.1, .int .i64 v.2.1, .int .i64 v.2.2.1, .int .i64 v.2.2.2.1, .int .i64 v.2.2.2.2.1, .int .i64 v.2.2.2.2.2] (by kernel_rfl) rfl (by simp [Value.oneCell'])
  have hld := Go.run_loadCellsFrom_new (P := Tryz.prog) w1 41 #[.int .u64 v.1, .int .i64 v.2.1, .int .i64 v.2.2.1, .int .i64 v.2.2.2.1, .int .i64 v.2.2.2.2.1, .int .i64 v.2.2.2.2.2] 6 rfl
  have z0 := (HR.out.ext hE).cell (i := 0) rfl
  have y0 := (HR.out.ext hE).frozen 0
  have z1 := (HR.out.ext hE).cell (i := 1) rfl
  have y1 := (HR.out.ext hE).frozen 1
  have z2 := (HR.out.ext hE).cell (i := 2) rfl
  have y2 := (HR.out.ext hE).frozen 2
  have z3 := (HR.out.ext hE).cell (i := 3) rfl
  have y3 := (HR.out.ext hE).frozen 3
  have z4 := (HR.out.ext hE).cell (i := 4) rfl
  have y4 := (HR.out.ext hE).frozen 4
  have z5 := (HR.out.ext hE).cell (i := 5) rfl
  have y5 := (HR.out.ext hE).frozen 5
  have HR1 := Lib.hid (HR.out.ext hE)
  have HE := Lib.hid (below_ext hA hE)
  have hlt : w.heap.size + 1 < w1.heap.size := by have := hE.size; simp at this; omega
  have hlt0 : w.heap.size < w1.heap.size := by omega
  clear hE
  go_wp2_with fail
  (try simp only [Exit.inBlock, Exit.then])
  refine bodyPost_ret (results_struct (ty := 41) rfl rfl rfl (c := #[.int .u64 0, .int .i64 0, .int .i64 0, .int .i64 0, .int .i64 0, .int .i64 0]) ?_ (by kernel_rfl) (by kernel_rfl)) rfl ?_
  · first
    | exact Blk.set6a HR1.out rfl _ _ _ _ _ _ _
    | exact Blk.set6 HR1.out rfl _ _ _ _ _ _
  refine ⟨rfl, ?_⟩
  first | exact Ext.set6a HE.out (by simp) _ _ _ _ _ _ _ | exact Ext.set6 HE.out (by simp) _ _ _ _ _ _

set_option maxRecDepth 100000 in
set_option maxHeartbeats 2000000 in
theorem Find_nil (h c : Int) (w : World) :
    Calls Tryz.prog 58 #[.pointer none, .agg #[.int .u64 h, .int .u64 c]] w fun e w' => e = .returned (.tuple #[.agg #[.int .u64 0, .int .i64 0, .int .i64 0, .int .i64 0, .int .i64 0, .int .i64 0], .bool false]) ∧ Ext w w' := by
  have hA : Ext w ((w.alloc (Obj.cells #[.int .u64 h, .int .u64 c] 39)).alloc (Obj.cells #[.int .u64 0, .int .i64 0, .int .i64 0, .int .i64 0, .int .i64 0, .int .i64 0] 41)) := ((Below.refl _ _).alloc (Nat.le_refl _) _).alloc (by simp) _
  have HP := Lib.hid (show Blk ((w.alloc (Obj.cells #[.int .u64 h, .int .u64 c] 39)).alloc (Obj.cells #[.int .u64 0, .int .i64 0, .int .i64 0, .int .i64 0, .int .i64 0, .int .i64 0] 41)) w.heap.size #[.int .u64 h, .int .u64 c] 39 from (Blk.new _ _ _).ext ((Below.refl _ _).alloc (Nat.le_refl _) _))
  have HR := Lib.hid (show Blk ((w.alloc (Obj.cells #[.int .u64 h, .int .u64 c] 39)).alloc (Obj.cells #[.int .u64 0, .int .i64 0, .int .i64 0, .int .i64 0, .int .i64 0, .int .i64 0] 41)) (w.heap.size + 1) #[.int .u64 0, .int .i64 0, .int .i64 0, .int .i64 0, .int .i64 0, .int .i64 0] 41 from blk_at (by simp))
  go_enter Tryz.func58, Tryz.ntmps58
  go_wp2_with fail
  refine (Look_nil _ _).mono ?_
  rintro e w1 ⟨rfl, hE⟩
  have p0 := (HP.out.ext hE).cell (i := 0) rfl
  have p1 := (HP.out.ext hE).cell (i := 1) rfl
  have hst := Go.run_storeCells_new (P := Tryz.prog) w1 41 #[.int .u64 0, .int .i64 0, .int .i64 0, .int .i64 0, .int .i64 0, .int .i64 0] #[.int .u64 0, .int .i64 0, .int .i64 0, .int .i64 0, .int .i64 0, .int .i64 0] (by kernel_rfl) rfl (by simp [Value.oneCell'])
  have hld := Go.run_loadCellsFrom_new (P := Tryz.prog) w1 41 #[.int .u64 0, .int .i64 0, .int .i64 0, .int .i64 0, .int .i64 0, .int .i64 0] 6 rfl
  have z0 := (HR.out.ext hE).cell (i := 0) rfl
  have y0 := (HR.out.ext hE).frozen 0
  have z1 := (HR.out.ext hE).cell (i := 1) rfl
  have y1 := (HR.out.ext hE).frozen 1
  have z2 := (HR.out.ext hE).cell (i := 2) rfl
  have y2 := (HR.out.ext hE).frozen 2
  have z3 := (HR.out.ext hE).cell (i := 3) rfl
  have y3 := (HR.out.ext hE).frozen 3
  have z4 := (HR.out.ext hE).cell (i := 4) rfl
  have y4 := (HR.out.ext hE).frozen 4
  have z5 := (HR.out.ext hE).cell (i := 5) rfl
  have y5 := (HR.out.ext hE).frozen 5
  have HR1 := Lib.hid (HR.out.ext hE)
  have HE := Lib.hid (below_ext hA hE)
  have hlt : w.heap.size + 1 < w1.heap.size := by have := hE.size; simp at this; omega
  have hlt0 : w.heap.size < w1.heap.size := by omega
  clear hE
  go_wp2_with fail
  (try simp only [Exit.inBlock, Exit.then])
  refine bodyPost_ret (results_struct (ty := 41) rfl rfl rfl (c := #[.int .u64 0, .int .i64 0, .int .i64 0, .int .i64 0, .int .i64 0, .int .i64 0]) ?_ (by kernel_rfl) (by kernel_rfl)) rfl ?_
  · first
    | exact Blk.set6a HR1.out rfl _ _ _ _ _ _ _
    | exact Blk.set6 HR1.out rfl _ _ _ _ _ _
  refine ⟨rfl, ?_⟩
  first | exact Ext.set6a HE.out (by simp) _ _ _ _ _ _ _ | exact Ext.set6 HE.out (by simp) _ _ _ _ _ _

set_option maxRecDepth 100000 in
set_option maxHeartbeats 2000000 in
theorem Remove_nil (h : Int) (w : World) :
    Calls Tryz.prog 81 #[.pointer none, .int .u64 h] w fun e w' => e = .returned (.tuple #[.agg #[.int .u64 0, .int .i64 0, .int .i64 0, .int .i64 0, .int .i64 0, .int .i64 0], .bool false]) ∧ Ext w w' := by
  have hA : Ext w (w.alloc (Obj.cells #[.int .u64 0, .int .i64 0, .int .i64 0, .int .i64 0, .int .i64 0, .int .i64 0] 41)) := (Below.refl _ _).alloc (Nat.le_refl _) _
  have HR := Lib.hid (show Blk (w.alloc (Obj.cells #[.int .u64 0, .int .i64 0, .int .i64 0, .int .i64 0, .int .i64 0, .int .i64 0] 41)) w.heap.size #[.int .u64 0, .int .i64 0, .int .i64 0, .int .i64 0, .int .i64 0, .int .i64 0] 41 from Blk.new _ _ _)
  go_enter Tryz.func81, Tryz.ntmps81
  go_wp2_with fail
  refine (Look_nil _ _).mono ?_
  rintro e w1 ⟨rfl, hE⟩
  have hst := Go.run_storeCells_new (P := Tryz.prog) w1 41 #[.int .u64 0, .int .i64 0, .int .i64 0, .int .i64 0, .int .i64 0, .int .i64 0] #[.int .u64 0, .int .i64 0, .int .i64 0, .int .i64 0, .int .i64 0, .int .i64 0] (by kernel_rfl) rfl (by simp [Value.oneCell'])
  have hld := Go.run_loadCellsFrom_new (P := Tryz.prog) w1 41 #[.int .u64 0, .int .i64 0, .int .i64 0, .int .i64 0, .int .i64 0, .int .i64 0] 6 rfl
  have z0 := (HR.out.ext hE).cell (i := 0) rfl
  have y0 := (HR.out.ext hE).frozen 0
  have z1 := (HR.out.ext hE).cell (i := 1) rfl
  have y1 := (HR.out.ext hE).frozen 1
  have z2 := (HR.out.ext hE).cell (i := 2) rfl
  have y2 := (HR.out.ext hE).frozen 2
  have z3 := (HR.out.ext hE).cell (i := 3) rfl
  have y3 := (HR.out.ext hE).frozen 3
  have z4 := (HR.out.ext hE).cell (i := 4) rfl
  have y4 := (HR.out.ext hE).frozen 4
  have z5 := (HR.out.ext hE).cell (i := 5) rfl
  have y5 := (HR.out.ext hE).frozen 5
  have HR1 := Lib.hid (HR.out.ext hE)
  have HE := Lib.hid (below_ext hA hE)
  have hlt : w.heap.size < w1.heap.size := by have := hE.size; simp at this; omega
  clear hE
  go_wp2_with fail
  (try simp only [Exit.inBlock, Exit.then])
  refine bodyPost_ret (results_struct (ty := 41) rfl rfl rfl (c := #[.int .u64 0, .int .i64 0, .int .i64 0, .int .i64 0, .int .i64 0, .int .i64 0]) ?_ (by kernel_rfl) (by kernel_rfl)) rfl ?_
  · first
    | exact Blk.set6a HR1.out rfl _ _ _ _ _ _ _
    | exact Blk.set6 HR1.out rfl _ _ _ _ _ _
  refine ⟨rfl, ?_⟩
  first | exact Ext.set6a HE.out (by simp) _ _ _ _ _ _ _ | exact Ext.set6 HE.out (by simp) _ _ _ _ _ _

set_option maxRecDepth 100000 in
set_option maxHeartbeats 2000000 in
theorem Renew_nil (h : Int) (v : Ent) (w : World) : Calls Tryz.prog 80 #[.pointer none, .int .u64 h, .agg #[.int .u64 v.1, .int .i64 v.2.1, .int .i64 v.2.2.1, .int .i64 v.2.2.2.1, .int .i64 v.2.2.2.2.1, .int .i64 v.2.2.2.2.2]] w fun e w' => e = .returned (.bool false) ∧ Ext w w' := by
  have hA : Ext w (w.alloc (Obj.cells #[.int .u64 v.1, .int .i64 v.2.1, .int .i64 v.2.2.1, .int .i64 v.2.2.2.1, .int .i64 v.2.2.2.2.1, .int .i64 v.2.2.2.2.2] 41)) := (Below.refl _ _).alloc (Nat.le_refl _) _
  go_enter Tryz.func80, Tryz.ntmps80
  go_wp2_with fail
  refine (Find_nil _ _ _).mono ?_
  rintro e w1 ⟨rfl, hE⟩
  have HE := Lib.hid (below_ext hA hE)
  clear hE
  go_wp2_with fail
  go_ret
  refine ⟨rfl, ?_⟩
  repeat (first | (refine Below.setCell ?_ (by simp) _) | (refine Below.alloc ?_ (by have := HE.out.size; simp; omega) _))
  exact HE.out
theorem SLen_nil (w : World) : Calls Tryz.prog 51 #[.pointer none] w fun e w' => e = .returned (.int .i64 0) ∧ w = w' := by
  go_enter Tryz.func51, Tryz.ntmps51
  go_wp2_with fail
  go_ret
  exact ⟨rfl, rfl⟩
theorem SLen_any (b : Nat) (te : T Int Ent) (tw : T Int (Int × Int)) (w : World) (hS : ShardAt w b te tw) : Calls Tryz.prog 51 #[.pointer (some ⟨b, 0, none⟩)] w fun e w' => e = .returned (.int .i64 te.sz) ∧ w = w' := by
  obtain ⟨q1, q2, hB, hT, _⟩ := hS
  have b0 := hB.cell (i := 0) rfl
  have HT := Lib.hid hT
  clear hB hT
  go_enter Tryz.func51, Tryz.ntmps51
  go_wp2_with fail
  refine (TrEi.Len_any _ _ _ HT.out).mono ?_
  rintro e w' ⟨rfl, rfl⟩
  go_wp2_with fail
  go_ret
  exact ⟨rfl, rfl⟩

end Go.Proofs.YtdfbfcglacalmaaGreat.ShI
end

section
namespace Go.Seg
open Go.RowKit

/-- How a region is walked: quiet ones by runs; the one at a place of what is left, or another; no other. -/
inductive Tree where
  | done
  | quiet (m : List Nat) (t : Tree)
  | alt (p : Nat) (t u : Tree)
  | stop

def CEnd (C : World → Prop) (K : Act → World → Prop) : Exit → Act → World → Prop
  | .normal, a', w' => C w' ∧ K a' w'
  | _, _, _ => False

def SegsE (P : Program) (ops : Array Oper) (Q : Exit → Act → World → Prop) (C : World → Prop) : Tree → List Oper → Act → World → Prop
  | .done, _, a, w => Q .normal a w
  | .quiet m t, l, a, w => ∃ aE, (∀ W, C W → wpList P ops (QEnd aE W) (pick (runsT m) l) a W) ∧ SegsE P ops Q C t (left (runsT m) l) aE w
  | .alt p t u, l, a, w => (match l[p]? with | none => False | some o => wpList P ops (CEnd C (SegsE P ops Q C t (l.eraseIdx p))) [o] a w) ∧ SegsE P ops Q C u l a w
  | .stop, _, _, _ => True

def okE (P : Program) (kind : Program → Oper → Bool) (md : Region.Mode) (ops : Array Oper) : Tree → List Nat → Array Bool → Option (List Nat) → Bool
  | .done, l, listed, rs => rs.isNone && l.isEmpty && (Region.ready md ops listed).isEmpty
  | .quiet m t, l, listed, rs => rs.isNone && okQuiet P kind md ops ops.size (pick (runsT m) l) listed && okE P kind md ops t (left (runsT m) l) (mark listed (pick (runsT m) l)) none
  | .alt p t u, l, listed, rs =>
    match rs.getD (Region.ready md ops listed) with
    | [] => false
    | r :: rs' => l[p]? == some r && okE P kind md ops t (l.eraseIdx p) (listed.setIfInBounds r true) none && okE P kind md ops u l listed (some rs')
  | .stop, _, _, rs => rs == some []

section
variable {P : Program} {ops : Array Oper} {Q : Exit → Act → World → Prop} {md : Region.Mode} {kind : Program → Oper → Bool} {C : World → Prop}

theorem letsOut_CEnd {K : Act → World → Prop} : ¬ LetsOut (CEnd C K) := fun ⟨_, _, h⟩ => h
theorem wpOp_of_oneC {i : Nat} {o : Oper} (hi : ops[i]? = some o) {K K' : Act → World → Prop} {a : Act} {w : World} (hK : ∀ a' w', a'.tmps.size = a.tmps.size → C w' → K a' w' → K' a' w')
    (h : wpList P ops (CEnd C K) [o] a w) : wpOp P ops Q i K' a w := by
  unfold wpOp
  simp only [hi]
  unfold wpList at h
  split
  · rename_i hw
    simp only [hw, if_true] at h
    rcases h with h | ⟨_, h⟩
    · exact .inl (upon_mono2 (fun a' w' hs hk => hK a' w' hs hk.1 hk.2) (fun e a w he hq => by cases e <;> first | exact absurd rfl he | exact hq.elim) h)
    · exact (letsOut_CEnd h).elim
  · rename_i hw
    simp only [hw] at h
    exact hK _ _ Act.put_size h.1 h.2

theorem wpAnyT_of_E (hkind : ∀ o, kind P o = true → Quiet P o) (hs : Region.noSelect ops = true) (hQ : ∀ c a a' w, Q (.panic c) a w → Q (.panic c) a' w) (get : Nat → Oper) :
    ∀ (t : Tree) (l : List Nat) (listed : Array Bool) (a : Act) (w : World), C w → Closed md ops listed → (∀ i ∈ l, ops[i]? = some (get i)) → dstsOk ops a.tmps.size = true → SegsE P ops Q C t (l.map get) a w →
      (okE P kind md ops t l listed none = true → wpAnyT P md ops Q ops.size C l.length listed a w) ∧
      (∀ rs, okE P kind md ops t l listed (some rs) = true → (∀ i ∈ rs, i ∈ Region.ready md ops listed) → ∀ i ∈ rs, wpOp P ops Q i (fun a' w' => (i < ops.size → C w') ∧ wpAnyT P md ops Q ops.size C (l.length - 1) (listed.setIfInBounds i true) a' w') a w ∧ 0 < l.length)
  | .done, l, listed, a, w, _, _, _, _, h => by
    refine ⟨fun hok => ?_, fun rs hok => ?_⟩
    · simp only [okE, Bool.and_eq_true, List.isEmpty_iff] at hok
      obtain ⟨⟨_, rfl⟩, hr⟩ := hok
      exact ⟨hr, h⟩
    · simp [okE] at hok
  | .quiet m t, l, listed, a, w, hC, hcl, hget, hd, h => by
    refine ⟨fun hok => ?_, fun rs hok => ?_⟩
    · simp only [okE, Bool.and_eq_true] at hok
      obtain ⟨⟨_, hq⟩, hrest⟩ := hok
      obtain ⟨aE, hw, hk⟩ := h
      rw [left_map] at hk
      rw [← pick_left_length (runsT m) l, Nat.add_comm]
      refine wpAnyTK_quiets hkind hs hQ hC (aE := aE) (L0 := fun _ => False) get _ _ _ _ (fun _ h => h.elim) hcl (fun i hi => hget i (pick_mem _ _ _ hi))
        (fun i hi j o ho hj => absurd (Array.getElem?_eq_some_iff.1 ho).1 (by omega)) hq hd (fun W hW => by rw [← pick_map]; exact hw W hW) fun hsz hcl2 => ?_
      exact (wpAnyT_of_E hkind hs hQ get t (left (runsT m) l) _ _ _ hC hcl2 (fun i hi => hget i (left_mem _ _ _ hi)) (by rw [hsz]; exact hd) hk).1 hrest
    · simp [okE] at hok
  | .alt p t u, l, listed, a, w, hC, hcl, hget, hd, h => by
    have key : ∀ (r : Nat) (rs' : List Nat), l[p]? = some r → okE P kind md ops t (l.eraseIdx p) (listed.setIfInBounds r true) none = true → okE P kind md ops u l listed (some rs') = true → (∀ i ∈ r :: rs', i ∈ Region.ready md ops listed) →
        ∀ i ∈ r :: rs', wpOp P ops Q i (fun a' w' => (i < ops.size → C w') ∧ wpAnyT P md ops Q ops.size C (l.length - 1) (listed.setIfInBounds i true) a' w') a w ∧ 0 < l.length := by
      intro r rs' hp h1 h2 hrs i hi
      obtain ⟨h3, h4⟩ := h
      have hpl : p < l.length := (List.getElem?_eq_some_iff.1 hp).1
      rcases List.mem_cons.1 hi with rfl | hi
      · have hm : (l.map get)[p]? = some (get i) := by rw [List.getElem?_map, hp]; rfl
        rw [hm] at h3
        have hil : i ∈ l := List.mem_of_getElem? hp
        refine ⟨wpOp_of_oneC (hget i hil) (fun a' w' hs' hc hk' => ⟨fun _ => hc, ?_⟩) h3, by omega⟩
        have e1 : l.length - 1 = (l.eraseIdx p).length := by rw [List.length_eraseIdx, if_pos hpl]
        rw [e1]
        have e2 : (l.map get).eraseIdx p = (l.eraseIdx p).map get := by simp [List.eraseIdx_eq_take_drop_succ, List.map_take, List.map_drop]
        rw [e2] at hk'
        exact (wpAnyT_of_E hkind hs hQ get t (l.eraseIdx p) _ a' w' hc (hcl.set (hrs i (by simp))) (fun j hj => hget j ((List.eraseIdx_sublist _ _).subset hj)) (by rw [hs']; exact hd) hk').1 h1
      · exact (wpAnyT_of_E hkind hs hQ get u l listed a w hC hcl hget hd h4).2 rs' h2 (fun j hj => hrs j (List.mem_cons_of_mem _ hj)) i hi
    refine ⟨fun hok => ?_, fun rs hok hrs i hi => ?_⟩
    · simp only [okE, Option.getD_none] at hok
      cases hr : Region.ready md ops listed with
      | nil => rw [hr] at hok; cases hok
      | cons r rs' =>
        rw [hr] at hok
        simp only [Bool.and_eq_true, beq_iff_eq] at hok
        have hk := key r rs' hok.1.1 hok.1.2 hok.2 (fun i hi => by rw [hr]; exact hi)
        have hl := (hk r (by simp)).2
        obtain ⟨n, hn⟩ : ∃ n, l.length = n + 1 := ⟨l.length - 1, by omega⟩
        rw [hn] at hk ⊢
        exact ⟨fun h0 => (by rw [hr] at h0; cases h0), fun i hi => (hk i (by rw [hr] at hi; exact hi)).1⟩
    · simp only [okE, Option.getD_some] at hok
      cases rs with
      | nil => cases hi
      | cons r rs' =>
        simp only [Bool.and_eq_true, beq_iff_eq] at hok
        exact key r rs' hok.1.1 hok.1.2 hok.2 hrs i hi
  | .stop, l, listed, a, w, _, _, _, _, _ => by
    refine ⟨fun hok => (by simp [okE] at hok), fun rs hok hrs i hi => ?_⟩
    simp [okE] at hok
    subst hok
    cases hi
end

theorem segsE_np {P : Program} {ops : Array Oper} {Q : Exit → Act → World → Prop} {C : World → Prop} : ∀ (t : Tree) (l' : List Oper) (a : Act) (w : World), SegsE P ops Q C t l' a w → SegsE P ops (NP Q) C t l' a w
  | .done, _, _, _, h => h
  | .quiet m t, l', a, w, h => by
    obtain ⟨aE, h1, h2⟩ := h
    exact ⟨aE, h1, segsE_np t _ _ _ h2⟩
  | .stop, _, _, _, _ => trivial
  | .alt p t u, l', a, w, h => by
    obtain ⟨h1, h3⟩ := h
    refine ⟨?_, segsE_np u _ _ _ h3⟩
    cases hp : l'[p]? with
    | none => rw [hp] at h1; exact h1
    | some o =>
      rw [hp] at h1
      dsimp only at h1 ⊢
      unfold wpList at h1 ⊢
      split
      · rename_i hw
        simp only [hw, if_true] at h1
        rcases h1 with h2 | ⟨_, h2⟩
        · exact .inl (upon_mono2 (fun a' w' _ hk => ⟨hk.1, segsE_np t _ _ _ hk.2⟩) (fun e a w he hq => by cases e <;> first | exact absurd rfl he | exact hq.elim) h2)
        · exact (letsOut_CEnd h2).elim
      · rename_i hw
        simp only [hw] at h1
        exact ⟨h1.1, segsE_np t _ _ _ h1.2⟩

def okRegionE (P : Program) (ops : Array Oper) (t : Tree) (size : Nat) : Bool :=
  Region.noSelect ops && dstsOk ops size && okE P kind .any ops t (List.range ops.size) (Array.replicate ops.size false) none

theorem wp_region_segsE {P : Program} {id : Nat} {l : List Oper} {Q : Exit → Act → World → Prop} {a : Act} {w : World} (C : World → Prop) (t : Tree) (hm : P.follows .mixedOrders = true)
    (hB : okRegionE P l.toArray t a.tmps.size = true) (hC : C w.drew) (h : SegsE P l.toArray Q C t l a w.drew) : (Code.region id l.toArray true).wp P Q a w := by
  simp only [okRegionE, Bool.and_eq_true] at hB
  obtain ⟨⟨h1, h3⟩, h4⟩ := hB
  refine Code.wp_mono (Q := NP Q) (fun e a w h => by cases e <;> first | exact h | exact h.elim) ?_
  refine wp_region_any hm ?_
  have hl : (List.range l.toArray.size).map (fun i => l.toArray.getD i default) = l := by
    apply List.ext_getElem
    · simp
    · intro i h1 h2
      simp at h1
      simp [h1]
  refine wpAny_of_T (n := l.toArray.size) (C := C) _ _ _ _ ?_
  have := (wpAnyT_of_E (P := P) (ops := l.toArray) (md := .any) (Q := NP Q) (C := C) (kind := kind) kind_quiet h1 (fun c a a' w hq => hq.elim) (fun i => l.toArray.getD i default) t (List.range l.toArray.size) (Array.replicate l.toArray.size false) a w.drew hC
    (fun j o ho hl => by
      have h' : (Array.replicate l.toArray.size false).getD j false = false := by simp [Array.getD]
      rw [h'] at hl
      cases hl) (fun i hi => by
      have hi' : i < l.length := by simpa using hi
      simp [hi']) h3 (by rw [hl]; exact segsE_np t l a _ h)).1 h4
  simpa using this

theorem segE_quiet {P : Program} {ops : Array Oper} {Q : Exit → Act → World → Prop} {C : World → Prop} {m : List Nat} {t : Tree} {l : List Oper} {a aE : Act} {w : World} (h1 : ∀ W, C W → wpList P ops (QEnd aE W) (pick (runsT m) l) a W)
    (h2 : SegsE P ops Q C t (left (runsT m) l) aE w) : SegsE P ops Q C (.quiet m t) l a w := ⟨aE, h1, h2⟩
theorem segE_alt {P : Program} {ops : Array Oper} {Q : Exit → Act → World → Prop} {C : World → Prop} {p : Nat} {t u : Tree} {l : List Oper} {a : Act} {w : World} (o : Oper) (hp : l[p]? = some o)
    (h1 : wpList P ops (CEnd C (SegsE P ops Q C t (l.eraseIdx p))) [o] a w) (h2 : SegsE P ops Q C u l a w) : SegsE P ops Q C (.alt p t u) l a w := by
  refine ⟨?_, h2⟩
  rw [hp]
  exact h1
theorem segE_stop {P : Program} {ops : Array Oper} {Q : Exit → Act → World → Prop} {C : World → Prop} {l : List Oper} {a : Act} {w : World} : SegsE P ops Q C .stop l a w := trivial
theorem segE_done {P : Program} {ops : Array Oper} {Q : Exit → Act → World → Prop} {C : World → Prop} {l : List Oper} {a : Act} {w : World} (h : Q .normal a w) : SegsE P ops Q C .done l a w := h
end Go.Seg
end

section
namespace Go.Proofs.YtdfbfcglacalmaaGreat.ShR
open Go.RowKit Go.Seg Go.Open Go.Lib Rk Go.Row

abbrev En := Int × Int × Int × Int × Int × Int
def encS (x : Int × En) : List Value := [.int .u64 x.1, .int .u64 x.2.1, .int .i64 x.2.2.1, .int .i64 x.2.2.2.1, .int .i64 x.2.2.2.2.1, .int .i64 x.2.2.2.2.2.1, .int .i64 x.2.2.2.2.2.2]
def encW (x : Int × Int × Int) : List Value := [.int .u64 x.1, .int .i64 x.2.1, .int .i64 x.2.2]
def RSE : Row.Ty Tryz.prog := ⟨26, 35, .agg #[.int .u64 0, .int .u64 0, .int .i64 0, .int .i64 0, .int .i64 0, .int .i64 0, .int .i64 0], 7, 56, Tryz.underlying26, by kernel_rfl, rfl, by decide, by decide⟩
def RSW : Row.Ty Tryz.prog := ⟨27, 245, .agg #[.int .u64 0, .int .i64 0, .int .i64 0], 3, 24, Tryz.underlying27, by kernel_rfl, rfl, by decide, by decide⟩
abbrev RowL (w : World) (B : Nat) (u : Value) (L : List (Int × En)) : Prop := RowG RSE encS w B u L
abbrev RowW (w : World) (B : Nat) (u : Value) (L : List (Int × Int × Int)) : Prop := RowG RSW encW w B u L
theorem encS_len (x : Int × En) : (encS x).length = RSE.size := rfl
theorem encW_len (x : Int × Int × Int) : (encW x).length = RSW.size := rfl
theorem encS_one (x : Int × En) : ∀ u ∈ encS x, u.oneCell' = true := by intro u hu; simp [encS] at hu; rcases hu with rfl | rfl | rfl | rfl | rfl | rfl | rfl <;> rfl
theorem encW_one (x : Int × Int × Int) : ∀ u ∈ encW x, u.oneCell' = true := by intro u hu; simp [encW] at hu; rcases hu with rfl | rfl | rfl <;> rfl

/-- What is there of a hash. -/
def assoc {β : Type} (L : List (Int × β)) (h : Int) : Option β := (L.find? fun x => decide (x.1 = h)).map (·.2)
theorem assoc_none {β : Type} {L : List (Int × β)} {h : Int} (hn : ∀ x ∈ L, x.1 ≠ h) : assoc L h = none := by
  unfold assoc
  rw [List.find?_eq_none.2 (fun x hx => by simpa using hn x hx)]
  rfl
theorem assoc_hit {β : Type} {L : List (Int × β)} {h : Int} {n : Nat} (hn : n < L.length) (hno : ∀ j (hj : j < L.length), j < n → L[j].1 ≠ h) (hk : L[n].1 = h) : assoc L h = some L[n].2 := by
  have e : L.find? (fun x => decide (x.1 = h)) = some L[n] := by
    rw [List.find?_eq_some_iff_getElem]
    exact ⟨by simpa using hk, n, hn, rfl, fun j hj => by simpa using hno j (by omega) hj⟩
  unfold assoc
  rw [e]
  rfl
def zS : Value := .agg #[.int .u64 0, .int .u64 0, .int .i64 0, .int .i64 0, .int .i64 0, .int .i64 0, .int .i64 0]
def valS (x : Int × En) : Value := .agg #[.int .u64 x.1, .int .u64 x.2.1, .int .i64 x.2.2.1, .int .i64 x.2.2.2.1, .int .i64 x.2.2.2.2.1, .int .i64 x.2.2.2.2.2.1, .int .i64 x.2.2.2.2.2.2]
def foundV (h : Int) : Option En → Value
  | none => .tuple #[zS, .bool false]
  | some v => .tuple #[valS (h, v), .bool true]
theorem blk_at {w : World} {cs : Array Value} {E k : Nat} (h : k = w.heap.size) : Blk (w.alloc (.cells cs E)) k cs E := h ▸ Blk.new w cs E

set_option maxHeartbeats 4000000 in
theorem _root_.Go.Open.Blk.set7 {w : World} {b : Nat} {cs : Array Value} {E : TypeId} (h : Blk w b cs E) (hn : cs.size = 7) (a0 a1 a2 a3 a4 a5 a6 : Value) :
    Blk (((((((w.setCell ⟨b, 0, none⟩ a0).setCell ⟨b, 1, none⟩ a1).setCell ⟨b, 2, none⟩ a2).setCell ⟨b, 3, none⟩ a3).setCell ⟨b, 4, none⟩ a4).setCell ⟨b, 5, none⟩ a5).setCell ⟨b, 6, none⟩ a6) b #[a0, a1, a2, a3, a4, a5, a6] E := by
  obtain ⟨l⟩ := cs
  match l, hn with
  | [x0, x1, x2, x3, x4, x5, x6], _ =>
    exact ((((((h.set 0 a0 rfl).set 1 a1 rfl).set 2 a2 rfl).set 3 a3 rfl).set 4 a4 rfl).set 5 a5 rfl).set 6 a6 rfl
theorem _root_.Go.Open.Blk.set3 {w : World} {b : Nat} {cs : Array Value} {E : TypeId} (h : Blk w b cs E) (hn : cs.size = 3) (a0 a1 a2 : Value) :
    Blk (((w.setCell ⟨b, 0, none⟩ a0).setCell ⟨b, 1, none⟩ a1).setCell ⟨b, 2, none⟩ a2) b #[a0, a1, a2] E := by
  obtain ⟨l⟩ := cs
  match l, hn with
  | [x0, x1, x2], _ => exact ((h.set 0 a0 rfl).set 1 a1 rfl).set 2 a2 rfl
theorem Ext.set3 {w0 w : World} {b : Nat} (h : Ext w0 w) (hb : w0.heap.size ≤ b) (a0 a1 a2 : Value) : Ext w0 (((w.setCell ⟨b, 0, none⟩ a0).setCell ⟨b, 1, none⟩ a1).setCell ⟨b, 2, none⟩ a2) :=
  Below.setCell (p := ⟨b, 2, none⟩) (Below.setCell (p := ⟨b, 1, none⟩) (Below.setCell (p := ⟨b, 0, none⟩) h hb a0) hb a1) hb a2
theorem _root_.Go.Open.Blk.set2 {w : World} {b : Nat} {cs : Array Value} {E : TypeId} (h : Blk w b cs E) (hn : cs.size = 2) (a0 a1 : Value) :
    Blk ((w.setCell ⟨b, 0, none⟩ a0).setCell ⟨b, 1, none⟩ a1) b #[a0, a1] E := by
  obtain ⟨l⟩ := cs
  match l, hn with
  | [x0, x1], _ => exact (h.set 0 a0 rfl).set 1 a1 rfl
theorem Ext.set2 {w0 w : World} {b : Nat} (h : Ext w0 w) (hb : w0.heap.size ≤ b) (a0 a1 : Value) : Ext w0 ((w.setCell ⟨b, 0, none⟩ a0).setCell ⟨b, 1, none⟩ a1) :=
  Below.setCell (p := ⟨b, 1, none⟩) (Below.setCell (p := ⟨b, 0, none⟩) h hb a0) hb a1
/-- The result of a function: a struct out of its block. -/
theorem results_one {P : Program} {fn : Func} {p : Tmp} {ty : TypeId} (h : fn.results = #[.cell p ty]) {tmps : Array Value} {k : Nat} {c : Array Value} {W : World}
    (hp : tmps.getD p undef = .pointer (some ⟨k, 0, none⟩)) (hB : Blk W k c ty)
    (hd : (match P.underlying ty with | some (.struct _) | some (.array _ _) => true | _ => false) = true) (hi : (P.info? ty).map (·.size) = some c.size) :
    (results fn tmps).run P W = .ok (.agg c) W := by
  rw [ShI.results_cell h, hp]
  simp only [asAddr, Sem.run_pure, Result.andThen]
  cases hu : P.underlying ty with
  | none => simp [hu] at hd
  | some d => rw [run_loadVar_row W k ty ty c (0, 0) d hB hu (by rw [hu] at hd; cases d <;> first | rfl | exact hd) hi]
theorem Ext.set7 {w0 w : World} {b : Nat} (h : Ext w0 w) (hb : w0.heap.size ≤ b) (a0 a1 a2 a3 a4 a5 a6 : Value) :
    Ext w0 (((((((w.setCell ⟨b, 0, none⟩ a0).setCell ⟨b, 1, none⟩ a1).setCell ⟨b, 2, none⟩ a2).setCell ⟨b, 3, none⟩ a3).setCell ⟨b, 4, none⟩ a4).setCell ⟨b, 5, none⟩ a5).setCell ⟨b, 6, none⟩ a6) :=
  Below.setCell (p := ⟨b, 6, none⟩) (Ext.set6 h hb a0 a1 a2 a3 a4 a5) hb a6

set_option maxRecDepth 100000 in
set_option maxHeartbeats 2000000 in
theorem rLook (uL uW : Value) (B : Nat) (L : List (Int × En)) (Wy : List (Int × Int × Int)) (h : Int) (w : World) (hL : RowL w B uL L) (hW : RowW w B uW Wy) (hl : L.length ≤ 1000000) :
    Calls Tryz.prog 9 #[.agg #[uL, uW], .int .u64 h] w fun e w' => e = .returned (foundV h (assoc L h)) ∧ Ext w w' := by
  obtain ⟨a, cap, b, F, rfl, _, ha, hF, hc⟩ := hL.openG encS_len
  obtain ⟨a2, cap2, rfl⟩ := hW.val
  have HA := Lib.hid ha
  have HC := Lib.hid hc
  have HF := Lib.hid hF
  clear ha hc hF hL hW
  go_enter Tryz.func9, Tryz.ntmps9
  go_wp2_with fail
  obtain ⟨W0, hW0⟩ : ∃ W, (w.alloc (.cells #[.slice a L.length cap, .slice a2 Wy.length cap2] 29)).alloc (.cells #[.int .u64 0, .int .u64 0, .int .i64 0, .int .i64 0, .int .i64 0, .int .i64 0, .int .i64 0] 35) = W := ⟨_, rfl⟩
  have hE0 : Ext w W0 := by rw [← hW0]; exact ((Below.refl _ _).alloc (Nat.le_refl _) _).alloc (by simp) _
  have hP : Blk W0 w.heap.size #[.slice a L.length cap, .slice a2 Wy.length cap2] 29 := by rw [← hW0]; exact (Blk.new _ _ _).ext ((Below.refl _ _).alloc (Nat.le_refl _) _)
  have hR : Blk W0 (w.heap.size + 1) #[.int .u64 0, .int .u64 0, .int .i64 0, .int .i64 0, .int .i64 0, .int .i64 0, .int .i64 0] 35 := by rw [← hW0]; exact blk_at (by simp)
  rw [hW0]
  have p0 := hP.cell (i := 0) rfl
  have HR := Lib.hid hR
  have HE0 := Lib.hid hE0
  clear hW0 hE0 hP hR
  go_loopg [6] L.length (fun g i wr => ∃ n : Nat, i = .int .i64 n ∧ n ≤ L.length ∧ wr = W0 ∧ Hid (∀ j (hj : j < L.length), j < n → L[j].1 ≠ h) ∧ L.length - n ≤ g)
  case atStart => exact ⟨0, rfl, Nat.zero_le _, rfl, Lib.hid (fun j _ h => absurd h (by omega)), Nat.le_refl _⟩
  case round =>
    obtain ⟨n, rfl, hn, rfl, HN, hg⟩ := hrel
    by_cases hik : n < L.length
    · obtain rfl := HA.out (by omega)
      have x0 : wr.cell? ⟨b, n * 7, none⟩ = some (.int .u64 (F n).1) := HC.out _ HE0.out n hik 0 (by decide)
      by_cases hk : (F n).1 = h
      · have d : ((F n).1 == h) = true := by simp [hk]
        have E : Hid (assoc L h = some (F n).2) := Lib.hid (by rw [HF.out n hik] at hk ⊢; exact assoc_hit hik HN.out hk)
        have HK := Lib.hid hk
        have hcn := HC.out _ HE0.out n hik
        have x0 := hcn 0 (by decide)
        have x1 := hcn 1 (by decide)
        have x2 := hcn 2 (by decide)
        have x3 := hcn 3 (by decide)
        have x4 := hcn 4 (by decide)
        have x5 := hcn 5 (by decide)
        have x6 := hcn 6 (by decide)
        simp [encS, RSE] at x0 x1 x2 x3 x4 x5 x6
        have z0 := HR.out.cell (i := 0) rfl
        have zf0 := HR.out.frozen 0
        have z1 := HR.out.cell (i := 1) rfl
        have zf1 := HR.out.frozen 1
        have z2 := HR.out.cell (i := 2) rfl
        have zf2 := HR.out.frozen 2
        have z3 := HR.out.cell (i := 3) rfl
        have zf3 := HR.out.frozen 3
        have z4 := HR.out.cell (i := 4) rfl
        have zf4 := HR.out.frozen 4
        have z5 := HR.out.cell (i := 5) rfl
        have zf5 := HR.out.frozen 5
        have z6 := HR.out.cell (i := 6) rfl
        have zf6 := HR.out.frozen 6
        clear hcn
        clear hk
        go_wp2_with fail
        (try simp only [Exit.inBlock, Exit.then])
        refine bodyPost_ret (results_struct (ty := 35) rfl rfl rfl (c := #[.int .u64 (F n).1, .int .u64 (F n).2.1, .int .i64 (F n).2.2.1, .int .i64 (F n).2.2.2.1, .int .i64 (F n).2.2.2.2.1, .int .i64 (F n).2.2.2.2.2.1, .int .i64 (F n).2.2.2.2.2.2]) (Blk.set7 HR.out rfl _ _ _ _ _ _ _) (by kernel_rfl) (by kernel_rfl)) rfl ?_
        rw [E.out]
        exact ⟨by rw [← HK.out]; rfl, Ext.set7 HE0.out (by simp) _ _ _ _ _ _ _⟩
      · have d : ((F n).1 == h) = false := by simp [hk]
        have E : Hid (∀ j (hj : j < L.length), j < n + 1 → L[j].1 ≠ h) := Lib.hid (fun j hj hlt => by
          by_cases e : j = n
          · subst e; rw [← HF.out j hj]; exact hk
          · exact HN.out j hj (by omega))
        clear hk
        go_wp2_with fail
        go_roundg (L.length - (n + 1))
        case measure => omega
        case rel => exact ⟨n + 1, by go_num, by omega, rfl, E, Nat.le_refl _⟩
    · obtain rfl : n = L.length := by omega
      have hdn : decide ((L.length : Int) < (L.length : Int)) = false := decide_eq_false (by omega)
      have E : Hid (assoc L h = none) := Lib.hid (assoc_none (fun x hx => by
        obtain ⟨j, hj, rfl⟩ := List.mem_iff_getElem.1 hx
        exact HN.out j hj hj))
      have z0 := HR.out.cell (i := 0) rfl
      have zf0 := HR.out.frozen 0
      have z1 := HR.out.cell (i := 1) rfl
      have zf1 := HR.out.frozen 1
      have z2 := HR.out.cell (i := 2) rfl
      have zf2 := HR.out.frozen 2
      have z3 := HR.out.cell (i := 3) rfl
      have zf3 := HR.out.frozen 3
      have z4 := HR.out.cell (i := 4) rfl
      have zf4 := HR.out.frozen 4
      have z5 := HR.out.cell (i := 5) rfl
      have zf5 := HR.out.frozen 5
      have z6 := HR.out.cell (i := 6) rfl
      have zf6 := HR.out.frozen 6
      clear hik
      go_wp2_with fail
      (try simp only [Exit.inBlock, Exit.then])
      refine bodyPost_ret (results_struct (ty := 35) rfl rfl rfl (c := #[.int .u64 0, .int .u64 0, .int .i64 0, .int .i64 0, .int .i64 0, .int .i64 0, .int .i64 0]) (Blk.set7 HR.out rfl _ _ _ _ _ _ _) (by kernel_rfl) (by kernel_rfl)) rfl ?_
      rw [E.out]
      exact ⟨rfl, Ext.set7 HE0.out (by simp) _ _ _ _ _ _ _⟩

/-- What is on its way of a hash, or none. -/
def wayR (Wy : List (Int × Int × Int)) (h : Int) : Int × Int := (assoc Wy h).getD (0, 0)
end Go.Proofs.YtdfbfcglacalmaaGreat.ShR
end

section
namespace Go.Proofs.YtdfbfcglacalmaaGreat.ShR
open Go.RowKit Go.Seg Go.Open Go.Lib Rk Go.Row

theorem _root_.Go.Open.Blk.set7a {w : World} {b : Nat} {cs : Array Value} {E : TypeId} (h : Blk w b cs E) (hn : cs.size = 7) (a0 a1 a2 a3 a4 a5 a6 : Value) (o : Obj) :
    Blk ((((((((w.setCell ⟨b, 0, none⟩ a0).setCell ⟨b, 1, none⟩ a1).setCell ⟨b, 2, none⟩ a2).setCell ⟨b, 3, none⟩ a3).setCell ⟨b, 4, none⟩ a4).setCell ⟨b, 5, none⟩ a5).setCell ⟨b, 6, none⟩ a6).alloc o) b #[a0, a1, a2, a3, a4, a5, a6] E :=
  (Blk.set7 h hn a0 a1 a2 a3 a4 a5 a6).ext ((Below.refl _ _).alloc (Nat.le_refl _) _)
theorem Ext.set7a {w0 w : World} {b : Nat} (h : Ext w0 w) (hb : w0.heap.size ≤ b) (a0 a1 a2 a3 a4 a5 a6 : Value) (o : Obj) :
    Ext w0 ((((((((w.setCell ⟨b, 0, none⟩ a0).setCell ⟨b, 1, none⟩ a1).setCell ⟨b, 2, none⟩ a2).setCell ⟨b, 3, none⟩ a3).setCell ⟨b, 4, none⟩ a4).setCell ⟨b, 5, none⟩ a5).setCell ⟨b, 6, none⟩ a6).alloc o) := by
  have hs := Below.size h
  exact Below.alloc (Ext.set7 h hb a0 a1 a2 a3 a4 a5 a6) (by simpa using hs) _
/-- What is there of a pair. -/
def findR (L : List (Int × En)) (h c : Int) : Option En := match assoc L h with
  | some v => if v.1 = c then some v else none
  | none => none
set_option maxRecDepth 100000 in
set_option maxHeartbeats 2000000 in
theorem rFind_none (uL uW : Value) (B : Nat) (L : List (Int × En)) (Wy : List (Int × Int × Int)) (h c : Int) (w : World) (hL : RowL w B uL L) (hW : RowW w B uW Wy) (hl : L.length ≤ 1000000) (hg : assoc L h = none) :
    Calls Tryz.prog 43 #[.agg #[uL, uW], .agg #[.int .u64 h, .int .u64 c]] w fun e w' => e = .returned (foundV h none) ∧ Ext w w' := by
  obtain ⟨a, cap, rfl⟩ := hL.val
  obtain ⟨a2, cap2, rfl⟩ := hW.val
  have HL := Lib.hid hL
  have HW := Lib.hid hW
  have HG := Lib.hid hg
  clear hL hW hg
  have hA : Ext w (((w.alloc (Obj.cells #[.slice a L.length cap, .slice a2 Wy.length cap2] 29)).alloc (Obj.cells #[.int .u64 h, .int .u64 c] 39)).alloc (Obj.cells #[.int .u64 0, .int .u64 0, .int .i64 0, .int .i64 0, .int .i64 0, .int .i64 0, .int .i64 0] 35)) := (((Below.refl _ _).alloc (Nat.le_refl _) _).alloc (by simp) _).alloc (by simp; omega) _
  have HP := Lib.hid (show Blk (((w.alloc (Obj.cells #[.slice a L.length cap, .slice a2 Wy.length cap2] 29)).alloc (Obj.cells #[.int .u64 h, .int .u64 c] 39)).alloc (Obj.cells #[.int .u64 0, .int .u64 0, .int .i64 0, .int .i64 0, .int .i64 0, .int .i64 0, .int .i64 0] 35)) (w.heap.size + 1) #[.int .u64 h, .int .u64 c] 39 from Blk.ext (blk_at (by simp)) ((Below.refl _ _).alloc (Nat.le_refl _) _))
  have HR := Lib.hid (show Blk (((w.alloc (Obj.cells #[.slice a L.length cap, .slice a2 Wy.length cap2] 29)).alloc (Obj.cells #[.int .u64 h, .int .u64 c] 39)).alloc (Obj.cells #[.int .u64 0, .int .u64 0, .int .i64 0, .int .i64 0, .int .i64 0, .int .i64 0, .int .i64 0] 35)) (w.heap.size + 1 + 1) #[.int .u64 0, .int .u64 0, .int .i64 0, .int .i64 0, .int .i64 0, .int .i64 0, .int .i64 0] 35 from blk_at (by simp))
  go_enter Tryz.func43, Tryz.ntmps43
  go_wp2_with fail
  refine (rLook _ _ B L Wy h _ (HL.out.ext hA) (HW.out.ext hA) hl).mono ?_
  rw [HG.out]
  simp only [foundV, zS]
  rintro e w1 ⟨rfl, hE⟩
  have p0 := (HP.out.ext hE).cell (i := 0) rfl
  have p1 := (HP.out.ext hE).cell (i := 1) rfl
  have hst := Go.run_storeCells_new (P := Tryz.prog) w1 35 #[.int .u64 0, .int .u64 0, .int .i64 0, .int .i64 0, .int .i64 0, .int .i64 0, .int .i64 0] #[.int .u64 0, .int .u64 0, .int .i64 0, .int .i64 0, .int .i64 0, .int .i64 0, .int .i64 0] (by kernel_rfl) rfl (by simp [Value.oneCell'])
  have hld := Go.run_loadCellsFrom_new (P := Tryz.prog) w1 35 #[.int .u64 0, .int .u64 0, .int .i64 0, .int .i64 0, .int .i64 0, .int .i64 0, .int .i64 0] 7 rfl
  have z0 := (HR.out.ext hE).cell (i := 0) rfl
  have y0 := (HR.out.ext hE).frozen 0
  have z1 := (HR.out.ext hE).cell (i := 1) rfl
  have y1 := (HR.out.ext hE).frozen 1
  have z2 := (HR.out.ext hE).cell (i := 2) rfl
  have y2 := (HR.out.ext hE).frozen 2
  have z3 := (HR.out.ext hE).cell (i := 3) rfl
  have y3 := (HR.out.ext hE).frozen 3
  have z4 := (HR.out.ext hE).cell (i := 4) rfl
  have y4 := (HR.out.ext hE).frozen 4
  have z5 := (HR.out.ext hE).cell (i := 5) rfl
  have y5 := (HR.out.ext hE).frozen 5
  have z6 := (HR.out.ext hE).cell (i := 6) rfl
  have y6 := (HR.out.ext hE).frozen 6
  have HR1 := Lib.hid (HR.out.ext hE)
  have HE := Lib.hid (below_ext hA hE)
  have hlt : w.heap.size + 1 + 1 < w1.heap.size := by have := hE.size; simp at this; omega
  have hlt0 : w.heap.size + 1 < w1.heap.size := by omega
  have hlt1 : w.heap.size < w1.heap.size := by omega
  clear hE
  go_wp2_with fail
  (try simp only [Exit.inBlock, Exit.then])
  refine bodyPost_ret (results_struct (ty := 35) rfl rfl rfl (c := #[.int .u64 0, .int .u64 0, .int .i64 0, .int .i64 0, .int .i64 0, .int .i64 0, .int .i64 0]) ?_ (by kernel_rfl) (by kernel_rfl)) rfl ?_
  · first
    | exact Blk.set7a HR1.out rfl _ _ _ _ _ _ _ _
    | exact Blk.set7 HR1.out rfl _ _ _ _ _ _ _
  refine ⟨rfl, ?_⟩
  first | exact Ext.set7a HE.out (by omega) _ _ _ _ _ _ _ _ | exact Ext.set7 HE.out (by omega) _ _ _ _ _ _ _

set_option maxRecDepth 100000 in
set_option maxHeartbeats 2000000 in
theorem rFind_some (uL uW : Value) (B : Nat) (L : List (Int × En)) (Wy : List (Int × Int × Int)) (h c : Int) (v : En) (w : World) (hL : RowL w B uL L) (hW : RowW w B uW Wy) (hl : L.length ≤ 1000000) (hg : assoc L h = some v) (hc : v.1 = c) :
    Calls Tryz.prog 43 #[.agg #[uL, uW], .agg #[.int .u64 h, .int .u64 c]] w fun e w' => e = .returned (foundV h (some v)) ∧ Ext w w' := by
  obtain ⟨a, cap, rfl⟩ := hL.val
  obtain ⟨a2, cap2, rfl⟩ := hW.val
  have HL := Lib.hid hL
  have HW := Lib.hid hW
  have HG := Lib.hid hg
  have d : (v.1 != c) = false := by simp [hc]
  clear hc
  clear hL hW hg
  have hA : Ext w (((w.alloc (Obj.cells #[.slice a L.length cap, .slice a2 Wy.length cap2] 29)).alloc (Obj.cells #[.int .u64 h, .int .u64 c] 39)).alloc (Obj.cells #[.int .u64 0, .int .u64 0, .int .i64 0, .int .i64 0, .int .i64 0, .int .i64 0, .int .i64 0] 35)) := (((Below.refl _ _).alloc (Nat.le_refl _) _).alloc (by simp) _).alloc (by simp; omega) _
  have HP := Lib.hid (show Blk (((w.alloc (Obj.cells #[.slice a L.length cap, .slice a2 Wy.length cap2] 29)).alloc (Obj.cells #[.int .u64 h, .int .u64 c] 39)).alloc (Obj.cells #[.int .u64 0, .int .u64 0, .int .i64 0, .int .i64 0, .int .i64 0, .int .i64 0, .int .i64 0] 35)) (w.heap.size + 1) #[.int .u64 h, .int .u64 c] 39 from Blk.ext (blk_at (by simp)) ((Below.refl _ _).alloc (Nat.le_refl _) _))
  have HR := Lib.hid (show Blk (((w.alloc (Obj.cells #[.slice a L.length cap, .slice a2 Wy.length cap2] 29)).alloc (Obj.cells #[.int .u64 h, .int .u64 c] 39)).alloc (Obj.cells #[.int .u64 0, .int .u64 0, .int .i64 0, .int .i64 0, .int .i64 0, .int .i64 0, .int .i64 0] 35)) (w.heap.size + 1 + 1) #[.int .u64 0, .int .u64 0, .int .i64 0, .int .i64 0, .int .i64 0, .int .i64 0, .int .i64 0] 35 from blk_at (by simp))
  go_enter Tryz.func43, Tryz.ntmps43
  go_wp2_with fail
  refine (rLook _ _ B L Wy h _ (HL.out.ext hA) (HW.out.ext hA) hl).mono ?_
  rw [HG.out]
  simp only [foundV, valS]
  rintro e w1 ⟨rfl, hE⟩
  have p0 := (HP.out.ext hE).cell (i := 0) rfl
  have p1 := (HP.out.ext hE).cell (i := 1) rfl
  have hst := Go.run_storeCells_new (P := Tryz.prog) w1 35 #[.int .u64 0, .int .u64 0, .int .i64 0, .int .i64 0, .int .i64 0, .int .i64 0, .int .i64 0] #[.int .u64 h, .int .u64 v.1, .int .i64 v.2.1, .int .i64 v.2.2.1, .int .i64 v.2.2.2.1, .int .i64 v.2.2.2.2.1, .int .i64 v.2.2.2.2.2] (by kernel_rfl) rfl (by simp [Value.oneCell'])
  have hld := Go.run_loadCellsFrom_new (P := Tryz.prog) w1 35 #[.int .u64 h, .int .u64 v.1, .int .i64 v.2.1, .int .i64 v.2.2.1, .int .i64 v.2.2.2.1, .int .i64 v.2.2.2.2.1, .int .i64 v.2.2.2.2.2] 7 rfl
  have z0 := (HR.out.ext hE).cell (i := 0) rfl
  have y0 := (HR.out.ext hE).frozen 0
  have z1 := (HR.out.ext hE).cell (i := 1) rfl
  have y1 := (HR.out.ext hE).frozen 1
  have z2 := (HR.out.ext hE).cell (i := 2) rfl
  have y2 := (HR.out.ext hE).frozen 2
  have z3 := (HR.out.ext hE).cell (i := 3) rfl
  have y3 := (HR.out.ext hE).frozen 3
  have z4 := (HR.out.ext hE).cell (i := 4) rfl
  have y4 := (HR.out.ext hE).frozen 4
  have z5 := (HR.out.ext hE).cell (i := 5) rfl
  have y5 := (HR.out.ext hE).frozen 5
  have z6 := (HR.out.ext hE).cell (i := 6) rfl
  have y6 := (HR.out.ext hE).frozen 6
  have HR1 := Lib.hid (HR.out.ext hE)
  have HE := Lib.hid (below_ext hA hE)
  have hlt : w.heap.size + 1 + 1 < w1.heap.size := by have := hE.size; simp at this; omega
  have hlt0 : w.heap.size + 1 < w1.heap.size := by omega
  have hlt1 : w.heap.size < w1.heap.size := by omega
  clear hE
  go_wp2_with fail
  (try simp only [Exit.inBlock, Exit.then])
  refine bodyPost_ret (results_struct (ty := 35) rfl rfl rfl (c := #[.int .u64 h, .int .u64 v.1, .int .i64 v.2.1, .int .i64 v.2.2.1, .int .i64 v.2.2.2.1, .int .i64 v.2.2.2.2.1, .int .i64 v.2.2.2.2.2]) ?_ (by kernel_rfl) (by kernel_rfl)) rfl ?_
  · first
    | exact Blk.set7a HR1.out rfl _ _ _ _ _ _ _ _
    | exact Blk.set7 HR1.out rfl _ _ _ _ _ _ _
  refine ⟨rfl, ?_⟩
  first | exact Ext.set7a HE.out (by omega) _ _ _ _ _ _ _ _ | exact Ext.set7 HE.out (by omega) _ _ _ _ _ _ _

set_option maxRecDepth 100000 in
set_option maxHeartbeats 2000000 in
theorem rFind_other (uL uW : Value) (B : Nat) (L : List (Int × En)) (Wy : List (Int × Int × Int)) (h c : Int) (v : En) (w : World) (hL : RowL w B uL L) (hW : RowW w B uW Wy) (hl : L.length ≤ 1000000) (hg : assoc L h = some v) (hc : v.1 ≠ c) :
    Calls Tryz.prog 43 #[.agg #[uL, uW], .agg #[.int .u64 h, .int .u64 c]] w fun e w' => e = .returned (foundV h none) ∧ Ext w w' := by
  obtain ⟨a, cap, rfl⟩ := hL.val
  obtain ⟨a2, cap2, rfl⟩ := hW.val
  have HL := Lib.hid hL
  have HW := Lib.hid hW
  have HG := Lib.hid hg
  have d : (v.1 != c) = true := by simp [hc]
  clear hc
  clear hL hW hg
  have hA : Ext w (((w.alloc (Obj.cells #[.slice a L.length cap, .slice a2 Wy.length cap2] 29)).alloc (Obj.cells #[.int .u64 h, .int .u64 c] 39)).alloc (Obj.cells #[.int .u64 0, .int .u64 0, .int .i64 0, .int .i64 0, .int .i64 0, .int .i64 0, .int .i64 0] 35)) := (((Below.refl _ _).alloc (Nat.le_refl _) _).alloc (by simp) _).alloc (by simp; omega) _
  have HP := Lib.hid (show Blk (((w.alloc (Obj.cells #[.slice a L.length cap, .slice a2 Wy.length cap2] 29)).alloc (Obj.cells #[.int .u64 h, .int .u64 c] 39)).alloc (Obj.cells #[.int .u64 0, .int .u64 0, .int .i64 0, .int .i64 0, .int .i64 0, .int .i64 0, .int .i64 0] 35)) (w.heap.size + 1) #[.int .u64 h, .int .u64 c] 39 from Blk.ext (blk_at (by simp)) ((Below.refl _ _).alloc (Nat.le_refl _) _))
  have HR := Lib.hid (show Blk (((w.alloc (Obj.cells #[.slice a L.length cap, .slice a2 Wy.length cap2] 29)).alloc (Obj.cells #[.int .u64 h, .int .u64 c] 39)).alloc (Obj.cells #[.int .u64 0, .int .u64 0, .int .i64 0, .int .i64 0, .int .i64 0, .int .i64 0, .int .i64 0] 35)) (w.heap.size + 1 + 1) #[.int .u64 0, .int .u64 0, .int .i64 0, .int .i64 0, .int .i64 0, .int .i64 0, .int .i64 0] 35 from blk_at (by simp))
  go_enter Tryz.func43, Tryz.ntmps43
  go_wp2_with fail
  refine (rLook _ _ B L Wy h _ (HL.out.ext hA) (HW.out.ext hA) hl).mono ?_
  rw [HG.out]
  simp only [foundV, valS]
  rintro e w1 ⟨rfl, hE⟩
  have p0 := (HP.out.ext hE).cell (i := 0) rfl
  have p1 := (HP.out.ext hE).cell (i := 1) rfl
  have hst := Go.run_storeCells_new (P := Tryz.prog) w1 35 #[.int .u64 0, .int .u64 0, .int .i64 0, .int .i64 0, .int .i64 0, .int .i64 0, .int .i64 0] #[.int .u64 h, .int .u64 v.1, .int .i64 v.2.1, .int .i64 v.2.2.1, .int .i64 v.2.2.2.1, .int .i64 v.2.2.2.2.1, .int .i64 v.2.2.2.2.2] (by kernel_rfl) rfl (by simp [Value.oneCell'])
  have hld := Go.run_loadCellsFrom_new (P := Tryz.prog) w1 35 #[.int .u64 h, .int .u64 v.1, .int .i64 v.2.1, .int .i64 v.2.2.1, .int .i64 v.2.2.2.1, .int .i64 v.2.2.2.2.1, .int .i64 v.2.2.2.2.2] 7 rfl
  have z0 := (HR.out.ext hE).cell (i := 0) rfl
  have y0 := (HR.out.ext hE).frozen 0
  have z1 := (HR.out.ext hE).cell (i := 1) rfl
  have y1 := (HR.out.ext hE).frozen 1
  have z2 := (HR.out.ext hE).cell (i := 2) rfl
  have y2 := (HR.out.ext hE).frozen 2
  have z3 := (HR.out.ext hE).cell (i := 3) rfl
  have y3 := (HR.out.ext hE).frozen 3
  have z4 := (HR.out.ext hE).cell (i := 4) rfl
  have y4 := (HR.out.ext hE).frozen 4
  have z5 := (HR.out.ext hE).cell (i := 5) rfl
  have y5 := (HR.out.ext hE).frozen 5
  have z6 := (HR.out.ext hE).cell (i := 6) rfl
  have y6 := (HR.out.ext hE).frozen 6
  have HR1 := Lib.hid (HR.out.ext hE)
  have HE := Lib.hid (below_ext hA hE)
  have hlt : w.heap.size + 1 + 1 < w1.heap.size := by have := hE.size; simp at this; omega
  have hlt0 : w.heap.size + 1 < w1.heap.size := by omega
  have hlt1 : w.heap.size < w1.heap.size := by omega
  clear hE
  go_wp2_with fail
  (try simp only [Exit.inBlock, Exit.then])
  refine bodyPost_ret (results_struct (ty := 35) rfl rfl rfl (c := #[.int .u64 0, .int .u64 0, .int .i64 0, .int .i64 0, .int .i64 0, .int .i64 0, .int .i64 0]) ?_ (by kernel_rfl) (by kernel_rfl)) rfl ?_
  · first
    | exact Blk.set7a HR1.out rfl _ _ _ _ _ _ _ _
    | exact Blk.set7 HR1.out rfl _ _ _ _ _ _ _
  refine ⟨rfl, ?_⟩
  first | exact Ext.set7a HE.out (by omega) _ _ _ _ _ _ _ _ | exact Ext.set7 HE.out (by omega) _ _ _ _ _ _ _

theorem rFind (uL uW : Value) (B : Nat) (L : List (Int × En)) (Wy : List (Int × Int × Int)) (h c : Int) (w : World) (hL : RowL w B uL L) (hW : RowW w B uW Wy) (hl : L.length ≤ 1000000) :
    Calls Tryz.prog 43 #[.agg #[uL, uW], .agg #[.int .u64 h, .int .u64 c]] w fun e w' => e = .returned (foundV h (findR L h c)) ∧ Ext w w' := by
  unfold findR
  cases hg : assoc L h with
  | none => exact rFind_none uL uW B L Wy h c w hL hW hl hg
  | some v =>
    dsimp only
    by_cases hc : v.1 = c
    · rw [if_pos hc]; exact rFind_some uL uW B L Wy h c v w hL hW hl hg hc
    · rw [if_neg hc]; exact rFind_other uL uW B L Wy h c v w hL hW hl hg hc
end Go.Proofs.YtdfbfcglacalmaaGreat.ShR
end

section
namespace Go.Proofs.YtdfbfcglacalmaaGreat.ShR
open Go.RowKit Go.Seg Go.Open Go.Lib Rk Go.Row

/-- All but one hash's. -/
def restR {β : Type} (L : List (Int × β)) (h : Int) : List (Int × β) := L.filter fun x => decide (x.1 ≠ h)
theorem restR_snoc {β : Type} (L : List (Int × β)) (x : Int × β) (h : Int) : restR (L ++ [x]) h = if x.1 = h then restR L h else restR L h ++ [x] := by
  unfold restR
  rw [List.filter_append]
  by_cases e : x.1 = h <;> simp [e]
theorem restR_len {β : Type} (L : List (Int × β)) (h : Int) : (restR L h).length ≤ L.length := List.length_filter_le _ _
theorem take_snoc {β : Type} {l : List β} {n : Nat} (h : n < l.length) : l.take (n + 1) = l.take n ++ [l[n]] := List.take_succ_eq_append_getElem h
/-- A row's block lies behind its base. -/
theorem RowG.apart {P : Program} {α : Type} {R : Row.Ty P} {f : α → List Value} {w : World} {B : Nat} {u : Value} {l : List α} (h : RowG R f w B u l) {k : Nat} (hk : k < B) : u.ownBlock ≠ some k := fun e => by have := (Row.Own.lt h k e).1; omega

set_option maxRecDepth 100000 in
set_option maxHeartbeats 4000000 in
theorem rRemove (uL uW : Value) (B : Nat) (L : List (Int × En)) (Wy : List (Int × Int × Int)) (h : Int) (w : World) (hL : RowL w B uL L) (hW : RowW w B uW Wy) (hl : L.length ≤ 999999) :
    Calls Tryz.prog 44 #[.agg #[uL, uW], .int .u64 h] w fun e w' => ∃ uL', e = .returned (.agg #[uL', uW]) ∧ RowL w' w.heap.size uL' (restR L h) ∧ Ext w w' := by
  obtain ⟨a, cap, b, F, rfl, _, ha, hF, hc⟩ := hL.openG encS_len
  obtain ⟨a2, cap2, rfl⟩ := hW.val
  have HA := Lib.hid ha
  have HC := Lib.hid hc
  have HF := Lib.hid hF
  clear ha hc hF hL hW
  go_enter Tryz.func44, Tryz.ntmps44
  go_wp2_with fail
  obtain ⟨W0, hW0⟩ : ∃ W, ((w.alloc (.cells #[.slice a L.length cap, .slice a2 Wy.length cap2] 29)).alloc (.cells #[.slice none 0 0, .slice none 0 0] 29)).alloc (.cells #[.slice none 0 0, .slice a2 Wy.length cap2] 29) = W := ⟨_, rfl⟩
  have hE0 : Ext w W0 := by rw [← hW0]; exact (((Below.refl _ _).alloc (Nat.le_refl _) _).alloc (by simp) _).alloc (by simp; omega) _
  have hP : Blk W0 w.heap.size #[.slice a L.length cap, .slice a2 Wy.length cap2] 29 := by rw [← hW0]; exact ((Blk.new _ _ _).ext ((Below.refl _ _).alloc (Nat.le_refl _) _)).ext ((Below.refl _ _).alloc (Nat.le_refl _) _)
  have hR : Blk W0 (w.heap.size + 1) #[.slice none 0 0, .slice none 0 0] 29 := by rw [← hW0]; exact Blk.ext (blk_at (by simp)) ((Below.refl _ _).alloc (Nat.le_refl _) _)
  have hO : Blk W0 (w.heap.size + 1 + 1) #[.slice none 0 0, .slice a2 Wy.length cap2] 29 := by rw [← hW0]; exact blk_at (by simp)
  rw [hW0]
  have HS := Lib.hid (And.intro hE0 (And.intro hP (And.intro hR hO)))
  clear hW0 hE0 hP hR hO
  go_loopg [6] L.length (fun g i wr => ∃ (n : Nat) (v : Value) (L' : List (Int × En)), i = .int .i64 n ∧ n ≤ L.length ∧ Hid (restR (L.take n) h = L') ∧ (RowL wr (w.heap.size + 3) v L' ∧ Ext w wr ∧ Blk wr w.heap.size #[.slice a L.length cap, .slice a2 Wy.length cap2] 29 ∧ Blk wr (w.heap.size + 1) #[.slice none 0 0, .slice none 0 0] 29 ∧ Blk wr (w.heap.size + 1 + 1) #[v, .slice a2 Wy.length cap2] 29) ∧ L.length - n ≤ g)
  case atStart => exact ⟨0, .slice none 0 0, [], rfl, Nat.zero_le _, Lib.hid rfl, ⟨RowG.nil _ _, HS.out.1, HS.out.2.1, HS.out.2.2.1, HS.out.2.2.2⟩, Nat.le_refl _⟩
  case round =>
    obtain ⟨n, v, L', rfl, hn, HL', hS, hg⟩ := hrel
    have hLn : L'.length ≤ n := by
      rw [← HL'.out]
      have := restR_len (L.take n) h
      rw [List.length_take] at this
      omega
    obtain ⟨av, cv, rfl⟩ := hS.1.val
    have HRow := Lib.hid hS.1
    have HE := Lib.hid hS.2.1
    have HB0 := Lib.hid hS.2.2.1
    have HB1 := Lib.hid hS.2.2.2.1
    have HB2 := Lib.hid hS.2.2.2.2
    have p0 := hS.2.2.1.cell (i := 0) rfl
    clear hS
    by_cases hik : n < L.length
    · obtain rfl := HA.out (by omega)
      have x0 : wr.cell? ⟨b, n * 7, none⟩ = some (.int .u64 (F n).1) := HC.out _ HE.out n hik 0 (by decide)
      by_cases hk : (F n).1 = h
      · have d : ((F n).1 != h) = false := by simp [hk]
        have E : Hid (restR (L.take (n + 1)) h = L') := Lib.hid (by rw [take_snoc hik, restR_snoc, ← HF.out n hik, if_pos hk]; exact HL'.out)
        clear hk
        go_wp2_with fail
        go_roundg (L.length - (n + 1))
        case measure => omega
        case rel => exact ⟨n + 1, _, L', by go_num, by omega, E, ⟨HRow.out, HE.out, HB0.out, HB1.out, HB2.out⟩, Nat.le_refl _⟩
      · have d : ((F n).1 != h) = true := by simp [hk]
        have E : Hid (restR (L.take (n + 1)) h = L' ++ [F n]) := Lib.hid (by rw [take_snoc hik, restR_snoc, ← HF.out n hik, if_neg hk, HL'.out])
        have HRd := Lib.hid (HRow.out.ext (Ext.drew wr))
        have HEd := Lib.hid (HE.out.trans (Ext.drew wr))
        have hlt2 := HB2.out.lt
        have HB2d := Lib.hid (HB2.out.ext (Ext.drew wr))
        have HB1d := Lib.hid (HB1.out.ext (Ext.drew wr))
        have HB0d := Lib.hid (HB0.out.ext (Ext.drew wr))
        have hlt3 := HB2d.out.lt
        clear hk
        go_wp2_with fail
        clear x0 p0
        refine wp_region_segsK [([1, 1, 1, 1, 1, 6], 0, 0), ([4, 4], 3, 8), ([1, 2], 1, 0), ([1, 1], 0, 0), ([1], 1, 0)] (by kernel_rfl) (by kernel_rfl) ?_
        apply segsK_pure
        · intro W
          simp only [runsT, runsF, rep, pick]
          go_wp2_with fail
          exact ⟨rfl, rfl⟩
        simp only [runsT, runsF, rep, left]
        apply segsK_class
        · intro W hW
          have q2 := (HB2d.out.ext hW).cell (i := 0) rfl
          have q0 := (HB0d.out.ext hW).cell (i := 0) rfl
          have hcn := HC.out _ (HEd.out.trans hW) n hik
          have x0 := hcn 0 (by decide)
          have x1 := hcn 1 (by decide)
          have x2 := hcn 2 (by decide)
          have x3 := hcn 3 (by decide)
          have x4 := hcn 4 (by decide)
          have x5 := hcn 5 (by decide)
          have x6 := hcn 6 (by decide)
          simp [encS, RSE] at x0 x1 x2 x3 x4 x5 x6
          clear hcn
          simp only [runsT, runsF, rep, pick]
          go_wp2_with fail
          exact ⟨rfl, rfl⟩
        simp only [runsT, runsF, rep, left]
        go_wp2_with fail
        refine ⟨fun _ => (Below.refl _ _).alloc (Nat.le_refl _) _, ?_⟩
        apply segsK_op
        refine appG (R := RSE) (f := encS) (W := wr.drew) rfl _ _ rfl _ L' rfl HRd.out (F n) _ rfl rfl (encS_one _) wr.heap.size rfl rfl (by omega) HEd.out (Nat.le_add_right _ _) (show w.heap.size + 3 ≤ wr.drew.heap.size by omega) ?_
        intro a1 c1 w2 hO1 hE1 hz1 hb1
        have hB2' : Blk w2 (w.heap.size + 1 + 1) #[.slice av L'.length cv, .slice a2 Wy.length cap2] 29 := (hb1 _ (RowG.apart HRd.out (by omega)) (by omega)).trans HB2d.out
        have hB1' : Blk w2 (w.heap.size + 1) #[.slice none 0 0, .slice none 0 0] 29 := (hb1 _ (RowG.apart HRd.out (by omega)) (by omega)).trans HB1d.out
        have hB0' : Blk w2 w.heap.size #[.slice (some ⟨b, 0, none⟩) L.length cap, .slice a2 Wy.length cap2] 29 := (hb1 _ (RowG.apart HRd.out (by omega)) (by omega)).trans HB0d.out
        have z0 := hB2'.cell (i := 0) rfl
        have z1 := hB2'.frozen 0
        have HF2 := Lib.hid (And.intro hO1 (And.intro hE1 (And.intro hB0' (And.intro hB1' hB2'))))
        clear hO1 hE1 hz1 hb1 hB0' hB1' hB2'
        go_wp2_with fail
        refine ⟨fun h => (by cases h), ?_⟩
        apply segsK_pure
        · intro W
          simp only [runsT, runsF, rep, pick]
          go_wp2_with fail
          exact ⟨rfl, rfl⟩
        simp only [runsT, runsF, rep, left]
        apply segsK_op
        go_wp2_with fail
        refine ⟨fun h => (by cases h), ?_⟩
        apply segsK_nil
        clear z0 z1
        go_wp2_with fail
        go_roundg (L.length - (n + 1))
        case measure => omega
        case rel =>
          obtain ⟨k1, k2, k3, k4, k5⟩ := HF2.out
          have c1' := Chg.set w2 (w.heap.size + 1 + 1) 0 (.slice a1 (L'.length + 1) c1)
          have hoff : ∀ {E : TypeId}, (29 : TypeId) ≠ E → Off (· = w.heap.size + 1 + 1) w2 E := fun hE => .one k5 hE
          refine ⟨n + 1, _, L' ++ [F n], by go_num, by omega, E, ⟨RowG.chg k1 c1' (hoff (by decide)), ?_, ?_, ?_, k5.set 0 _ rfl⟩, Nat.le_refl _⟩
          · exact Below.setCell (p := ⟨w.heap.size + 1 + 1, 0, none⟩) k2 (show w.heap.size ≤ w.heap.size + 1 + 1 by omega) _
          · exact (Below.heap_setCell _ _ _ _ (by simp; omega)).trans k3
          · exact (Below.heap_setCell _ _ _ _ (by simp)).trans k4
    · obtain rfl : n = L.length := by omega
      have hdn : decide ((L.length : Int) < (L.length : Int)) = false := decide_eq_false (by omega)
      have E : Hid (restR L h = L') := Lib.hid (by have := HL'.out; rwa [List.take_length] at this)
      have q0 := HB2.out.cell (i := 0) rfl
      have q1 := HB2.out.cell (i := 1) rfl
      have z0 := HB1.out.cell (i := 0) rfl
      have zf0 := HB1.out.frozen 0
      have z1 := HB1.out.cell (i := 1) rfl
      have zf1 := HB1.out.frozen 1
      clear hik
      go_wp2_with fail
      (try simp only [Exit.inBlock, Exit.then])
      refine bodyPost_ret (results_one (ty := 29) rfl rfl (c := #[.slice av L'.length cv, .slice a2 Wy.length cap2]) (Blk.set2 HB1.out rfl _ _) (by kernel_rfl) (by kernel_rfl)) rfl ?_
      rw [E.out]
      refine ⟨_, rfl, ?_, Ext.set2 HE.out (by simp) _ _⟩
      have c1 := Chg.set wr (w.heap.size + 1) 0 (.slice av L'.length cv)
      have b1 := HB1.out.set 0 (.slice av L'.length cv) rfl
      exact ((HRow.out.chg c1 (.one HB1.out (by decide))).chg (Chg.set _ (w.heap.size + 1) 1 _) (.one b1 (by decide))).base (by omega)
end Go.Proofs.YtdfbfcglacalmaaGreat.ShR
end

section
namespace Ex
open Rk

/-- The bucket of an end (of 1 or later). -/
def bkt (e : Int) : Int := e / 4
/-- A pair stands ahead: by its bucket, then by its hash. -/
def Lt2 (a b : Int × Int) : Prop := bkt a.2 < bkt b.2 ∨ (bkt a.2 = bkt b.2 ∧ a.1 < b.1)
instance (a b : Int × Int) : Decidable (Lt2 a b) := inferInstanceAs (Decidable (_ ∨ _))
def Srt (l : List (Int × Int)) : Prop := l.Pairwise Lt2

theorem lt2_asymm {a b : Int × Int} (h : Lt2 a b) : ¬ Lt2 b a := by unfold Lt2 at *; omega
theorem lt2_irrefl (a : Int × Int) : ¬ Lt2 a a := by unfold Lt2; omega
theorem lt2_trans {a b c : Int × Int} (h : Lt2 a b) (k : Lt2 b c) : Lt2 a c := by unfold Lt2 at *; omega

theorem srt_uniq : ∀ {a b : List (Int × Int)}, Srt a → Srt b → (∀ x, x ∈ a ↔ x ∈ b) → a = b
  | [], [], _, _, _ => rfl
  | [], y :: b, _, _, h => by have := (h y).2 (by simp); simp at this
  | x :: a, [], _, _, h => by have := (h x).1 (by simp); simp at this
  | x :: a, y :: b, ha, hb, h => by
    obtain ⟨hx, ha'⟩ := List.pairwise_cons.1 ha
    obtain ⟨hy, hb'⟩ := List.pairwise_cons.1 hb
    have e : x = y := by
      rcases List.mem_cons.1 ((h x).1 (by simp)) with e | h1
      · exact e
      · rcases List.mem_cons.1 ((h y).2 (by simp)) with e | h2
        · exact e.symm
        · exact absurd (hy x h1) (lt2_asymm (hx y h2))
    subst e
    congr 1
    refine srt_uniq ha' hb' (fun z => ?_)
    constructor
    · intro hz
      rcases List.mem_cons.1 ((h z).1 (List.mem_cons_of_mem _ hz)) with e | h1
      · exact absurd (hx z hz) (by rw [e]; exact lt2_irrefl _)
      · exact h1
    · intro hz
      rcases List.mem_cons.1 ((h z).2 (List.mem_cons_of_mem _ hz)) with e | h1
      · exact absurd (hy z hz) (by rw [e]; exact lt2_irrefl _)
      · exact h1

/-- The document's rows. -/
def rest (y : List (Int × Int)) (h : Int) : List (Int × Int) := y.filter fun x => decide (x.1 ≠ h)
def insX (x : Int × Int) : List (Int × Int) → List (Int × Int)
  | [] => [x]
  | y :: l => if Lt2 x y then x :: y :: l else y :: insX x l
def refPut (y : List (Int × Int)) (h e : Int) : List (Int × Int) := if e < 1 ∨ e > 1099511627776 then rest y h else insX (h, e) (rest y h)
def endOf (y : List (Int × Int)) (h : Int) : Int := match y.find? (fun x => decide (x.1 = h)) with | some x => x.2 | none => 0

theorem mem_rest {y : List (Int × Int)} {h : Int} {x : Int × Int} : x ∈ rest y h ↔ x ∈ y ∧ x.1 ≠ h := by simp [rest]
theorem mem_insX {x z : Int × Int} : ∀ {l : List (Int × Int)}, z ∈ insX x l ↔ z = x ∨ z ∈ l
  | [] => by simp [insX]
  | y :: l => by
    simp only [insX]
    split
    · simp
    · rw [List.mem_cons, mem_insX (l := l), List.mem_cons]
      constructor
      · rintro (h | h | h)
        · exact .inr (.inl h)
        · exact .inl h
        · exact .inr (.inr h)
      · rintro (h | h | h)
        · exact .inr (.inl h)
        · exact .inl h
        · exact .inr (.inr h)
theorem srt_insX {x : Int × Int} : ∀ {l : List (Int × Int)}, Srt l → (∀ y ∈ l, y.1 ≠ x.1) → Srt (insX x l)
  | [], _, _ => by simp [insX, Srt]
  | y :: l, h, hn => by
    obtain ⟨hy, hl⟩ := List.pairwise_cons.1 h
    simp only [insX]
    split
    · rename_i hlt
      refine List.pairwise_cons.2 ⟨fun z hz => ?_, h⟩
      rcases List.mem_cons.1 hz with rfl | hz
      · exact hlt
      · exact lt2_trans hlt (hy z hz)
    · rename_i hlt
      refine List.pairwise_cons.2 ⟨fun z hz => ?_, srt_insX hl (fun z hz => hn z (List.mem_cons_of_mem _ hz))⟩
      rcases mem_insX.1 hz with rfl | hz
      · have := hn y (by simp)
        unfold Lt2 at *
        omega
      · exact hy z hz
theorem srt_rest {y : List (Int × Int)} (h : Srt y) (k : Int) : Srt (rest y k) := h.filter _

/-- An index: all ends, the buckets (as they lie), and what each holds. -/
structure Inv {β : Type} (te : T Int Int) (tp : T Int β) (tt : Int → T Int Int) : Prop where
  ue : Up cint te.toL
  up : Up cint tp.toL
  ut : ∀ x ∈ tp.toL, Up cint (tt x.1).toL
  ends : ∀ x ∈ te.toL, 1 ≤ x.2 ∧ x.2 ≤ 1099511627776
  mem : ∀ (n : Int) (y : Int × Int), (∃ p, (n, p) ∈ tp.toL ∧ y ∈ (tt n).toL) ↔ (y ∈ te.toL ∧ bkt y.2 = n)
  ne : ∀ x ∈ tp.toL, (tt x.1).toL ≠ []

theorem cint_neg (a b : Int) : cint a b < 0 ↔ a < b := by unfold cint; repeat' split <;> omega
/-- The rows, in the order in which they are told. -/
def ordL {β : Type} (tp : List (Int × β)) (tt : Int → T Int Int) : List (Int × Int) := tp.flatMap fun x => (tt x.1).toL

section
variable {β : Type} {te : T Int Int} {tp : T Int β} {tt : Int → T Int Int}
theorem mem_ordL (h : Inv te tp tt) (y : Int × Int) : y ∈ ordL tp.toL tt ↔ y ∈ te.toL := by
  unfold ordL
  rw [List.mem_flatMap]
  constructor
  · rintro ⟨x, hx, hy⟩
    exact ((h.mem x.1 y).1 ⟨x.2, hx, hy⟩).1
  · intro hy
    obtain ⟨p, hp, hy'⟩ := (h.mem (bkt y.2) y).2 ⟨hy, rfl⟩
    exact ⟨_, hp, hy'⟩
theorem srt_ordL (h : Inv te tp tt) : Srt (ordL tp.toL tt) := by
  unfold Srt ordL
  rw [List.pairwise_flatMap]
  refine ⟨fun x hx => ?_, ?_⟩
  · refine List.Pairwise.imp_of_mem ?_ (h.ut x hx)
    intro a b ha hb hab
    have h1 := ((h.mem x.1 a).1 ⟨x.2, hx, ha⟩).2
    have h2 := ((h.mem x.1 b).1 ⟨x.2, hx, hb⟩).2
    rw [cint_neg] at hab
    exact .inr ⟨by omega, hab⟩
  · refine List.Pairwise.imp_of_mem ?_ h.up
    intro x y hx hy hxy a ha b hb
    have h1 := ((h.mem x.1 a).1 ⟨x.2, hx, ha⟩).2
    have h2 := ((h.mem y.1 b).1 ⟨y.2, hy, hb⟩).2
    rw [cint_neg] at hxy
    exact .inl (by omega)
/-- Whatever sorted rows hold the same pairs are these. -/
theorem ordL_eq (h : Inv te tp tt) {y : List (Int × Int)} (hs : Srt y) (hm : ∀ x, x ∈ y ↔ x ∈ te.toL) : ordL tp.toL tt = y :=
  srt_uniq (srt_ordL h) hs (fun x => (mem_ordL h x).trans (hm x).symm)

theorem up_nodup {α : Type} {l : List (Int × α)} (h : Up cint l) : l.Nodup := by
  unfold List.Nodup
  refine List.Pairwise.imp ?_ h
  intro a b hab e
  rw [e, cint_neg] at hab
  omega
theorem srt_nodup {l : List (Int × Int)} (h : Srt l) : l.Nodup := by
  unfold List.Nodup
  refine List.Pairwise.imp ?_ h
  intro a b hab e
  rw [e] at hab
  exact lt2_irrefl _ hab
theorem up_key {α : Type} {l : List (Int × α)} (h : Up cint l) {a b : Int × α} (ha : a ∈ l) (hb : b ∈ l) (e : a.1 = b.1) : a = b := by
  obtain ⟨i, hi, rfl⟩ := List.mem_iff_getElem.1 ha
  obtain ⟨j, hj, rfl⟩ := List.mem_iff_getElem.1 hb
  rcases Nat.lt_trichotomy i j with h1 | h1 | h1
  · have := List.pairwise_iff_getElem.1 h i j hi hj h1
    rw [cint_neg] at this
    omega
  · subst h1; rfl
  · have := List.pairwise_iff_getElem.1 h j i hj hi h1
    rw [cint_neg] at this
    omega
theorem look_iff {α : Type} {l : List (Int × α)} (h : Up cint l) (k : Int) (v : α) : look cint k l = some v ↔ (k, v) ∈ l := by
  induction l with
  | nil => simp [look]
  | cons x l ih =>
    obtain ⟨hx, hl⟩ := List.pairwise_cons.1 h
    simp only [look]
    by_cases e : cint k x.1 = 0
    · have e' := (cint_lawful.eq _ _).1 e
      rw [if_pos e]
      constructor
      · intro hv
        have : x.2 = v := by simpa using hv
        rw [List.mem_cons]
        exact .inl (by rw [e', ← this])
      · intro hm
        have := up_key (a := (k, v)) (b := x) h hm List.mem_cons_self e'
        rw [← this]
    · rw [if_neg e, ih hl, List.mem_cons]
      have hne : k ≠ x.1 := fun h => e ((cint_lawful.eq _ _).2 h)
      constructor
      · exact .inr
      · rintro (h1 | h1)
        · exact absurd (by rw [← h1]) hne
        · exact h1
theorem get_iff {α : Type} {t : T Int α} (h : Up cint t.toL) (k : Int) (v : α) : T.get cint k t = some v ↔ (k, v) ∈ t.toL := by rw [get_toL cint_lawful k t h, look_iff h]
theorem mem_ins' {α : Type} (k : Int) (v : α) (y : Int × α) : ∀ {l : List (Int × α)}, Up cint l → (y ∈ ins cint k v l ↔ y = (k, v) ∨ (y ∈ l ∧ y.1 ≠ k))
  | [], _ => by simp [ins]
  | x :: l, h => by
    obtain ⟨hx, hl⟩ := List.pairwise_cons.1 h
    simp only [ins]
    by_cases h1 : cint k x.1 < 0
    · rw [if_pos h1]
      rw [cint_neg] at h1
      have hne : ∀ z ∈ x :: l, z.1 ≠ k := by
        intro z hz
        rcases List.mem_cons.1 hz with rfl | hz
        · omega
        · have := hx z hz; rw [cint_neg] at this; omega
      rw [List.mem_cons]
      exact ⟨fun h => h.imp id (fun h => ⟨h, hne _ h⟩), fun h => h.imp id (fun h => h.1)⟩
    · rw [if_neg h1]
      by_cases h2 : cint k x.1 > 0
      · rw [if_pos h2, List.mem_cons, mem_ins' k v y hl, List.mem_cons]
        have hxk : x.1 ≠ k := fun e => by rw [e, (cint_lawful.eq _ _).2 rfl] at h2; omega
        constructor
        · rintro (h | h | ⟨h, hk⟩)
          · exact .inr ⟨.inl h, by rw [h]; exact hxk⟩
          · exact .inl h
          · exact .inr ⟨.inr h, hk⟩
        · rintro (h | ⟨h | h, hk⟩)
          · exact .inr (.inl h)
          · exact .inl h
          · exact .inr (.inr ⟨h, hk⟩)
      · rw [if_neg h2]
        have e := (cint_lawful.eq _ _).1 (by omega : cint k x.1 = 0)
        rw [List.mem_cons, List.mem_cons]
        constructor
        · rintro (h | h)
          · exact .inl h
          · have := hx y h
            rw [cint_neg] at this
            exact .inr ⟨.inr h, by omega⟩
        · rintro (h | ⟨h | h, hk⟩)
          · exact .inl h
          · exact absurd (by rw [h, e]) hk
          · exact .inr h
theorem mem_del' {α : Type} (k : Int) (y : Int × α) : ∀ {l : List (Int × α)}, Up cint l → (y ∈ del cint k l ↔ y ∈ l ∧ y.1 ≠ k)
  | [], _ => by simp [del]
  | x :: l, h => by
    obtain ⟨hx, hl⟩ := List.pairwise_cons.1 h
    simp only [del]
    by_cases e : cint k x.1 = 0
    · have e' := (cint_lawful.eq _ _).1 e
      rw [if_pos e, List.mem_cons]
      constructor
      · intro hy
        have := hx y hy
        rw [cint_neg] at this
        exact ⟨.inr hy, by omega⟩
      · rintro ⟨h1 | h1, hk⟩
        · exact absurd (by rw [h1, e']) hk
        · exact h1
    · rw [if_neg e, List.mem_cons, mem_del' k y hl, List.mem_cons]
      have hxk : x.1 ≠ k := fun h => e ((cint_lawful.eq _ _).2 h.symm)
      constructor
      · rintro (h1 | ⟨h1, hk⟩)
        · exact ⟨.inl h1, by rw [h1]; exact hxk⟩
        · exact ⟨.inr h1, hk⟩
      · rintro ⟨h1 | h1, hk⟩
        · exact .inl h1
        · exact .inr ⟨h1, hk⟩
theorem mem_put {α : Type} {t : T Int α} (h : Up cint t.toL) (k : Int) (v : α) (y : Int × α) : y ∈ (T.put cint k v t).toL ↔ y = (k, v) ∨ (y ∈ t.toL ∧ y.1 ≠ k) := by rw [toL_put cint_lawful k v t h, mem_ins' k v y h]
theorem mem_drop {α : Type} {t : T Int α} (h : Up cint t.toL) (k : Int) (y : Int × α) : y ∈ (T.drop cint k t).toL ↔ y ∈ t.toL ∧ y.1 ≠ k := by rw [toL_drop cint_lawful k t h, mem_del' k y h]

/-- One bucket turned. -/
def upd (tt : Int → T Int Int) (n : Int) (t : T Int Int) : Int → T Int Int := fun m => if m = n then t else tt m
theorem upd_self (tt : Int → T Int Int) (n : Int) (t : T Int Int) : upd tt n t n = t := if_pos rfl
theorem upd_other (tt : Int → T Int Int) {n m : Int} (t : T Int Int) (h : m ≠ n) : upd tt n t m = tt m := if_neg h

theorem Inv.nil : Inv (T.nil : T Int Int) (T.nil : T Int β) tt := ⟨List.Pairwise.nil, List.Pairwise.nil, fun x h => by simp [T.toL] at h, fun x h => by simp [T.toL] at h, fun n y => by simp [T.toL], fun x h => by simp [T.toL] at h⟩

/-- A hash that is there lies in its bucket. -/
theorem Inv.there (h : Inv te tp tt) {k e : Int} (hg : T.get cint k te = some e) : 1 ≤ e ∧ e ≤ 1099511627776 ∧ ∃ p, T.get cint (bkt e) tp = some p ∧ (k, e) ∈ (tt (bkt e)).toL := by
  have hm := (get_iff h.ue k e).1 hg
  obtain ⟨p, hp, hy⟩ := (h.mem (bkt e) (k, e)).2 ⟨hm, rfl⟩
  have := h.ends _ hm
  exact ⟨this.1, this.2, p, (get_iff h.up _ _).2 hp, hy⟩
/-- Gone, and its bucket with it. -/
theorem Inv.dropLast (h : Inv te tp tt) {k e : Int} (hg : T.get cint k te = some e) (hz : (T.drop cint k (tt (bkt e))).toL = []) : Inv (T.drop cint k te) (T.drop cint (bkt e) tp) tt := by
  obtain ⟨_, _, p, hp, hy⟩ := h.there hg
  have hm := (get_iff h.ue k e).1 hg
  have hpm := (get_iff h.up _ _).1 hp
  refine ⟨up_drop cint_lawful _ h.ue, up_drop cint_lawful _ h.up, fun x hx => h.ut x ((mem_drop h.up _ _).1 hx).1, fun x hx => h.ends x ((mem_drop h.ue _ _).1 hx).1, fun n y => ?_, fun x hx => h.ne x ((mem_drop h.up _ _).1 hx).1⟩
  constructor
  · rintro ⟨q, hq, hy'⟩
    obtain ⟨hq1, hq2⟩ := (mem_drop h.up _ _).1 hq
    obtain ⟨h1, h2⟩ := (h.mem n y).1 ⟨q, hq1, hy'⟩
    refine ⟨(mem_drop h.ue _ _).2 ⟨h1, fun e1 => hq2 ?_⟩, h2⟩
    have := up_key h.ue h1 hm e1
    rw [← h2, this]
  · rintro ⟨h1, h2⟩
    obtain ⟨h3, h4⟩ := (mem_drop h.ue _ _).1 h1
    obtain ⟨q, hq, hy'⟩ := (h.mem n y).2 ⟨h3, h2⟩
    refine ⟨q, (mem_drop h.up _ _).2 ⟨hq, fun e1 => ?_⟩, hy'⟩
    dsimp only at e1
    subst e1
    have : y ∈ (T.drop cint k (tt (bkt e))).toL := (mem_drop (h.ut _ hpm) _ _).2 ⟨hy', h4⟩
    rw [hz] at this
    simp at this
/-- Gone, with others left in its bucket. -/
theorem Inv.dropOne (h : Inv te tp tt) {k e : Int} (hg : T.get cint k te = some e) (hz : (T.drop cint k (tt (bkt e))).toL ≠ []) (q : β) : Inv (T.drop cint k te) (T.put cint (bkt e) q tp) (upd tt (bkt e) (T.drop cint k (tt (bkt e)))) := by
  obtain ⟨_, _, p, hp, hy⟩ := h.there hg
  have hm := (get_iff h.ue k e).1 hg
  have hpm := (get_iff h.up _ _).1 hp
  refine ⟨up_drop cint_lawful _ h.ue, up_put cint_lawful _ _ h.up, fun x hx => ?_, fun x hx => h.ends x ((mem_drop h.ue _ _).1 hx).1, fun n y => ?_, fun x hx => ?_⟩
  · rcases (mem_put h.up _ _ _).1 hx with rfl | ⟨hx, hne⟩
    · rw [upd_self]; exact up_drop cint_lawful _ (h.ut _ hpm)
    · rw [upd_other _ _ hne]; exact h.ut x hx
  · by_cases hn : n = bkt e
    · subst hn
      rw [upd_self]
      constructor
      · rintro ⟨_, _, hy'⟩
        obtain ⟨h1, h2⟩ := (mem_drop (h.ut _ hpm) _ _).1 hy'
        obtain ⟨h3, h4⟩ := (h.mem _ y).1 ⟨p, hpm, h1⟩
        exact ⟨(mem_drop h.ue _ _).2 ⟨h3, h2⟩, h4⟩
      · rintro ⟨h1, h2⟩
        obtain ⟨h3, h4⟩ := (mem_drop h.ue _ _).1 h1
        obtain ⟨p', hp', hy'⟩ := (h.mem _ y).2 ⟨h3, h2⟩
        exact ⟨q, (mem_put h.up _ _ _).2 (.inl rfl), (mem_drop (h.ut _ hpm) _ _).2 ⟨hy', h4⟩⟩
    · rw [upd_other _ _ hn]
      constructor
      · rintro ⟨p', hp', hy'⟩
        rcases (mem_put h.up _ _ _).1 hp' with e1 | ⟨e1, _⟩
        · exact absurd (congrArg Prod.fst e1) hn
        · obtain ⟨h3, h4⟩ := (h.mem n y).1 ⟨p', e1, hy'⟩
          refine ⟨(mem_drop h.ue _ _).2 ⟨h3, fun e2 => hn ?_⟩, h4⟩
          have := up_key h.ue h3 hm e2
          rw [← h4, this]
      · rintro ⟨h1, h2⟩
        obtain ⟨h3, h4⟩ := (mem_drop h.ue _ _).1 h1
        obtain ⟨p', hp', hy'⟩ := (h.mem n y).2 ⟨h3, h2⟩
        exact ⟨p', (mem_put h.up _ _ _).2 (.inr ⟨hp', hn⟩), hy'⟩
  · rcases (mem_put h.up _ _ _).1 hx with rfl | ⟨hx, hne⟩
    · rw [upd_self]; exact hz
    · rw [upd_other _ _ hne]; exact h.ne x hx
/-- A new hash; t0: what its bucket held. -/
theorem Inv.put (h : Inv te tp tt) {k e : Int} (hg : T.get cint k te = none) (h1 : 1 ≤ e) (h2 : e ≤ 1099511627776) (t0 : T Int Int) (ht : (∃ p, T.get cint (bkt e) tp = some p ∧ t0 = tt (bkt e)) ∨ (T.get cint (bkt e) tp = none ∧ t0 = .nil)) (q : β) :
    Inv (T.put cint k e te) (T.put cint (bkt e) q tp) (upd tt (bkt e) (T.put cint k e t0)) := by
  have hno : ∀ v, (k, v) ∉ te.toL := fun v hv => by have := (get_iff h.ue k v).2 hv; rw [hg] at this; cases this
  have hu0 : Up cint t0.toL := by
    rcases ht with ⟨p, hp, rfl⟩ | ⟨_, rfl⟩
    · exact h.ut _ ((get_iff h.up _ _).1 hp)
    · exact List.Pairwise.nil
  have hm0 : ∀ y, y ∈ t0.toL ↔ (y ∈ te.toL ∧ bkt y.2 = bkt e) := by
    intro y
    rcases ht with ⟨p, hp, rfl⟩ | ⟨hp, rfl⟩
    · constructor
      · exact fun hy => (h.mem _ y).1 ⟨p, (get_iff h.up _ _).1 hp, hy⟩
      · exact fun hy => ((h.mem _ y).2 hy).elim fun _ h => h.2
    · constructor
      · intro hy; simp [T.toL] at hy
      · intro hy
        obtain ⟨p, hp', _⟩ := (h.mem _ y).2 hy
        have := (get_iff h.up _ _).2 hp'
        rw [hp] at this
        cases this
  refine ⟨up_put cint_lawful _ _ h.ue, up_put cint_lawful _ _ h.up, fun x hx => ?_, fun x hx => ?_, fun n y => ?_, fun x hx => ?_⟩
  · rcases (mem_put h.up _ _ _).1 hx with rfl | ⟨hx, hne⟩
    · rw [upd_self]; exact up_put cint_lawful _ _ hu0
    · rw [upd_other _ _ hne]; exact h.ut x hx
  · rcases (mem_put h.ue _ _ _).1 hx with rfl | ⟨hx, _⟩
    · exact ⟨h1, h2⟩
    · exact h.ends x hx
  · by_cases hn : n = bkt e
    · subst hn
      rw [upd_self]
      constructor
      · rintro ⟨_, _, hy⟩
        rcases (mem_put hu0 _ _ _).1 hy with rfl | ⟨hy, hk⟩
        · exact ⟨(mem_put h.ue _ _ _).2 (.inl rfl), rfl⟩
        · obtain ⟨h3, h4⟩ := (hm0 y).1 hy
          exact ⟨(mem_put h.ue _ _ _).2 (.inr ⟨h3, hk⟩), h4⟩
      · rintro ⟨hy, hb⟩
        refine ⟨q, (mem_put h.up _ _ _).2 (.inl rfl), ?_⟩
        rcases (mem_put h.ue _ _ _).1 hy with rfl | ⟨hy, hk⟩
        · exact (mem_put hu0 _ _ _).2 (.inl rfl)
        · exact (mem_put hu0 _ _ _).2 (.inr ⟨(hm0 y).2 ⟨hy, hb⟩, hk⟩)
    · rw [upd_other _ _ hn]
      constructor
      · rintro ⟨p', hp', hy⟩
        rcases (mem_put h.up _ _ _).1 hp' with e1 | ⟨e1, _⟩
        · exact absurd (congrArg Prod.fst e1) hn
        · obtain ⟨h3, h4⟩ := (h.mem n y).1 ⟨p', e1, hy⟩
          exact ⟨(mem_put h.ue _ _ _).2 (.inr ⟨h3, fun e2 => hno y.2 (by rw [← e2]; exact h3)⟩), h4⟩
      · rintro ⟨hy, hb⟩
        rcases (mem_put h.ue _ _ _).1 hy with rfl | ⟨hy, hk⟩
        · exact absurd hb.symm hn
        · obtain ⟨p', hp', hy'⟩ := (h.mem n y).2 ⟨hy, hb⟩
          exact ⟨p', (mem_put h.up _ _ _).2 (.inr ⟨hp', hn⟩), hy'⟩
  · rcases (mem_put h.up _ _ _).1 hx with rfl | ⟨hx, hne⟩
    · rw [upd_self]
      intro hz
      have : (k, e) ∈ (T.put cint k e t0).toL := (mem_put hu0 _ _ _).2 (.inl rfl)
      rw [hz] at this
      simp at this
    · rw [upd_other _ _ hne]; exact h.ne x hx
end
end Ex
end

section
namespace Ex
open Rk
section
variable {β : Type} {te te' : T Int Int} {tp tp' : T Int β} {tt tt' : Int → T Int Int}
theorem ordL_drop (h : Inv te tp tt) (k : Int) (h' : Inv (T.drop cint k te) tp' tt') : ordL tp'.toL tt' = rest (ordL tp.toL tt) k :=
  ordL_eq h' (srt_rest (srt_ordL h) k) (fun x => by rw [mem_rest, mem_ordL h, mem_drop h.ue])
theorem ordL_put (h : Inv te tp tt) (k e : Int) (hg : T.get cint k te = none) (h' : Inv (T.put cint k e te) tp' tt') : ordL tp'.toL tt' = insX (k, e) (ordL tp.toL tt) := by
  have hno : ∀ x ∈ te.toL, x.1 ≠ k := fun x hx e1 => by
    have := (get_iff h.ue k x.2).2 (by rw [← e1]; exact hx)
    rw [hg] at this
    cases this
  refine ordL_eq h' (srt_insX (srt_ordL h) (fun y hy => hno y ((mem_ordL h y).1 hy))) (fun x => ?_)
  rw [mem_insX, mem_ordL h, mem_put h.ue]
  exact ⟨fun q => q.imp id (fun q => ⟨q, hno x q⟩), fun q => q.imp id (fun q => q.1)⟩
theorem rest_none {y : List (Int × Int)} {k : Int} (h : ∀ x ∈ y, x.1 ≠ k) : rest y k = y := by
  unfold rest
  rw [List.filter_eq_self]
  intro x hx
  simpa using h x hx
theorem ordL_len (h : Inv te tp tt) : ((ordL tp.toL tt).length : Int) = te.sz := by
  rw [← T.sz_toL]
  have hp : (ordL tp.toL tt).Perm te.toL := (List.perm_ext_iff_of_nodup (srt_nodup (srt_ordL h)) (up_nodup h.ue)).2 (mem_ordL h)
  rw [hp.length_eq]
theorem part_len : ∀ (l : List (Int × β)) (x : Int × β), x ∈ l → (tt x.1).toL.length ≤ (ordL l tt).length
  | [], x, h => by simp at h
  | y :: l, x, h => by
    have e : (ordL (y :: l) tt).length = (tt y.1).toL.length + (ordL l tt).length := by simp [ordL]
    rcases List.mem_cons.1 h with rfl | h
    · omega
    · have := part_len l x h; omega
theorem many_len : ∀ (l : List (Int × β)), (∀ x ∈ l, (tt x.1).toL ≠ []) → l.length ≤ (ordL l tt).length
  | [], _ => by simp [ordL]
  | y :: l, h => by
    have e : (ordL (y :: l) tt).length = (tt y.1).toL.length + (ordL l tt).length := by simp [ordL]
    have h1 := List.length_pos_iff.2 (h y (by simp))
    have h2 := many_len l (fun x hx => h x (List.mem_cons_of_mem _ hx))
    simp only [List.length_cons]
    omega
theorem Inv.small (h : Inv te tp tt) : tp.sz ≤ te.sz ∧ ∀ x ∈ tp.toL, (tt x.1).sz ≤ te.sz := by
  have e := ordL_len h
  have h1 := many_len (tt := tt) tp.toL h.ne
  refine ⟨by rw [← T.sz_toL]; omega, fun x hx => ?_⟩
  have := part_len (tt := tt) tp.toL x hx
  rw [← T.sz_toL (tt x.1)]
  omega

/-- How many buckets rows have. -/
def nb : Option Int → List (Int × Int) → Int
  | _, [] => 0
  | p, x :: l => (if p = some (bkt x.2) then 0 else 1) + nb (some (bkt x.2)) l
theorem nb_same (n : Int) : ∀ (g r : List (Int × Int)), (∀ x ∈ g, bkt x.2 = n) → nb (some n) (g ++ r) = nb (some n) r
  | [], _, _ => rfl
  | x :: g, r, h => by
    have hx := h x (by simp)
    simp only [List.cons_append, nb, hx, if_true]
    rw [nb_same n g r (fun y hy => h y (List.mem_cons_of_mem _ hy)), Int.zero_add]
theorem nb_groups : ∀ (l : List (Int × β)) (p : Option Int), Up cint l → (∀ x ∈ l, (tt x.1).toL ≠ []) → (∀ x ∈ l, ∀ y ∈ (tt x.1).toL, bkt y.2 = x.1) → (∀ n, p = some n → ∀ x ∈ l, x.1 ≠ n) → nb p (ordL l tt) = l.length
  | [], p, _, _, _, _ => by cases p <;> simp [ordL, nb]
  | x :: l, p, hu, hne, hb, hp => by
    obtain ⟨hx, hl⟩ := List.pairwise_cons.1 hu
    cases hg : (tt x.1).toL with
    | nil => exact absurd hg (hne x (by simp))
    | cons y g =>
      have hby : bkt y.2 = x.1 := hb x (by simp) y (by rw [hg]; simp)
      have e : ordL (x :: l) tt = y :: (g ++ ordL l tt) := by simp [ordL, hg]
      rw [e]
      simp only [nb]
      rw [if_neg (fun h => hp _ h x (by simp) hby.symm), hby, nb_same x.1 g _ (fun z hz => hb x (by simp) z (by rw [hg]; simp [hz])),
        nb_groups l (some x.1) hl (fun z hz => hne z (List.mem_cons_of_mem _ hz)) (fun z hz => hb z (List.mem_cons_of_mem _ hz)) (fun n hn z hz e1 => by
          have := hx z hz
          rw [cint_neg] at this
          cases hn
          omega)]
      simp only [List.length_cons]
      omega
theorem nb_ordL (h : Inv te tp tt) : nb none (ordL tp.toL tt) = tp.sz := by
  rw [nb_groups tp.toL none h.up h.ne (fun x hx y hy => ((h.mem x.1 y).1 ⟨x.2, hx, hy⟩).2) (fun n hn => by cases hn), T.sz_toL]

/-- Is a bucket over? -/
def dueB (now n : Int) : Bool := if n < 274877906944 then decide (4 * n + 3 ≤ now) else decide (1099511627776 ≤ now)
theorem dueB_mono {now n m : Int} (h : n ≤ m) (_hm : m ≤ 274877906944) (hd : dueB now m = true) : dueB now n = true := by
  unfold dueB at *
  split at hd <;> split <;> simp at * <;> omega
def dueL (now : Int) (y : List (Int × Int)) : List (Int × Int) := y.filter fun x => dueB now (bkt x.2)
theorem dueL_group {now n : Int} : ∀ (g : List (Int × Int)), (∀ x ∈ g, bkt x.2 = n) → dueL now g = if dueB now n = true then g else []
  | [], _ => by simp [dueL]
  | x :: g, h => by
    have hx := h x (by simp)
    have ih := dueL_group (now := now) g (fun y hy => h y (List.mem_cons_of_mem _ hy))
    unfold dueL at ih ⊢
    rw [List.filter_cons, hx, ih]
    split
    · rfl
    · rfl
theorem dueL_app (now : Int) (a b : List (Int × Int)) : dueL now (a ++ b) = dueL now a ++ dueL now b := by simp [dueL]
theorem along_due (now : Int) : ∀ (l : List (Int × β)), Up cint l → (∀ x ∈ l, x.1 ≤ 274877906944) → (∀ x ∈ l, ∀ y ∈ (tt x.1).toL, bkt y.2 = x.1) → ordL (l.takeWhile fun x => dueB now x.1) tt = dueL now (ordL l tt)
  | [], _, _, _ => by simp [ordL, dueL]
  | x :: l, hu, hm, hb => by
    obtain ⟨hx, hl⟩ := List.pairwise_cons.1 hu
    have e : ordL (x :: l) tt = (tt x.1).toL ++ ordL l tt := by simp [ordL]
    rw [e, dueL_app, dueL_group _ (hb x (by simp))]
    by_cases hd : dueB now x.1 = true
    · rw [List.takeWhile_cons_of_pos (p := fun x : Int × β => dueB now x.1) hd, if_pos hd, ← along_due now l hl (fun z hz => hm z (List.mem_cons_of_mem _ hz)) (fun z hz => hb z (List.mem_cons_of_mem _ hz))]
      simp [ordL]
    · rw [List.takeWhile_cons_of_neg (p := fun x : Int × β => dueB now x.1) hd, if_neg hd, List.nil_append]
      have : dueL now (ordL l tt) = [] := by
        unfold dueL ordL
        rw [List.filter_eq_nil_iff]
        intro y hy hdy
        obtain ⟨z, hz, hyz⟩ := List.mem_flatMap.1 hy
        have h1 := hx z hz
        rw [cint_neg] at h1
        rw [hb z (List.mem_cons_of_mem _ hz) y hyz] at hdy
        exact hd (dueB_mono (by omega) (hm z (List.mem_cons_of_mem _ hz)) hdy)
      rw [this]
      simp [ordL]
theorem Inv.bks (h : Inv te tp tt) : ∀ x ∈ tp.toL, 0 ≤ x.1 ∧ x.1 ≤ 274877906944 := by
  intro x hx
  cases hg : (tt x.1).toL with
  | nil => exact absurd hg (h.ne x hx)
  | cons y g =>
    obtain ⟨h1, h2⟩ := (h.mem x.1 y).1 ⟨x.2, hx, by rw [hg]; simp⟩
    have := h.ends y h1
    unfold bkt at h2
    omega
theorem Inv.due (h : Inv te tp tt) (now : Int) : ordL (tp.toL.takeWhile fun x => dueB now x.1) tt = dueL now (ordL tp.toL tt) :=
  along_due now tp.toL h.up (fun x hx => (h.bks x hx).2) (fun x hx y hy => ((h.mem x.1 y).1 ⟨x.2, hx, hy⟩).2)

theorem endOf_eq (h : Inv te tp tt) (k : Int) : endOf (ordL tp.toL tt) k = (T.get cint k te).getD 0 := by
  unfold endOf
  cases hf : (ordL tp.toL tt).find? (fun x => decide (x.1 = k)) with
  | some x =>
    have h1 := List.mem_of_find?_eq_some hf
    have h2 := List.find?_some hf
    have h3 : x.1 = k := by simpa using h2
    have := (get_iff h.ue k x.2).2 (by rw [← h3]; exact (mem_ordL h x).1 h1)
    rw [this]
    rfl
  | none =>
    cases hg : T.get cint k te with
    | none => rfl
    | some v =>
      have := (get_iff h.ue k v).1 hg
      have h1 := List.find?_eq_none.1 hf (k, v) ((mem_ordL h _).2 this)
      simp at h1
end
end Ex
end
