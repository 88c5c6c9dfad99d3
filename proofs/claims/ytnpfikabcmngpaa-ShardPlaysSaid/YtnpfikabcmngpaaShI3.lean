/-
  Package shard, at things that are ints: removing, cutting, renewing.
  Fewer than 1,000,000 entries and ways; no other condition.
-/
import Derived.Test.YtnpfikabcmngpaaShI2
namespace Go.Proofs.Ytnpfikabcmngpaa.ShI
open Go.RowKit Go.Seg Go.Open Go.Lib Rk
set_option maxRecDepth 100000 in
set_option maxHeartbeats 2000000 in
theorem Remove_none (b : Nat) (te : T Int Ent) (tw : T Int (Int × Int)) (h : Int) (w : World) (hS : ShardAt w b te tw) (hs : te.sz < 1000000) (hg : T.get cint h te = none) :
    Calls Try.prog 52 #[.pointer (some ⟨b, 0, none⟩), .int .u64 h] w fun e w' => e = .returned (.tuple #[.agg #[.int .u64 0, .int .i64 0, .int .i64 0, .int .i64 0, .int .i64 0, .int .i64 0], .bool false]) ∧ Ext w w' := by
  have HS := Lib.hid hS
  have HG := Lib.hid hg
  clear hS hg
  have hA : Ext w (w.alloc (Obj.cells #[.int .u64 0, .int .i64 0, .int .i64 0, .int .i64 0, .int .i64 0, .int .i64 0] 41)) := (Below.refl _ _).alloc (Nat.le_refl _) _
  have HR := Lib.hid (show Blk (w.alloc (Obj.cells #[.int .u64 0, .int .i64 0, .int .i64 0, .int .i64 0, .int .i64 0, .int .i64 0] 41)) w.heap.size #[.int .u64 0, .int .i64 0, .int .i64 0, .int .i64 0, .int .i64 0, .int .i64 0] 41 from Blk.new _ _ _)
  go_enter Try.func52, Try.ntmps52
  go_wp2_with fail
  refine (Look_none _ _ _ _ _ (HS.out.ext hA) hs HG.out).mono ?_
  rintro e w1 ⟨rfl, hE⟩
  have hst := Go.run_storeCells_new (P := Try.prog) w1 41 #[.int .u64 0, .int .i64 0, .int .i64 0, .int .i64 0, .int .i64 0, .int .i64 0] #[.int .u64 0, .int .i64 0, .int .i64 0, .int .i64 0, .int .i64 0, .int .i64 0] (by kernel_rfl) rfl (by simp [Value.oneCell'])
  have hld := Go.run_loadCellsFrom_new (P := Try.prog) w1 41 #[.int .u64 0, .int .i64 0, .int .i64 0, .int .i64 0, .int .i64 0, .int .i64 0] 6 rfl
  have z0 := (HR.out.ext hE).cell (i := 0) rfl
  have y0 := (HR.out.ext hE).frozen 0
  have z1 := (HR.out.ext hE).cell (i := 1) rfl
  have y1 := (HR.out.ext hE).frozen 1
  have z2 := (HR.out.ext hE).cell (i := 2) rfl
  have y2 := (HR.out.ext hE).frozen 2
  have z3 := (HR.out.ext hE).cell (i := 3) rfl
  have y3 := (HR.out.ext hE).frozen 3
  have z4 := (HR.out.ext hE).cell (i := 4) rfl
  have y4 := (HR.out.ext hE).frozen 4
  have z5 := (HR.out.ext hE).cell (i := 5) rfl
  have y5 := (HR.out.ext hE).frozen 5
  have HR1 := Lib.hid (HR.out.ext hE)
  have HE := Lib.hid (below_ext hA hE)
  have hlt : w.heap.size < w1.heap.size := by have := hE.size; simp at this; omega
  clear hE
  go_wp2_with fail
  (try simp only [Exit.inBlock, Exit.then])
  refine bodyPost_ret (results_struct (ty := 41) rfl rfl rfl (c := #[.int .u64 0, .int .i64 0, .int .i64 0, .int .i64 0, .int .i64 0, .int .i64 0]) ?_ (by kernel_rfl) (by kernel_rfl)) rfl ?_
  · first
    | exact Blk.set6a HR1.out rfl _ _ _ _ _ _ _
    | exact Blk.set6 HR1.out rfl _ _ _ _ _ _
  refine ⟨rfl, ?_⟩
  first | exact Ext.set6a HE.out (by simp) _ _ _ _ _ _ _ | exact Ext.set6 HE.out (by simp) _ _ _ _ _ _

set_option maxRecDepth 100000 in
set_option maxHeartbeats 4000000 in
theorem Remove_some (b : Nat) (te : T Int Ent) (tw : T Int (Int × Int)) (h : Int) (v : Ent) (w : World) (hS : ShardAt w b te tw) (hs : te.sz < 1000000) (hg : T.get cint h te = some v) :
    Calls Try.prog 52 #[.pointer (some ⟨b, 0, none⟩), .int .u64 h] w fun e w' => e = .returned (.tuple #[.agg #[.int .u64 v.1, .int .i64 v.2.1, .int .i64 v.2.2.1, .int .i64 v.2.2.2.1, .int .i64 v.2.2.2.2.1, .int .i64 v.2.2.2.2.2], .bool true]) ∧ ShardAt w' b (T.drop cint h te) tw ∧ Chg (· = b) w w' := by
  have HS := Lib.hid hS
  have HG := Lib.hid hg
  clear hS hg
  have hbz : b < w.heap.size := by obtain ⟨cs, hb⟩ := HS.out.blk; exact hb.lt
  have hA : Ext w (w.alloc (Obj.cells #[.int .u64 0, .int .i64 0, .int .i64 0, .int .i64 0, .int .i64 0, .int .i64 0] 41)) := (Below.refl _ _).alloc (Nat.le_refl _) _
  have HR := Lib.hid (show Blk (w.alloc (Obj.cells #[.int .u64 0, .int .i64 0, .int .i64 0, .int .i64 0, .int .i64 0, .int .i64 0] 41)) w.heap.size #[.int .u64 0, .int .i64 0, .int .i64 0, .int .i64 0, .int .i64 0, .int .i64 0] 41 from Blk.new _ _ _)
  go_enter Try.func52, Try.ntmps52
  go_wp2_with fail
  refine (Look_some _ _ _ _ _ _ (HS.out.ext hA) hs HG.out).mono ?_
  rintro e w1 ⟨rfl, hE⟩
  have hst := Go.run_storeCells_new (P := Try.prog) w1 41 #[.int .u64 0, .int .i64 0, .int .i64 0, .int .i64 0, .int .i64 0, .int .i64 0] #[.int .u64 v.1, .int .i64 v.2.1, .int .i64 v.2.2.1, .int .i64 v.2.2.2.1, .int .i64 v.2.2.2.2.1, .int .i64 v.2.2.2.2.2] (by kernel_rfl) rfl (by simp [Value.oneCell'])
  have hR1 := HR.out.ext hE
  have hE1 := below_ext hA hE
  have HS1 := Lib.hid (HS.out.ext hE1)
  obtain ⟨q1, q2, hB, hT, hT2⟩ := HS1.out
  have c0 := hB.cell (i := 0) rfl
  have hlt : w.heap.size < w1.heap.size := hR1.lt
  have hlt0 : b < w1.heap.size := by omega
  have HT := Lib.hid hT
  have HE1 := Lib.hid hE1
  have HR1 := Lib.hid hR1
  clear hE hA hE1 hR1 hB hT hT2
  go_wp2_with fail
  obtain ⟨W2, hW2⟩ : ∃ W, w1.alloc (.cells #[.int .u64 v.1, .int .i64 v.2.1, .int .i64 v.2.2.1, .int .i64 v.2.2.2.1, .int .i64 v.2.2.2.2.1, .int .i64 v.2.2.2.2.2] 41) = W := ⟨_, rfl⟩
  have hE2 : Ext w1 W2 := by rw [← hW2]; exact (Below.refl _ _).alloc (Nat.le_refl _) _
  have hV := (Blk.new w1 #[.int .u64 v.1, .int .i64 v.2.1, .int .i64 v.2.2.1, .int .i64 v.2.2.2.1, .int .i64 v.2.2.2.2.1, .int .i64 v.2.2.2.2.2] 41)
  rw [hW2] at hV ⊢
  refine (TrEi.Drop_any h _ _ _ (HT.out.ext hE2) (by omega)).mono ?_
  rintro e w3 ⟨q, rfl, hq, hE3⟩
  have hE4 := Ext.trans hE2 hE3
  have hV3 := hV.ext hE3
  have hR3 := HR1.out.ext hE4
  have hS3 := HS1.out.ext hE4
  have HQ := Lib.hid hq
  have f0 : w3.frozen? ⟨b, 0, none⟩ = false := by obtain ⟨q1', q2', hB', _⟩ := hS3; exact hB'.frozen 0
  have k0 : ∃ v, w3.cell? ⟨b, 0, none⟩ = some v := by obtain ⟨q1', q2', hB', _⟩ := hS3; exact ⟨_, hB'.cell (i := 0) rfl⟩
  obtain ⟨vk, k0⟩ := k0
  have HS3 := Lib.hid hS3
  have HR3 := Lib.hid hR3
  have HV3 := Lib.hid hV3
  have HE4 := Lib.hid (below_ext HE1.out hE4)
  have hlt3 : w1.heap.size < w3.heap.size := hV3.lt
  have hne1 : b ≠ w1.heap.size := by omega
  have hne2 : w1.heap.size ≠ b := by omega
  have hne3 : b ≠ w.heap.size := by omega
  have hne4 : w.heap.size ≠ b := by omega
  have hcv : ∀ i, w3.cell? ⟨w1.heap.size, i, none⟩ = (#[.int .u64 v.1, .int .i64 v.2.1, .int .i64 v.2.2.1, .int .i64 v.2.2.2.1, .int .i64 v.2.2.2.2.1, .int .i64 v.2.2.2.2.2] : Array Value)[i]? := fun i => hV3.cells i
  have hcr : ∀ i, w3.cell? ⟨w.heap.size, i, none⟩ = (#[.int .u64 0, .int .i64 0, .int .i64 0, .int .i64 0, .int .i64 0, .int .i64 0] : Array Value)[i]? := fun i => hR3.cells i
  have hfr : ∀ i, w3.frozen? ⟨w.heap.size, i, none⟩ = false := fun i => hR3.frozen i
  clear hE2 hE3 hE4 hV hV3 hR3 hS3 hq hW2
  go_wp2_with fail
  (try simp only [Exit.inBlock, Exit.then])
  obtain ⟨_, _, hB', _, _⟩ := HS3.out
  have hR4 := HR3.out.chg (Chg.set w3 b 0 (.pointer q)) (.one hB' (by decide))
  refine bodyPost_ret (results_struct (ty := 41) rfl rfl rfl (c := #[.int .u64 v.1, .int .i64 v.2.1, .int .i64 v.2.2.1, .int .i64 v.2.2.2.1, .int .i64 v.2.2.2.2.1, .int .i64 v.2.2.2.2.2]) (Blk.set6 hR4 rfl _ _ _ _ _ _) (by kernel_rfl) (by kernel_rfl)) rfl ?_
  have hS4 := HS3.out.putEntries HQ.out
  have hX := Chg.set6 (w3.setCell ⟨b, 0, none⟩ (.pointer q)) w.heap.size (.int .u64 v.1) (.int .i64 v.2.1) (.int .i64 v.2.2.1) (.int .i64 v.2.2.2.1) (.int .i64 v.2.2.2.2.1) (.int .i64 v.2.2.2.2.2)
  exact ⟨rfl, hS4.one hX hR4 (by decide), ((Chg.of_below HE4.out).trans (Chg.set _ _ _ _)).onNew hX (Nat.le_refl _)⟩

set_option maxRecDepth 100000 in
set_option maxHeartbeats 2000000 in
theorem Cut_none (b : Nat) (te : T Int Ent) (tw : T Int (Int × Int)) (h c : Int) (w : World) (hS : ShardAt w b te tw) (hs : te.sz < 1000000) (hg : T.get cint h te = none) :
    Calls Try.prog 50 #[.pointer (some ⟨b, 0, none⟩), .agg #[.int .u64 h, .int .u64 c]] w fun e w' => e = .returned (.tuple #[.agg #[.int .u64 0, .int .i64 0, .int .i64 0, .int .i64 0, .int .i64 0, .int .i64 0], .bool false]) ∧ Ext w w' := by
  have HS := Lib.hid hS
  have HG := Lib.hid hg
  clear hS hg
  have hA : Ext w ((w.alloc (Obj.cells #[.int .u64 h, .int .u64 c] 39)).alloc (Obj.cells #[.int .u64 0, .int .i64 0, .int .i64 0, .int .i64 0, .int .i64 0, .int .i64 0] 41)) := ((Below.refl _ _).alloc (Nat.le_refl _) _).alloc (by simp) _
  have HP := Lib.hid (show Blk ((w.alloc (Obj.cells #[.int .u64 h, .int .u64 c] 39)).alloc (Obj.cells #[.int .u64 0, .int .i64 0, .int .i64 0, .int .i64 0, .int .i64 0, .int .i64 0] 41)) w.heap.size #[.int .u64 h, .int .u64 c] 39 from (Blk.new _ _ _).ext ((Below.refl _ _).alloc (Nat.le_refl _) _))
  have HR := Lib.hid (show Blk ((w.alloc (Obj.cells #[.int .u64 h, .int .u64 c] 39)).alloc (Obj.cells #[.int .u64 0, .int .i64 0, .int .i64 0, .int .i64 0, .int .i64 0, .int .i64 0] 41)) (w.heap.size + 1) #[.int .u64 0, .int .i64 0, .int .i64 0, .int .i64 0, .int .i64 0, .int .i64 0] 41 from blk_at (by simp))
  go_enter Try.func50, Try.ntmps50
  go_wp2_with fail
  refine (Find_none _ _ _ _ _ _ (HS.out.ext hA) hs HG.out).mono ?_
  rintro e w1 ⟨rfl, hE⟩
  have p0 := (HP.out.ext hE).cell (i := 0) rfl
  have p1 := (HP.out.ext hE).cell (i := 1) rfl
  have hst := Go.run_storeCells_new (P := Try.prog) w1 41 #[.int .u64 0, .int .i64 0, .int .i64 0, .int .i64 0, .int .i64 0, .int .i64 0] #[.int .u64 0, .int .i64 0, .int .i64 0, .int .i64 0, .int .i64 0, .int .i64 0] (by kernel_rfl) rfl (by simp [Value.oneCell'])
  have hld := Go.run_loadCellsFrom_new (P := Try.prog) w1 41 #[.int .u64 0, .int .i64 0, .int .i64 0, .int .i64 0, .int .i64 0, .int .i64 0] 6 rfl
  have z0 := (HR.out.ext hE).cell (i := 0) rfl
  have y0 := (HR.out.ext hE).frozen 0
  have z1 := (HR.out.ext hE).cell (i := 1) rfl
  have y1 := (HR.out.ext hE).frozen 1
  have z2 := (HR.out.ext hE).cell (i := 2) rfl
  have y2 := (HR.out.ext hE).frozen 2
  have z3 := (HR.out.ext hE).cell (i := 3) rfl
  have y3 := (HR.out.ext hE).frozen 3
  have z4 := (HR.out.ext hE).cell (i := 4) rfl
  have y4 := (HR.out.ext hE).frozen 4
  have z5 := (HR.out.ext hE).cell (i := 5) rfl
  have y5 := (HR.out.ext hE).frozen 5
  have HR1 := Lib.hid (HR.out.ext hE)
  have HE := Lib.hid (below_ext hA hE)
  have hlt : w.heap.size + 1 < w1.heap.size := by have := hE.size; simp at this; omega
  have hlt0 : w.heap.size < w1.heap.size := by omega
  clear hE
  go_wp2_with fail
  (try simp only [Exit.inBlock, Exit.then])
  refine bodyPost_ret (results_struct (ty := 41) rfl rfl rfl (c := #[.int .u64 0, .int .i64 0, .int .i64 0, .int .i64 0, .int .i64 0, .int .i64 0]) ?_ (by kernel_rfl) (by kernel_rfl)) rfl ?_
  · first
    | exact Blk.set6a HR1.out rfl _ _ _ _ _ _ _
    | exact Blk.set6 HR1.out rfl _ _ _ _ _ _
  refine ⟨rfl, ?_⟩
  first | exact Ext.set6a HE.out (by simp) _ _ _ _ _ _ _ | exact Ext.set6 HE.out (by simp) _ _ _ _ _ _

set_option maxRecDepth 100000 in
set_option maxHeartbeats 2000000 in
theorem Cut_other (b : Nat) (te : T Int Ent) (tw : T Int (Int × Int)) (h c : Int) (v : Ent) (w : World) (hS : ShardAt w b te tw) (hs : te.sz < 1000000) (hg : T.get cint h te = some v) (hc : v.1 ≠ c) :
    Calls Try.prog 50 #[.pointer (some ⟨b, 0, none⟩), .agg #[.int .u64 h, .int .u64 c]] w fun e w' => e = .returned (.tuple #[.agg #[.int .u64 0, .int .i64 0, .int .i64 0, .int .i64 0, .int .i64 0, .int .i64 0], .bool false]) ∧ Ext w w' := by
  have HC := Lib.hid hc
  clear hc
  have HS := Lib.hid hS
  have HG := Lib.hid hg
  clear hS hg
  have hA : Ext w ((w.alloc (Obj.cells #[.int .u64 h, .int .u64 c] 39)).alloc (Obj.cells #[.int .u64 0, .int .i64 0, .int .i64 0, .int .i64 0, .int .i64 0, .int .i64 0] 41)) := ((Below.refl _ _).alloc (Nat.le_refl _) _).alloc (by simp) _
  have HP := Lib.hid (show Blk ((w.alloc (Obj.cells #[.int .u64 h, .int .u64 c] 39)).alloc (Obj.cells #[.int .u64 0, .int .i64 0, .int .i64 0, .int .i64 0, .int .i64 0, .int .i64 0] 41)) w.heap.size #[.int .u64 h, .int .u64 c] 39 from (Blk.new _ _ _).ext ((Below.refl _ _).alloc (Nat.le_refl _) _))
  have HR := Lib.hid (show Blk ((w.alloc (Obj.cells #[.int .u64 h, .int .u64 c] 39)).alloc (Obj.cells #[.int .u64 0, .int .i64 0, .int .i64 0, .int .i64 0, .int .i64 0, .int .i64 0] 41)) (w.heap.size + 1) #[.int .u64 0, .int .i64 0, .int .i64 0, .int .i64 0, .int .i64 0, .int .i64 0] 41 from blk_at (by simp))
  go_enter Try.func50, Try.ntmps50
  go_wp2_with fail
  refine (Find_other _ _ _ _ _ _ _ (HS.out.ext hA) hs HG.out HC.out).mono ?_
  rintro e w1 ⟨rfl, hE⟩
  have p0 := (HP.out.ext hE).cell (i := 0) rfl
  have p1 := (HP.out.ext hE).cell (i := 1) rfl
  have hst := Go.run_storeCells_new (P := Try.prog) w1 41 #[.int .u64 0, .int .i64 0, .int .i64 0, .int .i64 0, .int .i64 0, .int .i64 0] #[.int .u64 0, .int .i64 0, .int .i64 0, .int .i64 0, .int .i64 0, .int .i64 0] (by kernel_rfl) rfl (by simp [Value.oneCell'])
  have hld := Go.run_loadCellsFrom_new (P := Try.prog) w1 41 #[.int .u64 0, .int .i64 0, .int .i64 0, .int .i64 0, .int .i64 0, .int .i64 0] 6 rfl
  have z0 := (HR.out.ext hE).cell (i := 0) rfl
  have y0 := (HR.out.ext hE).frozen 0
  have z1 := (HR.out.ext hE).cell (i := 1) rfl
  have y1 := (HR.out.ext hE).frozen 1
  have z2 := (HR.out.ext hE).cell (i := 2) rfl
  have y2 := (HR.out.ext hE).frozen 2
  have z3 := (HR.out.ext hE).cell (i := 3) rfl
  have y3 := (HR.out.ext hE).frozen 3
  have z4 := (HR.out.ext hE).cell (i := 4) rfl
  have y4 := (HR.out.ext hE).frozen 4
  have z5 := (HR.out.ext hE).cell (i := 5) rfl
  have y5 := (HR.out.ext hE).frozen 5
  have HR1 := Lib.hid (HR.out.ext hE)
  have HE := Lib.hid (below_ext hA hE)
  have hlt : w.heap.size + 1 < w1.heap.size := by have := hE.size; simp at this; omega
  have hlt0 : w.heap.size < w1.heap.size := by omega
  clear hE
  go_wp2_with fail
  (try simp only [Exit.inBlock, Exit.then])
  refine bodyPost_ret (results_struct (ty := 41) rfl rfl rfl (c := #[.int .u64 0, .int .i64 0, .int .i64 0, .int .i64 0, .int .i64 0, .int .i64 0]) ?_ (by kernel_rfl) (by kernel_rfl)) rfl ?_
  · first
    | exact Blk.set6a HR1.out rfl _ _ _ _ _ _ _
    | exact Blk.set6 HR1.out rfl _ _ _ _ _ _
  refine ⟨rfl, ?_⟩
  first | exact Ext.set6a HE.out (by simp) _ _ _ _ _ _ _ | exact Ext.set6 HE.out (by simp) _ _ _ _ _ _

set_option maxRecDepth 100000 in
set_option maxHeartbeats 4000000 in
theorem Cut_some (b : Nat) (te : T Int Ent) (tw : T Int (Int × Int)) (h c : Int) (v : Ent) (w : World) (hS : ShardAt w b te tw) (hs : te.sz < 1000000) (hg : T.get cint h te = some v) (hc : v.1 = c) :
    Calls Try.prog 50 #[.pointer (some ⟨b, 0, none⟩), .agg #[.int .u64 h, .int .u64 c]] w fun e w' => e = .returned (.tuple #[.agg #[.int .u64 v.1, .int .i64 v.2.1, .int .i64 v.2.2.1, .int .i64 v.2.2.2.1, .int .i64 v.2.2.2.2.1, .int .i64 v.2.2.2.2.2], .bool true]) ∧ ShardAt w' b (T.drop cint h te) tw ∧ Chg (· = b) w w' := by
  have HC := Lib.hid hc
  clear hc
  have HS := Lib.hid hS
  have HG := Lib.hid hg
  clear hS hg
  have hbz : b < w.heap.size := by obtain ⟨cs, hb⟩ := HS.out.blk; exact hb.lt
  have hA : Ext w ((w.alloc (Obj.cells #[.int .u64 h, .int .u64 c] 39)).alloc (Obj.cells #[.int .u64 0, .int .i64 0, .int .i64 0, .int .i64 0, .int .i64 0, .int .i64 0] 41)) := ((Below.refl _ _).alloc (Nat.le_refl _) _).alloc (by simp) _
  have HP := Lib.hid (show Blk ((w.alloc (Obj.cells #[.int .u64 h, .int .u64 c] 39)).alloc (Obj.cells #[.int .u64 0, .int .i64 0, .int .i64 0, .int .i64 0, .int .i64 0, .int .i64 0] 41)) w.heap.size #[.int .u64 h, .int .u64 c] 39 from (Blk.new _ _ _).ext ((Below.refl _ _).alloc (Nat.le_refl _) _))
  have HR := Lib.hid (show Blk ((w.alloc (Obj.cells #[.int .u64 h, .int .u64 c] 39)).alloc (Obj.cells #[.int .u64 0, .int .i64 0, .int .i64 0, .int .i64 0, .int .i64 0, .int .i64 0] 41)) (w.heap.size + 1) #[.int .u64 0, .int .i64 0, .int .i64 0, .int .i64 0, .int .i64 0, .int .i64 0] 41 from blk_at (by simp))
  go_enter Try.func50, Try.ntmps50
  go_wp2_with fail
  refine (Find_some _ _ _ _ _ _ _ (HS.out.ext hA) hs HG.out HC.out).mono ?_
  rintro e w1 ⟨rfl, hE⟩
  have hst := Go.run_storeCells_new (P := Try.prog) w1 41 #[.int .u64 0, .int .i64 0, .int .i64 0, .int .i64 0, .int .i64 0, .int .i64 0] #[.int .u64 v.1, .int .i64 v.2.1, .int .i64 v.2.2.1, .int .i64 v.2.2.2.1, .int .i64 v.2.2.2.2.1, .int .i64 v.2.2.2.2.2] (by kernel_rfl) rfl (by simp [Value.oneCell'])
  have p0 := (HP.out.ext hE).cell (i := 0) rfl
  have hR1 := HR.out.ext hE
  have hE1 := below_ext hA hE
  have hlt : w.heap.size + 1 < w1.heap.size := hR1.lt
  have hlt0 : b < w1.heap.size := by omega
  have hlt2 : w.heap.size < w1.heap.size := by omega
  have HS1 := Lib.hid (HS.out.ext hE1)
  have HE1 := Lib.hid hE1
  have HR1 := Lib.hid hR1
  clear hE hA hE1 hR1
  go_wp2_with fail
  obtain ⟨W2, hW2⟩ : ∃ W, w1.alloc (.cells #[.int .u64 v.1, .int .i64 v.2.1, .int .i64 v.2.2.1, .int .i64 v.2.2.2.1, .int .i64 v.2.2.2.2.1, .int .i64 v.2.2.2.2.2] 41) = W := ⟨_, rfl⟩
  have hE2 : Ext w1 W2 := by rw [← hW2]; exact (Below.refl _ _).alloc (Nat.le_refl _) _
  have hV := (Blk.new w1 #[.int .u64 v.1, .int .i64 v.2.1, .int .i64 v.2.2.1, .int .i64 v.2.2.2.1, .int .i64 v.2.2.2.2.1, .int .i64 v.2.2.2.2.2] 41)
  have hS2 := HS1.out.ext hE2
  rw [hW2] at hV ⊢
  refine (Remove_some _ _ _ h v _ hS2 (by omega) HG.out).mono ?_
  rintro e w3 ⟨rfl, hS3, hC⟩
  obtain ⟨_, _, hB', _, _⟩ := hS2
  have hV3 := hV.chg hC (.one hB' (by decide))
  have hR3 := (HR1.out.ext hE2).chg hC (.one hB' (by decide))
  have hC3 := (Chg.of_below (S := (· = b)) (below_ext HE1.out hE2)).trans hC
  have hlt3 : w1.heap.size < w3.heap.size := hV3.lt
  have hcv : ∀ i, w3.cell? ⟨w1.heap.size, i, none⟩ = (#[.int .u64 v.1, .int .i64 v.2.1, .int .i64 v.2.2.1, .int .i64 v.2.2.2.1, .int .i64 v.2.2.2.2.1, .int .i64 v.2.2.2.2.2] : Array Value)[i]? := fun i => hV3.cells i
  have hcr : ∀ i, w3.cell? ⟨w.heap.size + 1, i, none⟩ = (#[.int .u64 0, .int .i64 0, .int .i64 0, .int .i64 0, .int .i64 0, .int .i64 0] : Array Value)[i]? := fun i => hR3.cells i
  have hfr : ∀ i, w3.frozen? ⟨w.heap.size + 1, i, none⟩ = false := fun i => hR3.frozen i
  have HS3 := Lib.hid hS3
  have HR3 := Lib.hid hR3
  have HC3 := Lib.hid hC3
  clear hE2 hV hV3 hR3 hS3 hW2 hC hC3 hB'
  go_wp2_with fail
  (try simp only [Exit.inBlock, Exit.then])
  refine bodyPost_ret (results_struct (ty := 41) rfl rfl rfl (c := #[.int .u64 v.1, .int .i64 v.2.1, .int .i64 v.2.2.1, .int .i64 v.2.2.2.1, .int .i64 v.2.2.2.2.1, .int .i64 v.2.2.2.2.2]) (Blk.set6 HR3.out rfl _ _ _ _ _ _) (by kernel_rfl) (by kernel_rfl)) rfl ?_
  have hX := Chg.set6 w3 (w.heap.size + 1) (.int .u64 v.1) (.int .i64 v.2.1) (.int .i64 v.2.2.1) (.int .i64 v.2.2.2.1) (.int .i64 v.2.2.2.2.1) (.int .i64 v.2.2.2.2.2)
  exact ⟨rfl, HS3.out.one hX HR3.out (by decide), HC3.out.onNew hX (by omega)⟩

set_option maxRecDepth 100000 in
set_option maxHeartbeats 4000000 in
theorem Renew_none (b : Nat) (te : T Int Ent) (tw : T Int (Int × Int)) (h : Int) (v : Ent) (w : World) (hS : ShardAt w b te tw) (hs : te.sz < 1000000) (hg : T.get cint h te = none) :
    Calls Try.prog 49 #[.pointer (some ⟨b, 0, none⟩), .int .u64 h, .agg #[.int .u64 v.1, .int .i64 v.2.1, .int .i64 v.2.2.1, .int .i64 v.2.2.2.1, .int .i64 v.2.2.2.2.1, .int .i64 v.2.2.2.2.2]] w fun e w' => e = .returned (.bool false) ∧ Ext w w' := by
  have HS := Lib.hid hS
  have HG := Lib.hid hg
  clear hS hg
  have hA : Ext w (w.alloc (Obj.cells #[.int .u64 v.1, .int .i64 v.2.1, .int .i64 v.2.2.1, .int .i64 v.2.2.2.1, .int .i64 v.2.2.2.2.1, .int .i64 v.2.2.2.2.2] 41)) := (Below.refl _ _).alloc (Nat.le_refl _) _
  have HP := Lib.hid (show Blk (w.alloc (Obj.cells #[.int .u64 v.1, .int .i64 v.2.1, .int .i64 v.2.2.1, .int .i64 v.2.2.2.1, .int .i64 v.2.2.2.2.1, .int .i64 v.2.2.2.2.2] 41)) w.heap.size #[.int .u64 v.1, .int .i64 v.2.1, .int .i64 v.2.2.1, .int .i64 v.2.2.2.1, .int .i64 v.2.2.2.2.1, .int .i64 v.2.2.2.2.2] 41 from Blk.new _ _ _)
  go_enter Try.func49, Try.ntmps49
  go_wp2_with fail
  refine (Find_none _ _ _ _ _ _ (HS.out.ext hA) hs HG.out).mono ?_
  rintro e w1 ⟨rfl, hE⟩
  have hst := Go.run_storeCells_new (P := Try.prog) w1 41 #[.int .u64 0, .int .i64 0, .int .i64 0, .int .i64 0, .int .i64 0, .int .i64 0] #[.int .u64 0, .int .i64 0, .int .i64 0, .int .i64 0, .int .i64 0, .int .i64 0] (by kernel_rfl) rfl (by simp [Value.oneCell'])
  have hP1 := HP.out.ext hE
  have hpc : ∀ i, w1.cell? ⟨w.heap.size, i, none⟩ = (#[.int .u64 v.1, .int .i64 v.2.1, .int .i64 v.2.2.1, .int .i64 v.2.2.2.1, .int .i64 v.2.2.2.2.1, .int .i64 v.2.2.2.2.2] : Array Value)[i]? := fun i => hP1.cells i
  have hlt : w.heap.size < w1.heap.size := hP1.lt
  have hE1 := below_ext hA hE
  have HS1 := Lib.hid (HS.out.ext hE1)
  have HE1 := Lib.hid hE1
  clear hE hA hE1 hP1
  go_wp2_with fail
  go_ret
  refine ⟨rfl, ?_⟩
  repeat (first | (refine Below.setCell ?_ (by simp) _) | (refine Below.alloc ?_ (by have := HE1.out.size; simp; omega) _))
  exact HE1.out

set_option maxRecDepth 100000 in
set_option maxHeartbeats 4000000 in
theorem Renew_other (b : Nat) (te : T Int Ent) (tw : T Int (Int × Int)) (h : Int) (v : Ent) (u : Ent) (w : World) (hS : ShardAt w b te tw) (hs : te.sz < 1000000) (hg : T.get cint h te = some u) (hc : u.1 ≠ v.1) :
    Calls Try.prog 49 #[.pointer (some ⟨b, 0, none⟩), .int .u64 h, .agg #[.int .u64 v.1, .int .i64 v.2.1, .int .i64 v.2.2.1, .int .i64 v.2.2.2.1, .int .i64 v.2.2.2.2.1, .int .i64 v.2.2.2.2.2]] w fun e w' => e = .returned (.bool false) ∧ Ext w w' := by
  have HC := Lib.hid hc
  clear hc
  have HS := Lib.hid hS
  have HG := Lib.hid hg
  clear hS hg
  have hA : Ext w (w.alloc (Obj.cells #[.int .u64 v.1, .int .i64 v.2.1, .int .i64 v.2.2.1, .int .i64 v.2.2.2.1, .int .i64 v.2.2.2.2.1, .int .i64 v.2.2.2.2.2] 41)) := (Below.refl _ _).alloc (Nat.le_refl _) _
  have HP := Lib.hid (show Blk (w.alloc (Obj.cells #[.int .u64 v.1, .int .i64 v.2.1, .int .i64 v.2.2.1, .int .i64 v.2.2.2.1, .int .i64 v.2.2.2.2.1, .int .i64 v.2.2.2.2.2] 41)) w.heap.size #[.int .u64 v.1, .int .i64 v.2.1, .int .i64 v.2.2.1, .int .i64 v.2.2.2.1, .int .i64 v.2.2.2.2.1, .int .i64 v.2.2.2.2.2] 41 from Blk.new _ _ _)
  go_enter Try.func49, Try.ntmps49
  go_wp2_with fail
  refine (Find_other _ _ _ _ _ _ _ (HS.out.ext hA) hs HG.out HC.out).mono ?_
  rintro e w1 ⟨rfl, hE⟩
  have hst := Go.run_storeCells_new (P := Try.prog) w1 41 #[.int .u64 0, .int .i64 0, .int .i64 0, .int .i64 0, .int .i64 0, .int .i64 0] #[.int .u64 0, .int .i64 0, .int .i64 0, .int .i64 0, .int .i64 0, .int .i64 0] (by kernel_rfl) rfl (by simp [Value.oneCell'])
  have hP1 := HP.out.ext hE
  have hpc : ∀ i, w1.cell? ⟨w.heap.size, i, none⟩ = (#[.int .u64 v.1, .int .i64 v.2.1, .int .i64 v.2.2.1, .int .i64 v.2.2.2.1, .int .i64 v.2.2.2.2.1, .int .i64 v.2.2.2.2.2] : Array Value)[i]? := fun i => hP1.cells i
  have hlt : w.heap.size < w1.heap.size := hP1.lt
  have hE1 := below_ext hA hE
  have HS1 := Lib.hid (HS.out.ext hE1)
  have HE1 := Lib.hid hE1
  clear hE hA hE1 hP1
  go_wp2_with fail
  go_ret
  refine ⟨rfl, ?_⟩
  repeat (first | (refine Below.setCell ?_ (by simp) _) | (refine Below.alloc ?_ (by have := HE1.out.size; simp; omega) _))
  exact HE1.out

set_option maxRecDepth 100000 in
set_option maxHeartbeats 4000000 in
theorem Renew_old (b : Nat) (te : T Int Ent) (tw : T Int (Int × Int)) (h : Int) (v : Ent) (u : Ent) (w : World) (hS : ShardAt w b te tw) (hs : te.sz < 1000000) (hg : T.get cint h te = some u) (hc : u.1 = v.1) (he : u.2.2.2.1 ≠ v.2.2.2.1) :
    Calls Try.prog 49 #[.pointer (some ⟨b, 0, none⟩), .int .u64 h, .agg #[.int .u64 v.1, .int .i64 v.2.1, .int .i64 v.2.2.1, .int .i64 v.2.2.2.1, .int .i64 v.2.2.2.2.1, .int .i64 v.2.2.2.2.2]] w fun e w' => e = .returned (.bool false) ∧ Ext w w' := by
  have HC := Lib.hid hc
  have d : (u.2.2.2.1 != v.2.2.2.1) = true := by simp [he]
  clear hc he
  have HS := Lib.hid hS
  have HG := Lib.hid hg
  clear hS hg
  have hA : Ext w (w.alloc (Obj.cells #[.int .u64 v.1, .int .i64 v.2.1, .int .i64 v.2.2.1, .int .i64 v.2.2.2.1, .int .i64 v.2.2.2.2.1, .int .i64 v.2.2.2.2.2] 41)) := (Below.refl _ _).alloc (Nat.le_refl _) _
  have HP := Lib.hid (show Blk (w.alloc (Obj.cells #[.int .u64 v.1, .int .i64 v.2.1, .int .i64 v.2.2.1, .int .i64 v.2.2.2.1, .int .i64 v.2.2.2.2.1, .int .i64 v.2.2.2.2.2] 41)) w.heap.size #[.int .u64 v.1, .int .i64 v.2.1, .int .i64 v.2.2.1, .int .i64 v.2.2.2.1, .int .i64 v.2.2.2.2.1, .int .i64 v.2.2.2.2.2] 41 from Blk.new _ _ _)
  go_enter Try.func49, Try.ntmps49
  go_wp2_with fail
  refine (Find_some _ _ _ _ _ _ _ (HS.out.ext hA) hs HG.out HC.out).mono ?_
  rintro e w1 ⟨rfl, hE⟩
  have hst := Go.run_storeCells_new (P := Try.prog) w1 41 #[.int .u64 0, .int .i64 0, .int .i64 0, .int .i64 0, .int .i64 0, .int .i64 0] #[.int .u64 u.1, .int .i64 u.2.1, .int .i64 u.2.2.1, .int .i64 u.2.2.2.1, .int .i64 u.2.2.2.2.1, .int .i64 u.2.2.2.2.2] (by kernel_rfl) rfl (by simp [Value.oneCell'])
  have hP1 := HP.out.ext hE
  have hpc : ∀ i, w1.cell? ⟨w.heap.size, i, none⟩ = (#[.int .u64 v.1, .int .i64 v.2.1, .int .i64 v.2.2.1, .int .i64 v.2.2.2.1, .int .i64 v.2.2.2.2.1, .int .i64 v.2.2.2.2.2] : Array Value)[i]? := fun i => hP1.cells i
  have hlt : w.heap.size < w1.heap.size := hP1.lt
  have hE1 := below_ext hA hE
  have HS1 := Lib.hid (HS.out.ext hE1)
  have HE1 := Lib.hid hE1
  clear hE hA hE1 hP1
  go_wp2_with fail
  go_ret
  refine ⟨rfl, ?_⟩
  repeat (first | (refine Below.setCell ?_ (by simp) _) | (refine Below.alloc ?_ (by have := HE1.out.size; simp; omega) _))
  exact HE1.out

set_option maxRecDepth 100000 in
set_option maxHeartbeats 4000000 in
theorem Renew_yes (b : Nat) (te : T Int Ent) (tw : T Int (Int × Int)) (h : Int) (v : Ent) (u : Ent) (w : World) (hS : ShardAt w b te tw) (hs : te.sz < 1000000) (hg : T.get cint h te = some u) (hc : u.1 = v.1) (he : u.2.2.2.1 = v.2.2.2.1) :
    Calls Try.prog 49 #[.pointer (some ⟨b, 0, none⟩), .int .u64 h, .agg #[.int .u64 v.1, .int .i64 v.2.1, .int .i64 v.2.2.1, .int .i64 v.2.2.2.1, .int .i64 v.2.2.2.2.1, .int .i64 v.2.2.2.2.2]] w fun e w' => e = .returned (.bool true) ∧ ShardAt w' b (T.put cint h v te) tw ∧ Chg (· = b) w w' := by
  have HC := Lib.hid hc
  have d : (u.2.2.2.1 != v.2.2.2.1) = false := by simp [he]
  clear hc he
  have HS := Lib.hid hS
  have HG := Lib.hid hg
  clear hS hg
  have hA : Ext w (w.alloc (Obj.cells #[.int .u64 v.1, .int .i64 v.2.1, .int .i64 v.2.2.1, .int .i64 v.2.2.2.1, .int .i64 v.2.2.2.2.1, .int .i64 v.2.2.2.2.2] 41)) := (Below.refl _ _).alloc (Nat.le_refl _) _
  have HP := Lib.hid (show Blk (w.alloc (Obj.cells #[.int .u64 v.1, .int .i64 v.2.1, .int .i64 v.2.2.1, .int .i64 v.2.2.2.1, .int .i64 v.2.2.2.2.1, .int .i64 v.2.2.2.2.2] 41)) w.heap.size #[.int .u64 v.1, .int .i64 v.2.1, .int .i64 v.2.2.1, .int .i64 v.2.2.2.1, .int .i64 v.2.2.2.2.1, .int .i64 v.2.2.2.2.2] 41 from Blk.new _ _ _)
  go_enter Try.func49, Try.ntmps49
  go_wp2_with fail
  refine (Find_some _ _ _ _ _ _ _ (HS.out.ext hA) hs HG.out HC.out).mono ?_
  rintro e w1 ⟨rfl, hE⟩
  have hst := Go.run_storeCells_new (P := Try.prog) w1 41 #[.int .u64 0, .int .i64 0, .int .i64 0, .int .i64 0, .int .i64 0, .int .i64 0] #[.int .u64 u.1, .int .i64 u.2.1, .int .i64 u.2.2.1, .int .i64 u.2.2.2.1, .int .i64 u.2.2.2.2.1, .int .i64 u.2.2.2.2.2] (by kernel_rfl) rfl (by simp [Value.oneCell'])
  have hP1 := HP.out.ext hE
  have hpc : ∀ i, w1.cell? ⟨w.heap.size, i, none⟩ = (#[.int .u64 v.1, .int .i64 v.2.1, .int .i64 v.2.2.1, .int .i64 v.2.2.2.1, .int .i64 v.2.2.2.2.1, .int .i64 v.2.2.2.2.2] : Array Value)[i]? := fun i => hP1.cells i
  have hlt : w.heap.size < w1.heap.size := hP1.lt
  have hE1 := below_ext hA hE
  have HS1 := Lib.hid (HS.out.ext hE1)
  have HE1 := Lib.hid hE1
  clear hE hA hE1 hP1
  go_wp2_with fail
  obtain ⟨W2, hW2⟩ : ∃ W, w1.alloc (.cells #[.int .u64 u.1, .int .i64 u.2.1, .int .i64 u.2.2.1, .int .i64 u.2.2.2.1, .int .i64 u.2.2.2.2.1, .int .i64 u.2.2.2.2.2] 41) = W := ⟨_, rfl⟩
  have hE2 : Ext w1 W2 := by rw [← hW2]; exact (Below.refl _ _).alloc (Nat.le_refl _) _
  rw [hW2]
  refine (Put_entry _ _ _ h v _ (HS1.out.ext hE2) (by omega)).mono ?_
  rintro e w3 ⟨rfl, hS3, hC⟩
  have HS3 := Lib.hid hS3
  have HC3 := Lib.hid ((Chg.of_below (S := (· = b)) (below_ext HE1.out hE2)).trans hC)
  clear hS3 hC hE2 hW2
  go_wp2_with fail
  go_ret
  exact ⟨rfl, HS3.out, HC3.out⟩

end Go.Proofs.Ytnpfikabcmngpaa.ShI
