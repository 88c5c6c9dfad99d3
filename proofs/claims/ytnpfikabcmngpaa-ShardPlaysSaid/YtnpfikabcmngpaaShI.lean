/-
  Package shard, at things that are ints: each function comes to what two plain trees say.
  Fewer than 1,000,000 entries and ways; no other condition.
-/
import Derived.Test.YtnpfikabcmngpaaTrEi
import Derived.Test.YtnpfikabcmngpaaTrPe
import Derived.Test.YtnpfikabcmngpaaSegK
import Derived.Test.YtnpfikabcmngpaaRankG
import Derived.Laws.ResultCell
namespace Go.Proofs.Ytnpfikabcmngpaa.ShI
open Go.RowKit Go.Seg Go.Open Go.Lib Rk

theorem chg_ext {S : Nat → Prop} {a b c : World} (h : Ext a b) (k : Chg S b c) : Chg S a c := (Chg.of_below h).trans k
abbrev Ent := Int × Int × Int × Int × Int × Int
def zE : Ent := (0, 0, 0, 0, 0, 0)
/-- A shard: the tree of its entries, the tree of what is on its way. -/
def ShardAt (w : World) (b : Nat) (te : T Int Ent) (tw : T Int (Int × Int)) : Prop := ∃ q1 q2, Blk w b #[.pointer q1, .pointer q2] 85 ∧ TrEi.isTree w q1 te ∧ TrPe.isTree w q2 tw
theorem ShardAt.ext {w w' : World} {b : Nat} {te : T Int Ent} {tw : T Int (Int × Int)} (h : ShardAt w b te tw) (e : Ext w w') : ShardAt w' b te tw := by
  obtain ⟨q1, q2, hB, h1, h2⟩ := h
  exact ⟨q1, q2, hB.ext e, h1.ext e, h2.ext e⟩
theorem ShardAt.blk {w : World} {b : Nat} {te : T Int Ent} {tw : T Int (Int × Int)} : ShardAt w b te tw → ∃ cs, Blk w b cs 85 := fun ⟨_, _, h, _⟩ => ⟨_, h⟩
theorem ShardAt.putWays {w : World} {b : Nat} {te : T Int Ent} {tw tw' : T Int (Int × Int)} {q : Option Addr} (h : ShardAt w b te tw) (hq : TrPe.isTree w q tw') : ShardAt (w.setCell ⟨b, 1, none⟩ (.pointer q)) b te tw' := by
  obtain ⟨q1, q2, hB, h1, h2⟩ := h
  have hc := Chg.set w b 1 (.pointer q)
  exact ⟨q1, q, hB.set 1 (.pointer q) rfl, h1.chg hc (.one hB (by decide)) (.one hB (by decide)), hq.chg hc (.one hB (by decide)) (.one hB (by decide))⟩
theorem ShardAt.putEntries {w : World} {b : Nat} {te te' : T Int Ent} {tw : T Int (Int × Int)} {q : Option Addr} (h : ShardAt w b te tw) (hq : TrEi.isTree w q te') : ShardAt (w.setCell ⟨b, 0, none⟩ (.pointer q)) b te' tw := by
  obtain ⟨q1, q2, hB, h1, h2⟩ := h
  have hc := Chg.set w b 0 (.pointer q)
  exact ⟨q, q2, hB.set 0 (.pointer q) rfl, hq.chg hc (.one hB (by decide)) (.one hB (by decide)), h2.chg hc (.one hB (by decide)) (.one hB (by decide))⟩

theorem ShardAt.one {w w' : World} {b k : Nat} {te : T Int Ent} {tw : T Int (Int × Int)} {cs : Array Value} {E : TypeId} (h : ShardAt w b te tw) (hc : Chg (· = k) w w') (hk : Blk w k cs E) (hE : [85, 108, 119, 112, 145].contains E = false) : ShardAt w' b te tw := by
  obtain ⟨q1, q2, hB, h1, h2⟩ := h
  have n : ∀ x ∈ [85, 108, 119, 112, 145], E ≠ x := fun x hx e => by subst e; rw [List.contains_iff_mem.2 hx] at hE; cases hE
  exact ⟨q1, q2, hB.chg hc (.one hk (n _ (by simp))), h1.chg hc (.one hk (n _ (by simp))) (.one hk (n _ (by simp))), h2.chg hc (.one hk (n _ (by simp))) (.one hk (n _ (by simp)))⟩
theorem results_cell {fn : Func} {p : Tmp} {ty : TypeId} (h : fn.results = #[.cell p ty]) (tmps : Array Value) (P : Program) (w : World) :
    (results fn tmps).run P w = ((asAddr (tmps.getD p undef)).run P w).andThen fun a w₁ => (loadVar ty a).run P w₁ := by
  simp only [results, h]
  simp [Sem.run_bind, Result.andThen]

theorem New_shard (w : World) : Calls Try.prog 8 #[] w fun e w' => ∃ b, e = .returned (.pointer (some ⟨b, 0, none⟩)) ∧ w.heap.size ≤ b ∧ ShardAt w' b .nil .nil ∧ Ext w w' := by
  go_enter Try.func8, Try.ntmps8
  go_wp2_with fail
  refine (TrEi.New_any _).mono ?_
  rintro e w1 ⟨q1, rfl, h1, hE1⟩
  go_wp2_with fail
  refine (TrPe.New_any _).mono ?_
  rintro e w2 ⟨q2, rfl, h2, hE2⟩
  go_wp2_with fail
  go_ret
  have hA : Ext w2 (w2.alloc (Obj.cells #[.pointer q1, .pointer q2] 85)) := (Below.refl _ _).alloc (Nat.le_refl _) _
  exact ⟨_, rfl, Nat.le_trans hE1.size hE2.size, ⟨q1, q2, Blk.new _ _ _, h1.ext (Ext.trans hE2 hA), h2.ext hA⟩, Ext.trans (Ext.trans hE1 hE2) hA⟩

theorem field0 (x y : Value) (w : World) : (Instr.field 83 (.agg #[x, y]) 0).run Try.prog w = .ok x w := by kernel_rfl
/-- What is on its way of a hash. -/
def wayOf (tw : T Int (Int × Int)) (h : Int) : Int × Int := (T.get cint h tw).getD (0, 0)

set_option maxRecDepth 100000 in
set_option maxHeartbeats 1000000 in
theorem way_any (b : Nat) (te : T Int Ent) (tw : T Int (Int × Int)) (h : Int) (w : World) (hS : ShardAt w b te tw) (hs : tw.sz < 1000000) :
    Calls Try.prog 59 #[.pointer (some ⟨b, 0, none⟩), .int .u64 h] w fun e w' => e = .returned (.agg #[.int .i64 (wayOf tw h).1, .int .i64 (wayOf tw h).2]) ∧ Ext w w' := by
  obtain ⟨q1, q2, hB, _, hT⟩ := hS
  have hA : Ext w (w.alloc (Obj.cells #[.int .i64 0, .int .i64 0] 83)) := (Below.refl _ _).alloc (Nat.le_refl _) _
  have HR := Lib.hid (show Blk (w.alloc (Obj.cells #[.int .i64 0, .int .i64 0] 83)) w.heap.size #[.int .i64 0, .int .i64 0] 83 from Blk.new _ _ _)
  have b1 := (hB.ext hA).cell (i := 1) rfl
  have HT := Lib.hid (hT.ext hA)
  clear hB hT
  go_enter Try.func59, Try.ntmps59
  go_wp2_with fail
  refine (TrPe.Get_any _ _ _ _ HT.out (by omega)).mono ?_
  rintro e w1 ⟨he, hE⟩
  have z0 := (HR.out.ext hE).cell (i := 0) rfl
  have y0 := (HR.out.ext hE).frozen 0
  have z1 := (HR.out.ext hE).cell (i := 1) rfl
  have y1 := (HR.out.ext hE).frozen 1
  have hsz := hE.size
  simp at hsz
  have HE := Lib.hid (below_ext hA hE)
  have hlt1 : w.heap.size < w1.heap.size := by omega
  clear b1
  cases hg : T.get cint h tw with
  | none =>
    rw [hg] at he
    obtain rfl := he
    have hw : wayOf tw h = (0, 0) := by unfold wayOf; rw [hg]; rfl
    have HW := Lib.hid hw
    clear hg hw
    go_wp2_with fail
    (try simp only [Exit.inBlock, Exit.then])
    refine bodyPost_ret (v := .agg #[.int .i64 0, .int .i64 0]) ?_ rfl ?_
    · rw [results_cell rfl]
      go_simp
    rw [HW.out]
    refine ⟨rfl, ?_⟩
    repeat (first | (refine Below.setCell ?_ (by simp) _) | (refine Below.alloc ?_ (by have := HE.out.size; simp; omega) _))
    exact HE.out
  | some v =>
    rw [hg] at he
    obtain rfl := he
    have hw : wayOf tw h = v := by unfold wayOf; rw [hg]; rfl
    have HW := Lib.hid hw
    clear hg hw
    go_wp2_with fail
    (try simp only [Exit.inBlock, Exit.then])
    refine bodyPost_ret (v := .agg #[.int .i64 v.1, .int .i64 v.2]) ?_ rfl ?_
    · rw [results_cell rfl]
      go_simp
    rw [HW.out]
    refine ⟨rfl, ?_⟩
    repeat (first | (refine Below.setCell ?_ (by simp) _) | (refine Below.alloc ?_ (by have := HE.out.size; simp; omega) _))
    exact HE.out
theorem way_nil (h : Int) (w : World) : Calls Try.prog 59 #[.pointer none, .int .u64 h] w fun e w' => e = .returned (.agg #[.int .i64 0, .int .i64 0]) ∧ Ext w w' := by
  go_enter Try.func59, Try.ntmps59
  go_wp2_with fail
  (try simp only [Exit.inBlock, Exit.then])
  refine bodyPost_ret (v := .agg #[.int .i64 0, .int .i64 0]) ?_ rfl ?_
  · rw [results_cell rfl]
    go_simp
  refine ⟨rfl, ?_⟩
  repeat (first | (refine Below.setCell ?_ (by simp) _) | (refine Below.alloc ?_ (by simp) _))
  exact Below.refl _ _

set_option maxRecDepth 100000 in
theorem Pending_any (b : Nat) (te : T Int Ent) (tw : T Int (Int × Int)) (h : Int) (w : World) (hS : ShardAt w b te tw) (hs : tw.sz < 1000000) :
    Calls Try.prog 16 #[.pointer (some ⟨b, 0, none⟩), .int .u64 h] w fun e w' => e = .returned (.int .i64 (wayOf tw h).1) ∧ Ext w w' := by
  have HS := Lib.hid hS
  have hf0 := field0
  clear hS
  go_enter Try.func16, Try.ntmps16
  go_wp2_with fail
  refine (way_any _ _ _ _ _ HS.out hs).mono ?_
  rintro e w1 ⟨rfl, hE⟩
  go_wp2_with fail
  go_ret
  exact ⟨rfl, hE⟩
set_option maxRecDepth 100000 in
theorem Pending_nil (h : Int) (w : World) : Calls Try.prog 16 #[.pointer none, .int .u64 h] w fun e w' => e = .returned (.int .i64 0) ∧ Ext w w' := by
  have hf0 := field0
  go_enter Try.func16, Try.ntmps16
  go_wp2_with fail
  refine (way_nil _ _).mono ?_
  rintro e w1 ⟨rfl, hE⟩
  go_wp2_with fail
  go_ret
  exact ⟨rfl, hE⟩

set_option maxRecDepth 100000 in
set_option maxHeartbeats 1000000 in
theorem Wait_any (b : Nat) (te : T Int Ent) (tw : T Int (Int × Int)) (h t m : Int) (w : World) (hS : ShardAt w b te tw) (hs : tw.sz < 1000000) (hm : (wayOf tw h).1 = m) (h0 : 0 ≤ m) (h1 : m ≤ 1000000) :
    Calls Try.prog 40 #[.pointer (some ⟨b, 0, none⟩), .int .u64 h, .int .i64 t] w fun e w' => e = .returned (.tuple #[]) ∧ ShardAt w' b te (T.put cint h (m + 1, t) tw) ∧ Chg (· = b) w w' := by
  have HS := Lib.hid hS
  have HM := Lib.hid hm
  obtain ⟨q1, q2, hB, _, hT⟩ := hS
  have HB := Lib.hid hB
  have HT := Lib.hid hT
  have hf0 := field0
  clear hB hT hm
  go_enter Try.func40, Try.ntmps40
  go_wp2_with fail
  refine wp_region_segs 16 [([8, 3, 1, 5], false), ([3, 4], false), ([2, 1], true)] (by kernel_rfl) (by kernel_rfl) ?_
  apply segs_cons
  · intro W hW
    have b1 := (HB.out.ext hW.of_drew).cell (i := 1) rfl
    simp only [runsT, runsF, rep, pick]
    go_wp2_with fail
    exact ⟨rfl, rfl⟩
  simp only [runsT, runsF, rep, left]
  go_wp2_with fail
  refine (way_any _ _ _ _ _ (HS.out.ext (Ext.drew _)) hs).mono ?_
  rw [HM.out]
  rintro e w1 ⟨rfl, hE1⟩
  have HE1 := Lib.hid (Ext.trans (Ext.drew w) hE1)
  go_wp2_with fail
  refine ⟨fun _ => hE1, ?_⟩
  apply segs_cons
  · intro W hW
    simp only [runsT, runsF, rep, pick]
    go_wp2_with fail
    exact ⟨rfl, rfl⟩
  simp only [runsT, runsF, rep, left]
  go_wp2_with fail
  refine (TrPe.Put_any h (m + 1, t) _ _ _ (HT.out.ext HE1.out) (by omega)).mono ?_
  rintro e w2 ⟨q, rfl, hq, hE2⟩
  have HQ := Lib.hid hq
  have HE2 := Lib.hid (Ext.trans HE1.out hE2)
  have HS2 := Lib.hid (HS.out.ext HE2.out)
  have b2 := (HB.out.ext HE2.out).cell (i := 1) rfl
  have f2 := (HB.out.ext HE2.out).frozen 1
  go_wp2_with fail
  refine ⟨fun _ => hE2, ?_⟩
  apply segs_cons
  · intro W hW
    simp only [runsT, runsF, rep, pick]
    go_wp2_with fail
    exact ⟨rfl, rfl⟩
  simp only [runsT, runsF, rep, left]
  go_wp2_with fail
  refine ⟨fun h => (by cases h), ?_⟩
  apply segs_nil
  go_wp2_with fail
  go_end0
  exact ⟨rfl, HS2.out.putWays HQ.out, chg_ext HE2.out (Chg.set _ _ _ _)⟩
theorem Wait_nil (h t : Int) (w : World) : Calls Try.prog 40 #[.pointer none, .int .u64 h, .int .i64 t] w fun e w' => e = .returned (.tuple #[]) ∧ w = w' := by
  go_enter Try.func40, Try.ntmps40
  go_wp2_with fail
  go_end0
  exact ⟨rfl, rfl⟩

set_option maxRecDepth 100000 in
set_option maxHeartbeats 1000000 in
theorem Bump_no (b : Nat) (te : T Int Ent) (tw : T Int (Int × Int)) (h t : Int) (w : World) (hS : ShardAt w b te tw) (hs : tw.sz < 1000000) (hm : (wayOf tw h).1 = 0) :
    Calls Try.prog 55 #[.pointer (some ⟨b, 0, none⟩), .int .u64 h, .int .i64 t] w fun e w' => e = .returned (.bool false) ∧ Ext w w' := by
  have HS := Lib.hid hS
  have HM := Lib.hid hm
  clear hS hm
  go_enter Try.func55, Try.ntmps55
  go_wp2_with fail
  refine (way_any _ _ _ _ _ HS.out hs).mono ?_
  rw [HM.out]
  rintro e w1 ⟨rfl, hE1⟩
  go_wp2_with fail
  go_ret
  exact ⟨rfl, Below.alloc hE1 hE1.size _⟩
theorem Bump_nil (h t : Int) (w : World) : Calls Try.prog 55 #[.pointer none, .int .u64 h, .int .i64 t] w fun e w' => e = .returned (.bool false) ∧ Ext w w' := by
  go_enter Try.func55, Try.ntmps55
  go_wp2_with fail
  refine (way_nil _ _).mono ?_
  rintro e w1 ⟨rfl, hE1⟩
  go_wp2_with fail
  go_ret
  exact ⟨rfl, Below.alloc hE1 hE1.size _⟩
set_option maxRecDepth 100000 in
set_option maxHeartbeats 1000000 in
theorem Bump_yes (b : Nat) (te : T Int Ent) (tw : T Int (Int × Int)) (h t m : Int) (w : World) (hS : ShardAt w b te tw) (hs : tw.sz < 1000000) (hm : (wayOf tw h).1 = m) (h0 : m ≠ 0) :
    Calls Try.prog 55 #[.pointer (some ⟨b, 0, none⟩), .int .u64 h, .int .i64 t] w fun e w' => e = .returned (.bool true) ∧ ShardAt w' b te (T.put cint h (m, t) tw) ∧ Chg (· = b) w w' := by
  have HS := Lib.hid hS
  have HM := Lib.hid hm
  obtain ⟨q1, q2, hB, _, hT⟩ := hS
  have HB := Lib.hid hB
  have HT := Lib.hid hT
  have d0 : (m == 0) = false := beq_eq_false_iff_ne.2 h0
  obtain ⟨n, hn⟩ : ∃ n, (wayOf tw h).2 = n := ⟨_, rfl⟩
  have HN := Lib.hid hn
  clear hB hT hm h0 hn
  go_enter Try.func55, Try.ntmps55
  go_wp2_with fail
  refine (way_any _ _ _ _ _ HS.out hs).mono ?_
  rw [HM.out, HN.out]
  rintro e w1 ⟨rfl, hE1⟩
  have HA1 := Lib.hid (show Blk (w1.alloc (Obj.cells #[.int .i64 m, .int .i64 n] 83)) w1.heap.size #[.int .i64 m, .int .i64 n] 83 from Blk.new _ _ _)
  have HE1 := Lib.hid (show Ext w (w1.alloc (Obj.cells #[.int .i64 m, .int .i64 n] 83)) from Below.alloc hE1 hE1.size _)
  clear hE1
  go_wp2_with fail
  refine wp_region_segs 13 [([10, 4], false), ([2, 1], true)] (by kernel_rfl) (by kernel_rfl) ?_
  apply segs_cons
  · intro W hW
    have b1 := ((HB.out.ext HE1.out).ext hW.of_drew).cell (i := 1) rfl
    have c0 := (HA1.out.ext hW.of_drew).cell (i := 0) rfl
    simp only [runsT, runsF, rep, pick]
    go_wp2_with fail
    exact ⟨rfl, rfl⟩
  simp only [runsT, runsF, rep, left]
  go_wp2_with fail
  refine (TrPe.Put_any h (m, t) _ _ _ ((HT.out.ext HE1.out).ext (Ext.drew _)) (by omega)).mono ?_
  rintro e w2 ⟨q, rfl, hq, hE2⟩
  have HQ := Lib.hid hq
  have HE2 := Lib.hid (Ext.trans HE1.out (Ext.trans (Ext.drew _) hE2))
  have HS2 := Lib.hid (HS.out.ext HE2.out)
  have b2 := (HB.out.ext HE2.out).cell (i := 1) rfl
  have f2 := (HB.out.ext HE2.out).frozen 1
  go_wp2_with fail
  refine ⟨fun _ => hE2, ?_⟩
  apply segs_cons
  · intro W hW
    simp only [runsT, runsF, rep, pick]
    go_wp2_with fail
    exact ⟨rfl, rfl⟩
  simp only [runsT, runsF, rep, left]
  go_wp2_with fail
  refine ⟨fun h => (by cases h), ?_⟩
  apply segs_nil
  go_wp2_with fail
  go_ret
  exact ⟨rfl, HS2.out.putWays HQ.out, chg_ext HE2.out (Chg.set _ _ _ _)⟩

set_option maxRecDepth 100000 in
set_option maxHeartbeats 1000000 in
theorem Done_no (b : Nat) (te : T Int Ent) (tw : T Int (Int × Int)) (h t : Int) (w : World) (hS : ShardAt w b te tw) (hs : tw.sz < 1000000) (hm : (wayOf tw h).1 = 0) :
    Calls Try.prog 41 #[.pointer (some ⟨b, 0, none⟩), .int .u64 h, .int .i64 t] w fun e w' => e = .returned (.bool false) ∧ Ext w w' := by
  have HS := Lib.hid hS
  have HM := Lib.hid hm
  clear hS hm
  go_enter Try.func41, Try.ntmps41
  go_wp2_with fail
  refine (way_any _ _ _ _ _ HS.out hs).mono ?_
  rw [HM.out]
  rintro e w1 ⟨rfl, hE1⟩
  go_wp2_with fail
  go_ret
  exact ⟨rfl, Below.alloc hE1 hE1.size _⟩
theorem Done_nil (h t : Int) (w : World) : Calls Try.prog 41 #[.pointer none, .int .u64 h, .int .i64 t] w fun e w' => e = .returned (.bool false) ∧ Ext w w' := by
  go_enter Try.func41, Try.ntmps41
  go_wp2_with fail
  refine (way_nil _ _).mono ?_
  rintro e w1 ⟨rfl, hE1⟩
  go_wp2_with fail
  go_ret
  exact ⟨rfl, Below.alloc hE1 hE1.size _⟩
set_option maxRecDepth 100000 in
set_option maxHeartbeats 1000000 in
theorem Done_one (b : Nat) (te : T Int Ent) (tw : T Int (Int × Int)) (h t n : Int) (v : Bool) (w : World) (hS : ShardAt w b te tw) (hs : tw.sz < 1000000) (hm : wayOf tw h = (1, n)) (hv : (n == t) = v) :
    Calls Try.prog 41 #[.pointer (some ⟨b, 0, none⟩), .int .u64 h, .int .i64 t] w fun e w' => e = .returned (.bool v) ∧ ShardAt w' b te (T.drop cint h tw) ∧ Chg (· = b) w w' := by
  have HS := Lib.hid hS
  have HM := Lib.hid hm
  obtain ⟨q1, q2, hB, _, hT⟩ := hS
  have HB := Lib.hid hB
  have HT := Lib.hid hT
  clear hB hT hm
  go_enter Try.func41, Try.ntmps41
  go_wp2_with fail
  refine (way_any _ _ _ _ _ HS.out hs).mono ?_
  rw [HM.out]
  rintro e w1 ⟨rfl, hE1⟩
  have HA1 := Lib.hid (show Blk (w1.alloc (Obj.cells #[.int .i64 1, .int .i64 n] 83)) w1.heap.size #[.int .i64 1, .int .i64 n] 83 from Blk.new _ _ _)
  have HE1 := Lib.hid (show Ext w (w1.alloc (Obj.cells #[.int .i64 1, .int .i64 n] 83)) from Below.alloc hE1 hE1.size _)
  have b1 := (HB.out.ext HE1.out).cell (i := 1) rfl
  clear hE1
  go_wp2_with fail
  refine (TrPe.Drop_any h _ _ _ (HT.out.ext HE1.out) (by omega)).mono ?_
  rintro e w2 ⟨q, rfl, hq, hE2⟩
  have HQ := Lib.hid hq
  have HE2 := Lib.hid (Ext.trans HE1.out hE2)
  have HS2 := Lib.hid (HS.out.ext HE2.out)
  have b2 := (HB.out.ext HE2.out).cell (i := 1) rfl
  have f2 := (HB.out.ext HE2.out).frozen 1
  have hne : w1.heap.size ≠ b := fun e => by have := (HB.out.ext HE1.out); have h1 := HA1.out; rw [e] at h1; unfold Blk at this h1; rw [this] at h1; cases h1
  have a1 := (HA1.out.ext hE2).cell (i := 1) rfl
  clear b1 hE2
  go_wp2_with fail
  go_ret
  exact ⟨rfl, HS2.out.putWays HQ.out, chg_ext HE2.out (Chg.set _ _ _ _)⟩
set_option maxRecDepth 100000 in
set_option maxHeartbeats 1000000 in
theorem Done_more (b : Nat) (te : T Int Ent) (tw : T Int (Int × Int)) (h t m n : Int) (v : Bool) (w : World) (hS : ShardAt w b te tw) (hs : tw.sz < 1000000) (hm : wayOf tw h = (m, n)) (h2 : 2 ≤ m) (h3 : m ≤ 1000000) (hv : (n == t) = v) :
    Calls Try.prog 41 #[.pointer (some ⟨b, 0, none⟩), .int .u64 h, .int .i64 t] w fun e w' => e = .returned (.bool v) ∧ ShardAt w' b te (T.put cint h (m - 1, n) tw) ∧ Chg (· = b) w w' := by
  have HS := Lib.hid hS
  have HM := Lib.hid hm
  obtain ⟨q1, q2, hB, _, hT⟩ := hS
  have HB := Lib.hid hB
  have HT := Lib.hid hT
  have d0 : (m == 0) = false := beq_eq_false_iff_ne.2 (by omega)
  have d1 : (m == 1) = false := beq_eq_false_iff_ne.2 (by omega)
  clear hB hT hm
  go_enter Try.func41, Try.ntmps41
  go_wp2_with fail
  refine (way_any _ _ _ _ _ HS.out hs).mono ?_
  rw [HM.out]
  rintro e w1 ⟨rfl, hE1⟩
  have HA1 := Lib.hid (show Blk (w1.alloc (Obj.cells #[.int .i64 m, .int .i64 n] 83)) w1.heap.size #[.int .i64 m, .int .i64 n] 83 from Blk.new _ _ _)
  have HE1 := Lib.hid (show Ext w (w1.alloc (Obj.cells #[.int .i64 m, .int .i64 n] 83)) from Below.alloc hE1 hE1.size _)
  have hne : w1.heap.size ≠ b := fun e => by have := (HB.out.ext HE1.out); have h1 := HA1.out; rw [e] at h1; unfold Blk at this h1; rw [this] at h1; cases h1
  clear hE1
  go_wp2_with fail
  refine wp_region_segs 15 [([12, 4], false), ([2, 1], true)] (by kernel_rfl) (by kernel_rfl) ?_
  apply segs_cons
  · intro W hW
    have b1 := ((HB.out.ext HE1.out).ext hW.of_drew).cell (i := 1) rfl
    have c0 := (HA1.out.ext hW.of_drew).cell (i := 0) rfl
    have c1 := (HA1.out.ext hW.of_drew).cell (i := 1) rfl
    simp only [runsT, runsF, rep, pick]
    go_wp2_with fail
    exact ⟨rfl, rfl⟩
  simp only [runsT, runsF, rep, left]
  go_wp2_with fail
  refine (TrPe.Put_any h (m - 1, n) _ _ _ ((HT.out.ext HE1.out).ext (Ext.drew _)) (by omega)).mono ?_
  rintro e w2 ⟨q, rfl, hq, hE2⟩
  have HQ := Lib.hid hq
  have HE2 := Lib.hid (Ext.trans HE1.out (Ext.trans (Ext.drew _) hE2))
  have HS2 := Lib.hid (HS.out.ext HE2.out)
  have b2 := (HB.out.ext HE2.out).cell (i := 1) rfl
  have f2 := (HB.out.ext HE2.out).frozen 1
  have a1 := ((HA1.out.ext (Ext.drew _)).ext hE2).cell (i := 1) rfl
  go_wp2_with fail
  refine ⟨fun _ => hE2, ?_⟩
  apply segs_cons
  · intro W hW
    simp only [runsT, runsF, rep, pick]
    go_wp2_with fail
    exact ⟨rfl, rfl⟩
  simp only [runsT, runsF, rep, left]
  go_wp2_with fail
  refine ⟨fun h => (by cases h), ?_⟩
  apply segs_nil
  go_wp2_with fail
  go_ret
  exact ⟨rfl, HS2.out.putWays HQ.out, chg_ext HE2.out (Chg.set _ _ _ _)⟩

set_option maxRecDepth 100000 in
set_option maxHeartbeats 1000000 in
theorem Put_entry (b : Nat) (te : T Int Ent) (tw : T Int (Int × Int)) (h : Int) (v : Ent) (w : World) (hS : ShardAt w b te tw) (hs : te.sz < 1000000) :
    Calls Try.prog 45 #[.pointer (some ⟨b, 0, none⟩), .int .u64 h, .agg #[.int .u64 v.1, .int .i64 v.2.1, .int .i64 v.2.2.1, .int .i64 v.2.2.2.1, .int .i64 v.2.2.2.2.1, .int .i64 v.2.2.2.2.2]] w fun e w' => e = .returned (.tuple #[]) ∧ ShardAt w' b (T.put cint h v te) tw ∧ Chg (· = b) w w' := by
  have HS := Lib.hid hS
  obtain ⟨q1, q2, hB, hT, _⟩ := hS
  have HB := Lib.hid hB
  have HT := Lib.hid hT
  have HA1 := Lib.hid (show Blk (w.alloc (Obj.cells #[.int .u64 v.1, .int .i64 v.2.1, .int .i64 v.2.2.1, .int .i64 v.2.2.2.1, .int .i64 v.2.2.2.2.1, .int .i64 v.2.2.2.2.2] 41)) w.heap.size #[.int .u64 v.1, .int .i64 v.2.1, .int .i64 v.2.2.1, .int .i64 v.2.2.2.1, .int .i64 v.2.2.2.2.1, .int .i64 v.2.2.2.2.2] 41 from Blk.new _ _ _)
  have HE1 := Lib.hid (show Ext w (w.alloc (Obj.cells #[.int .u64 v.1, .int .i64 v.2.1, .int .i64 v.2.2.1, .int .i64 v.2.2.2.1, .int .i64 v.2.2.2.2.1, .int .i64 v.2.2.2.2.2] 41)) from (Below.refl _ _).alloc (Nat.le_refl _) _)
  clear hB hT
  go_enter Try.func45, Try.ntmps45
  go_wp2_with fail
  refine wp_region_segs 10 [([7, 4], false), ([2, 1], true)] (by kernel_rfl) (by kernel_rfl) ?_
  apply segs_cons
  · intro W hW
    have b1 := ((HB.out.ext HE1.out).ext hW.of_drew).cell (i := 0) rfl
    have c0 := (HA1.out.ext hW.of_drew).cell (i := 0) rfl
    have c1 := (HA1.out.ext hW.of_drew).cell (i := 1) rfl
    have c2 := (HA1.out.ext hW.of_drew).cell (i := 2) rfl
    have c3 := (HA1.out.ext hW.of_drew).cell (i := 3) rfl
    have c4 := (HA1.out.ext hW.of_drew).cell (i := 4) rfl
    have c5 := (HA1.out.ext hW.of_drew).cell (i := 5) rfl
    simp only [runsT, runsF, rep, pick]
    go_wp2_with fail
    exact ⟨rfl, rfl⟩
  simp only [runsT, runsF, rep, left]
  go_wp2_with fail
  refine (TrEi.Put_any h v _ _ _ ((HT.out.ext HE1.out).ext (Ext.drew _)) (by omega)).mono ?_
  rintro e w2 ⟨q, rfl, hq, hE2⟩
  have HQ := Lib.hid hq
  have HE2 := Lib.hid (Ext.trans HE1.out (Ext.trans (Ext.drew _) hE2))
  have HS2 := Lib.hid (HS.out.ext HE2.out)
  have b2 := (HB.out.ext HE2.out).cell (i := 0) rfl
  have f2 := (HB.out.ext HE2.out).frozen 0
  go_wp2_with fail
  refine ⟨fun _ => hE2, ?_⟩
  apply segs_cons
  · intro W hW
    simp only [runsT, runsF, rep, pick]
    go_wp2_with fail
    exact ⟨rfl, rfl⟩
  simp only [runsT, runsF, rep, left]
  go_wp2_with fail
  refine ⟨fun h => (by cases h), ?_⟩
  apply segs_nil
  go_wp2_with fail
  go_end0
  exact ⟨rfl, HS2.out.putEntries HQ.out, chg_ext HE2.out (Chg.set _ _ _ _)⟩
theorem Put_nil (h : Int) (v : Ent) (w : World) : Calls Try.prog 45 #[.pointer none, .int .u64 h, .agg #[.int .u64 v.1, .int .i64 v.2.1, .int .i64 v.2.2.1, .int .i64 v.2.2.2.1, .int .i64 v.2.2.2.2.1, .int .i64 v.2.2.2.2.2]] w fun e w' => e = .returned (.tuple #[]) ∧ Ext w w' := by
  go_enter Try.func45, Try.ntmps45
  go_wp2_with fail
  go_end0
  exact ⟨rfl, (Below.refl _ _).alloc (Nat.le_refl _) _⟩

/-- An entry of a hash, or the zero one. -/
def entOf (te : T Int Ent) (h : Int) : Ent := (T.get cint h te).getD zE
set_option maxRecDepth 100000 in
set_option maxHeartbeats 2000000 in
theorem Look_any (b : Nat) (te : T Int Ent) (tw : T Int (Int × Int)) (h : Int) (w : World) (hS : ShardAt w b te tw) (hs : te.sz < 1000000) :
    Calls Try.prog 10 #[.pointer (some ⟨b, 0, none⟩), .int .u64 h] w fun e w' => e = .returned (.tuple #[.agg #[.int .u64 (entOf te h).1, .int .i64 (entOf te h).2.1, .int .i64 (entOf te h).2.2.1, .int .i64 (entOf te h).2.2.2.1, .int .i64 (entOf te h).2.2.2.2.1, .int .i64 (entOf te h).2.2.2.2.2], .bool (T.get cint h te).isSome]) ∧ Ext w w' := by
  obtain ⟨q1, q2, hB, hT, _⟩ := hS
  have hA : Ext w (w.alloc (Obj.cells #[.int .u64 0, .int .i64 0, .int .i64 0, .int .i64 0, .int .i64 0, .int .i64 0] 41)) := (Below.refl _ _).alloc (Nat.le_refl _) _
  have HR := Lib.hid (show Blk (w.alloc (Obj.cells #[.int .u64 0, .int .i64 0, .int .i64 0, .int .i64 0, .int .i64 0, .int .i64 0] 41)) w.heap.size #[.int .u64 0, .int .i64 0, .int .i64 0, .int .i64 0, .int .i64 0, .int .i64 0] 41 from Blk.new _ _ _)
  have b1 := (hB.ext hA).cell (i := 0) rfl
  have HT := Lib.hid (hT.ext hA)
  clear hB hT
  go_enter Try.func10, Try.ntmps10
  go_wp2_with fail
  refine (TrEi.Get_any _ _ _ _ HT.out (by omega)).mono ?_
  rintro e w1 ⟨he, hE⟩
  have z0 := (HR.out.ext hE).cell (i := 0) rfl
  have y0 := (HR.out.ext hE).frozen 0
  have z1 := (HR.out.ext hE).cell (i := 1) rfl
  have y1 := (HR.out.ext hE).frozen 1
  have z2 := (HR.out.ext hE).cell (i := 2) rfl
  have y2 := (HR.out.ext hE).frozen 2
  have z3 := (HR.out.ext hE).cell (i := 3) rfl
  have y3 := (HR.out.ext hE).frozen 3
  have z4 := (HR.out.ext hE).cell (i := 4) rfl
  have y4 := (HR.out.ext hE).frozen 4
  have z5 := (HR.out.ext hE).cell (i := 5) rfl
  have y5 := (HR.out.ext hE).frozen 5
  have HE := Lib.hid (below_ext hA hE)
  clear b1
  cases hg : T.get cint h te with
  | none =>
    rw [hg] at he
    obtain rfl := he
    have hw : entOf te h = zE := by unfold entOf; rw [hg]; rfl
    have HW := Lib.hid hw
    have HG := Lib.hid hg
    clear hg hw
    go_wp2_with fail
    (try simp only [Exit.inBlock, Exit.then])
    refine bodyPost_ret (v := .tuple #[.agg #[.int .u64 0, .int .i64 0, .int .i64 0, .int .i64 0, .int .i64 0, .int .i64 0], .bool false]) ?_ rfl ?_
    · rw [results_cell_tmp rfl]
      go_simp
    rw [HW.out, HG.out]
    refine ⟨rfl, ?_⟩
    repeat (first | (refine Below.setCell ?_ (by simp) _) | (refine Below.alloc ?_ (by have := HE.out.size; simp; omega) _))
    exact HE.out
  | some v =>
    rw [hg] at he
    obtain rfl := he
    have hw : entOf te h = v := by unfold entOf; rw [hg]; rfl
    have HW := Lib.hid hw
    have HG := Lib.hid hg
    clear hg hw
    go_wp2_with fail
    (try simp only [Exit.inBlock, Exit.then])
    refine bodyPost_ret (v := .tuple #[.agg #[.int .u64 v.1, .int .i64 v.2.1, .int .i64 v.2.2.1, .int .i64 v.2.2.2.1, .int .i64 v.2.2.2.2.1, .int .i64 v.2.2.2.2.2], .bool true]) ?_ rfl ?_
    · rw [results_cell_tmp rfl]
      go_simp
    rw [HW.out, HG.out]
    refine ⟨rfl, ?_⟩
    repeat (first | (refine Below.setCell ?_ (by simp) _) | (refine Below.alloc ?_ (by have := HE.out.size; simp; omega) _))
    exact HE.out
theorem Look_nil (h : Int) (w : World) : Calls Try.prog 10 #[.pointer none, .int .u64 h] w fun e w' => e = .returned (.tuple #[.agg #[.int .u64 0, .int .i64 0, .int .i64 0, .int .i64 0, .int .i64 0, .int .i64 0], .bool false]) ∧ Ext w w' := by
  go_enter Try.func10, Try.ntmps10
  go_wp2_with fail
  (try simp only [Exit.inBlock, Exit.then])
  refine bodyPost_ret (v := .tuple #[.agg #[.int .u64 0, .int .i64 0, .int .i64 0, .int .i64 0, .int .i64 0, .int .i64 0], .bool false]) ?_ rfl ?_
  · rw [results_cell_tmp rfl]
    go_simp
  refine ⟨rfl, ?_⟩
  repeat (first | (refine Below.setCell ?_ (by simp) _) | (refine Below.alloc ?_ (by simp) _))
  exact Below.refl _ _

end Go.Proofs.Ytnpfikabcmngpaa.ShI
