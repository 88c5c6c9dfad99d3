/-
  Law 22's do: a step on both, whatever its kind.
  Fewer than 1,000 steps; no other condition.
-/
import Derived.Test.YtnpfikabcmngpaaShU
namespace Go.Proofs.Ytnpfikabcmngpaa.ShP
open Go.RowKit Go.Seg Go.Open Go.Lib Rk Go.Row ShR

/-- What a step leaves. -/
def DoPost (k : Int) (b B : Nat) (w : World) (e : Ending) (w' : World) : Prop := ∃ uL uW te tw Wy, e = .returned (.tuple #[.agg #[uL, uW], .bool true]) ∧ ShI.ShardAt w' b te tw ∧ XAt w' B uL uW te.toL Wy ∧ Inv (k + 1) te tw Wy ∧ Chg (· = b) w w'
/-- What lies there while a step goes on: its own three blocks, the shard, the rows. -/
structure Mid (w : World) (b B : Nat) (uL uW : Value) (te : T Int En) (tw : T Int (Int × Int)) (L : List (Int × En)) (Wy : List (Int × Int × Int)) (c0 c1 c2 : Array Value) (W : World) : Prop where
  sh : ShI.ShardAt W b te tw
  x : XAt W B uL uW L Wy
  b0 : Blk W w.heap.size c0 30
  b1 : Blk W (w.heap.size + 1) c1 37
  b2 : Blk W (w.heap.size + 1 + 1) c2 30
  ch : Chg (· = b) w W
  lt : b < w.heap.size
variable {w : World} {b B : Nat} {uL uW : Value} {te : T Int En} {tw : T Int (Int × Int)} {L : List (Int × En)} {Wy : List (Int × Int × Int)} {c0 c1 c2 : Array Value}
theorem Mid.ext {W W' : World} (h : Mid w b B uL uW te tw L Wy c0 c1 c2 W) (e : Ext W W') : Mid w b B uL uW te tw L Wy c0 c1 c2 W' :=
  ⟨h.sh.ext e, h.x.ext e, h.b0.ext e, h.b1.ext e, h.b2.ext e, h.ch.trans (Chg.of_below e), h.lt⟩
theorem Mid.shard {W W' : World} {te' : T Int En} {tw' : T Int (Int × Int)} (h : Mid w b B uL uW te tw L Wy c0 c1 c2 W) (hS : ShI.ShardAt W' b te' tw') (hc : Chg (· = b) W W') : Mid w b B uL uW te' tw' L Wy c0 c1 c2 W' := by
  obtain ⟨cs, hb⟩ := h.sh.blk
  exact ⟨hS, h.x.shard h.sh hc, h.b0.chg hc (.one hb (by decide)), h.b1.chg hc (.one hb (by decide)), h.b2.chg hc (.one hb (by decide)), h.ch.trans hc, h.lt⟩
theorem Mid.rows {W : World} {uL' uW' : Value} {L' : List (Int × En)} {Wy' : List (Int × Int × Int)} (h : Mid w b B uL uW te tw L Wy c0 c1 c2 W) (hX : XAt W B uL' uW' L' Wy') : Mid w b B uL' uW' te tw L' Wy' c0 c1 c2 W := ⟨h.sh, hX, h.b0, h.b1, h.b2, h.ch, h.lt⟩
theorem Mid.res {W : World} (v0 v1 : Value) (h : Mid w b B uL uW te tw L Wy c0 c1 #[v0, v1] W) (a0 a1 : Value) : Mid w b B uL uW te tw L Wy c0 c1 #[a0, a1] ((W.setCell ⟨w.heap.size + 1 + 1, 0, none⟩ a0).setCell ⟨w.heap.size + 1 + 1, 1, none⟩ a1) := by
  have hc := (Chg.set W (w.heap.size + 1 + 1) 0 a0).trans (Chg.set _ (w.heap.size + 1 + 1) 1 a1)
  have ne : ∀ {b' : Nat} {cs : Array Value} {E : TypeId}, Blk W b' cs E → b' ≠ w.heap.size + 1 + 1 → Blk ((W.setCell ⟨w.heap.size + 1 + 1, 0, none⟩ a0).setCell ⟨w.heap.size + 1 + 1, 1, none⟩ a1) b' cs E := fun {b' cs E} hb hn => by
    have hl := hb.lt
    unfold Blk at *
    rw [hc.block b' hl hn]; exact hb
  exact ⟨h.sh.one hc h.b2 (by decide), h.x.one hc h.b2 (by decide) (by decide), ne h.b0 (by omega), ne h.b1 (by omega), (h.b2.set 0 a0 rfl).set 1 a1 rfl, h.ch.onNew hc (by omega), h.lt⟩
/-- Only the shard's block, and the result's, are turned. -/
def Cls (b r : Nat) (Wr W : World) : Prop := Chg (fun i => i = b ∨ i = r) Wr W
theorem Cls.ext {b r : Nat} {Wr W W' : World} (h : Cls b r Wr W) (e : Ext W W') : Cls b r Wr W' := h.trans (Chg.of_below e)
theorem Cls.chg {b r : Nat} {Wr W W' : World} (h : Cls b r Wr W) (e : Chg (· = b) W W') : Cls b r Wr W' := h.trans (e.mono fun _ h => .inl h)
theorem Cls.res {b r : Nat} {Wr W W' : World} (h : Cls b r Wr W) (e : Chg (· = r) W W') : Cls b r Wr W' := h.trans (e.mono fun _ h => .inr h)
theorem Cls.blk {b r k : Nat} {Wr W : World} {cs : Array Value} {E : TypeId} (h : Cls b r Wr W) (hb : Blk Wr k cs E) (h1 : k ≠ b) (h2 : k ≠ r) : Blk W k cs E := by
  have hl := hb.lt
  unfold Blk at *
  rw [h.block k hl (fun e => e.elim h1 h2)]; exact hb
/-- A block of one's own besides. -/
theorem Mid.lt2 {W : World} (h : Mid w b B uL uW te tw L Wy c0 c1 c2 W) : w.heap.size + 1 + 1 < W.heap.size := h.b2.lt

set_option maxRecDepth 100000 in
set_option maxHeartbeats 4000000 in
theorem do_put (b B : Nat) (uL uW : Value) (te : T Int En) (tw : T Int (Int × Int)) (Wy : List (Int × Int × Int)) (k u : Int) (x : Int × En) (w : World) (hS : ShI.ShardAt w b te tw) (hX : XAt w B uL uW te.toL Wy) (hI : Inv k te tw Wy) (hk : k ≤ 900) (hu0 : 0 ≤ u) (hu1 : u ≤ 18446744073709551615) (hu : u % 7 = 0) :
    Calls Try.prog 9 #[.pointer (some ⟨b, 0, none⟩), .agg #[uL, uW], .agg #[.int .u64 u, .int .u64 x.1, .int .u64 x.2.1, .int .i64 x.2.2.1, .int .i64 x.2.2.2.1, .int .i64 x.2.2.2.2.1, .int .i64 x.2.2.2.2.2.1, .int .i64 x.2.2.2.2.2.2]] w (DoPost k b B w) := by
  obtain ⟨a, cap, rfl⟩ := hX.l.val
  obtain ⟨a2, cap2, rfl⟩ := hX.y.val
  have d0 : (u % 7 == 0) = true := by have := hu; simp at this ⊢; omega
  have hlb : b < w.heap.size := by obtain ⟨cs, hb⟩ := hS.blk; exact hb.lt
  have HI := Lib.hid hI
  have HS := Lib.hid hS
  have HX := Lib.hid hX
  clear hS hX hI hu
  go_enter Try.func9, Try.ntmps9
  go_wp2_with fail
  obtain ⟨W0, hW0⟩ : ∃ W, (((w.alloc (Obj.cells #[.slice a te.toL.length cap, .slice a2 Wy.length cap2] 30)).alloc (Obj.cells #[.int .u64 u, .int .u64 x.1, .int .u64 x.2.1, .int .i64 x.2.2.1, .int .i64 x.2.2.2.1, .int .i64 x.2.2.2.2.1, .int .i64 x.2.2.2.2.2.1, .int .i64 x.2.2.2.2.2.2] 37)).alloc (Obj.cells #[.slice none 0 0, .slice none 0 0] 30)) = W := ⟨_, rfl⟩
  have hE0 : Ext w W0 := by rw [← hW0]; exact (((Below.refl _ _).alloc (Nat.le_refl _) _).alloc (by simp) _).alloc (by simp; omega) _
  have hB0 : Blk W0 w.heap.size #[.slice a te.toL.length cap, .slice a2 Wy.length cap2] 30 := by rw [← hW0]; exact ((Blk.new _ _ _).ext ((Below.refl _ _).alloc (Nat.le_refl _) _)).ext ((Below.refl _ _).alloc (Nat.le_refl _) _)
  have hB1 : Blk W0 (w.heap.size + 1) #[.int .u64 u, .int .u64 x.1, .int .u64 x.2.1, .int .i64 x.2.2.1, .int .i64 x.2.2.2.1, .int .i64 x.2.2.2.2.1, .int .i64 x.2.2.2.2.2.1, .int .i64 x.2.2.2.2.2.2] 37 := by rw [← hW0]; exact (blk_at (by simp)).ext ((Below.refl _ _).alloc (Nat.le_refl _) _)
  have hB2 : Blk W0 (w.heap.size + 1 + 1) #[.slice none 0 0, .slice none 0 0] 30 := by rw [← hW0]; exact blk_at (by simp)
  rw [hW0]
  have hcp : ∀ i, W0.cell? ⟨w.heap.size + 1, i, none⟩ = (#[.int .u64 u, .int .u64 x.1, .int .u64 x.2.1, .int .i64 x.2.2.1, .int .i64 x.2.2.2.1, .int .i64 x.2.2.2.2.1, .int .i64 x.2.2.2.2.2.1, .int .i64 x.2.2.2.2.2.2] : Array Value)[i]? := fun i => hB1.cells i
  have HM0 := Lib.hid (show Mid w b B _ _ te tw te.toL Wy _ _ _ W0 from ⟨HS.out.ext hE0, HX.out.ext hE0, hB0, hB1, hB2, Chg.of_below hE0, hlb⟩)
  have hcx : ∀ i, W0.cell? ⟨w.heap.size, i, none⟩ = (#[.slice a te.toL.length cap, .slice a2 Wy.length cap2] : Array Value)[i]? := fun i => hB0.cells i
  have hlt0 := HM0.out.lt2
  have hlt1 : w.heap.size + 1 < W0.heap.size := by omega
  have hlt2 : w.heap.size < W0.heap.size := by omega
  have E01 : Ext W0 (W0.drew.alloc (Obj.cells #[.int .u64 x.1, .int .u64 x.2.1] 39)) := (Ext.drew W0).trans ((Below.refl _ _).alloc (Nat.le_refl _) _)
  clear hW0 hE0 hB0 hB1 hB2 HS HX
  refine wp_region_segsK [([2, 1, 2, 3], 0, 0), ([4], 2, 8)] (by kernel_rfl) (by kernel_rfl) ?_
  apply segsK_pure
  · intro W
    simp only [runsT, runsF, rep, pick]
    go_wp2_with fail
    exact ⟨rfl, rfl⟩
  simp only [runsT, runsF, rep, left]
  apply segsK_look
  · simp only [runsT, runsF, rep, pick]
    go_wp2_with fail
    exact ⟨rfl, rfl⟩
  simp only [runsT, runsF, rep, left]
  apply segsK_nil
  go_wp2_with fail
  refine (of_any x _).mono ?_
  rintro e w1 ⟨rfl, hE1⟩
  have HM1 := Lib.hid (HM0.out.ext (E01.trans hE1))
  clear hE1
  go_wp2_with fail
  refine (ShI.Put_entry b te tw x.1 x.2 _ HM1.out.sh (by have := HI.out.se; omega)).mono ?_
  rintro e w2 ⟨rfl, hS2, hC2⟩
  have HM2 := Lib.hid (HM1.out.shard hS2 hC2)
  clear hS2 hC2
  have hcp2 : ∀ i, w2.cell? ⟨w.heap.size + 1, i, none⟩ = (#[.int .u64 u, .int .u64 x.1, .int .u64 x.2.1, .int .i64 x.2.2.1, .int .i64 x.2.2.2.1, .int .i64 x.2.2.2.2.1, .int .i64 x.2.2.2.2.2.1, .int .i64 x.2.2.2.2.2.2] : Array Value)[i]? := fun i => HM2.out.b1.cells i
  have hcx2 : ∀ i, w2.cell? ⟨w.heap.size, i, none⟩ = (#[.slice a te.toL.length cap, .slice a2 Wy.length cap2] : Array Value)[i]? := fun i => HM2.out.b0.cells i
  go_wp2_with fail
  refine (uPutD _ _ B x _ HM2.out.x HI.out (by omega)).mono ?_
  rintro e w3 ⟨uL', rfl, hX3, hE3⟩
  obtain ⟨a3, cap3, rfl⟩ := hX3.l.val
  have HM3 := Lib.hid ((HM2.out.ext hE3).rows hX3)
  clear hX3 hE3
  have hcr : ∀ i, w3.cell? ⟨w.heap.size + 1 + 1, i, none⟩ = (#[.slice none 0 0, .slice none 0 0] : Array Value)[i]? := fun i => HM3.out.b2.cells i
  have hfr : ∀ i, w3.frozen? ⟨w.heap.size + 1 + 1, i, none⟩ = false := fun i => HM3.out.b2.frozen i
  have HMz := Lib.hid (HM3.out.res _ _ (.slice a3 (T.put cint x.1 x.2 te).toL.length cap3) (.slice a2 Wy.length cap2))
  go_wp2_with fail
  (try simp only [Exit.inBlock, Exit.then])
  refine bodyPost_ret (results_struct (ty := 30) rfl rfl rfl (c := #[.slice a3 (T.put cint x.1 x.2 te).toL.length cap3, .slice a2 Wy.length cap2]) HMz.out.b2 (by kernel_rfl) (by kernel_rfl)) rfl ?_
  exact ⟨_, _, _, _, _, rfl, HMz.out.sh, HMz.out.x, (HI.out.put x.1 x.2), HMz.out.ch⟩

set_option maxRecDepth 100000 in
set_option maxHeartbeats 4000000 in
theorem do_wait (b B : Nat) (uL uW : Value) (te : T Int En) (tw : T Int (Int × Int)) (Wy : List (Int × Int × Int)) (k u : Int) (x : Int × En) (w : World) (hS : ShI.ShardAt w b te tw) (hX : XAt w B uL uW te.toL Wy) (hI : Inv k te tw Wy) (hk : k ≤ 900) (hu0 : 0 ≤ u) (hu1 : u ≤ 18446744073709551615) (hu : u % 7 = 4) :
    Calls Try.prog 9 #[.pointer (some ⟨b, 0, none⟩), .agg #[uL, uW], .agg #[.int .u64 u, .int .u64 x.1, .int .u64 x.2.1, .int .i64 x.2.2.1, .int .i64 x.2.2.2.1, .int .i64 x.2.2.2.2.1, .int .i64 x.2.2.2.2.2.1, .int .i64 x.2.2.2.2.2.2]] w (DoPost k b B w) := by
  obtain ⟨a, cap, rfl⟩ := hX.l.val
  obtain ⟨a2, cap2, rfl⟩ := hX.y.val
  have d0 : (u % 7 == 0) = false := by have := hu; simp at this ⊢; omega
  have d1 : (u % 7 == 1) = false := by have := hu; simp at this ⊢; omega
  have d2 : (u % 7 == 2) = false := by have := hu; simp at this ⊢; omega
  have d3 : (u % 7 == 3) = false := by have := hu; simp at this ⊢; omega
  have d4 : (u % 7 == 4) = true := by have := hu; simp at this ⊢; omega
  have hlb : b < w.heap.size := by obtain ⟨cs, hb⟩ := hS.blk; exact hb.lt
  have HI := Lib.hid hI
  have HS := Lib.hid hS
  have HX := Lib.hid hX
  clear hS hX hI hu
  go_enter Try.func9, Try.ntmps9
  go_wp2_with fail
  obtain ⟨W0, hW0⟩ : ∃ W, (((w.alloc (Obj.cells #[.slice a te.toL.length cap, .slice a2 Wy.length cap2] 30)).alloc (Obj.cells #[.int .u64 u, .int .u64 x.1, .int .u64 x.2.1, .int .i64 x.2.2.1, .int .i64 x.2.2.2.1, .int .i64 x.2.2.2.2.1, .int .i64 x.2.2.2.2.2.1, .int .i64 x.2.2.2.2.2.2] 37)).alloc (Obj.cells #[.slice none 0 0, .slice none 0 0] 30)) = W := ⟨_, rfl⟩
  have hE0 : Ext w W0 := by rw [← hW0]; exact (((Below.refl _ _).alloc (Nat.le_refl _) _).alloc (by simp) _).alloc (by simp; omega) _
  have hB0 : Blk W0 w.heap.size #[.slice a te.toL.length cap, .slice a2 Wy.length cap2] 30 := by rw [← hW0]; exact ((Blk.new _ _ _).ext ((Below.refl _ _).alloc (Nat.le_refl _) _)).ext ((Below.refl _ _).alloc (Nat.le_refl _) _)
  have hB1 : Blk W0 (w.heap.size + 1) #[.int .u64 u, .int .u64 x.1, .int .u64 x.2.1, .int .i64 x.2.2.1, .int .i64 x.2.2.2.1, .int .i64 x.2.2.2.2.1, .int .i64 x.2.2.2.2.2.1, .int .i64 x.2.2.2.2.2.2] 37 := by rw [← hW0]; exact (blk_at (by simp)).ext ((Below.refl _ _).alloc (Nat.le_refl _) _)
  have hB2 : Blk W0 (w.heap.size + 1 + 1) #[.slice none 0 0, .slice none 0 0] 30 := by rw [← hW0]; exact blk_at (by simp)
  rw [hW0]
  have hcp : ∀ i, W0.cell? ⟨w.heap.size + 1, i, none⟩ = (#[.int .u64 u, .int .u64 x.1, .int .u64 x.2.1, .int .i64 x.2.2.1, .int .i64 x.2.2.2.1, .int .i64 x.2.2.2.2.1, .int .i64 x.2.2.2.2.2.1, .int .i64 x.2.2.2.2.2.2] : Array Value)[i]? := fun i => hB1.cells i
  have HM0 := Lib.hid (show Mid w b B _ _ te tw te.toL Wy _ _ _ W0 from ⟨HS.out.ext hE0, HX.out.ext hE0, hB0, hB1, hB2, Chg.of_below hE0, hlb⟩)
  have hcx : ∀ i, W0.cell? ⟨w.heap.size, i, none⟩ = (#[.slice a te.toL.length cap, .slice a2 Wy.length cap2] : Array Value)[i]? := fun i => hB0.cells i
  have hlt0 := HM0.out.lt2
  have hlt1 : w.heap.size + 1 < W0.heap.size := by omega
  have hlt2 : w.heap.size < W0.heap.size := by omega
  have E01 : Ext W0 (W0.drew.alloc (Obj.cells #[.int .u64 x.1, .int .u64 x.2.1] 39)) := (Ext.drew W0).trans ((Below.refl _ _).alloc (Nat.le_refl _) _)
  clear hW0 hE0 hB0 hB1 hB2 HS HX
  refine wp_region_segsK [([2, 1, 2, 3], 0, 0), ([4], 2, 8)] (by kernel_rfl) (by kernel_rfl) ?_
  apply segsK_pure
  · intro W
    simp only [runsT, runsF, rep, pick]
    go_wp2_with fail
    exact ⟨rfl, rfl⟩
  simp only [runsT, runsF, rep, left]
  apply segsK_look
  · simp only [runsT, runsF, rep, pick]
    go_wp2_with fail
    exact ⟨rfl, rfl⟩
  simp only [runsT, runsF, rep, left]
  apply segsK_nil
  go_wp2_with fail
  refine (uWaitP b x.1 x.2.2.2.2.2.1 _ (HM0.out.ext E01).sh HI.out (by omega)).mono ?_
  rintro e w2 ⟨rfl, hS2, hC2⟩
  have HM2 := Lib.hid ((HM0.out.ext E01).shard hS2 hC2)
  clear hS2 hC2
  have hcx2 : ∀ i, w2.cell? ⟨w.heap.size, i, none⟩ = (#[.slice a te.toL.length cap, .slice a2 Wy.length cap2] : Array Value)[i]? := fun i => HM2.out.b0.cells i
  go_wp2_with fail
  refine (uWaitD _ _ B x.1 x.2.2.2.2.2.1 _ HM2.out.x HI.out (by omega)).mono ?_
  rintro e w3 ⟨uW', rfl, hX3, hE3⟩
  obtain ⟨a3, cap3, rfl⟩ := hX3.y.val
  have HM3 := Lib.hid ((HM2.out.ext hE3).rows hX3)
  clear hX3 hE3
  have hcr : ∀ i, w3.cell? ⟨w.heap.size + 1 + 1, i, none⟩ = (#[.slice none 0 0, .slice none 0 0] : Array Value)[i]? := fun i => HM3.out.b2.cells i
  have hfr : ∀ i, w3.frozen? ⟨w.heap.size + 1 + 1, i, none⟩ = false := fun i => HM3.out.b2.frozen i
  have HMz := Lib.hid (HM3.out.res _ _ (.slice a te.toL.length cap) (.slice a3 (setR Wy (x.1, (ShI.wayOf tw x.1).1 + 1, x.2.2.2.2.2.1)).length cap3))
  go_wp2_with fail
  (try simp only [Exit.inBlock, Exit.then])
  refine bodyPost_ret (results_struct (ty := 30) rfl rfl rfl (c := #[.slice a te.toL.length cap, .slice a3 (setR Wy (x.1, (ShI.wayOf tw x.1).1 + 1, x.2.2.2.2.2.1)).length cap3]) HMz.out.b2 (by kernel_rfl) (by kernel_rfl)) rfl ?_
  exact ⟨_, _, _, _, _, rfl, HMz.out.sh, HMz.out.x, (HI.out.wait x.1 x.2.2.2.2.2.1), HMz.out.ch⟩

set_option maxRecDepth 100000 in
set_option maxHeartbeats 4000000 in
theorem do_renew (b B : Nat) (uL uW : Value) (te : T Int En) (tw : T Int (Int × Int)) (Wy : List (Int × Int × Int)) (k u : Int) (x : Int × En) (w : World) (hS : ShI.ShardAt w b te tw) (hX : XAt w B uL uW te.toL Wy) (hI : Inv k te tw Wy) (hk : k ≤ 900) (hu0 : 0 ≤ u) (hu1 : u ≤ 18446744073709551615) (hu : u % 7 = 1) :
    Calls Try.prog 9 #[.pointer (some ⟨b, 0, none⟩), .agg #[uL, uW], .agg #[.int .u64 u, .int .u64 x.1, .int .u64 x.2.1, .int .i64 x.2.2.1, .int .i64 x.2.2.2.1, .int .i64 x.2.2.2.2.1, .int .i64 x.2.2.2.2.2.1, .int .i64 x.2.2.2.2.2.2]] w (DoPost k b B w) := by
  obtain ⟨a, cap, rfl⟩ := hX.l.val
  obtain ⟨a2, cap2, rfl⟩ := hX.y.val
  have d0 : (u % 7 == 0) = false := by have := hu; simp at this ⊢; omega
  have d1 : (u % 7 == 1) = true := by have := hu; simp at this ⊢; omega
  have hlb : b < w.heap.size := by obtain ⟨cs, hb⟩ := hS.blk; exact hb.lt
  have HI := Lib.hid hI
  have HS := Lib.hid hS
  have HX := Lib.hid hX
  clear hS hX hI hu
  go_enter Try.func9, Try.ntmps9
  go_wp2_with fail
  obtain ⟨W0, hW0⟩ : ∃ W, (((w.alloc (Obj.cells #[.slice a te.toL.length cap, .slice a2 Wy.length cap2] 30)).alloc (Obj.cells #[.int .u64 u, .int .u64 x.1, .int .u64 x.2.1, .int .i64 x.2.2.1, .int .i64 x.2.2.2.1, .int .i64 x.2.2.2.2.1, .int .i64 x.2.2.2.2.2.1, .int .i64 x.2.2.2.2.2.2] 37)).alloc (Obj.cells #[.slice none 0 0, .slice none 0 0] 30)) = W := ⟨_, rfl⟩
  have hE0 : Ext w W0 := by rw [← hW0]; exact (((Below.refl _ _).alloc (Nat.le_refl _) _).alloc (by simp) _).alloc (by simp; omega) _
  have hB0 : Blk W0 w.heap.size #[.slice a te.toL.length cap, .slice a2 Wy.length cap2] 30 := by rw [← hW0]; exact ((Blk.new _ _ _).ext ((Below.refl _ _).alloc (Nat.le_refl _) _)).ext ((Below.refl _ _).alloc (Nat.le_refl _) _)
  have hB1 : Blk W0 (w.heap.size + 1) #[.int .u64 u, .int .u64 x.1, .int .u64 x.2.1, .int .i64 x.2.2.1, .int .i64 x.2.2.2.1, .int .i64 x.2.2.2.2.1, .int .i64 x.2.2.2.2.2.1, .int .i64 x.2.2.2.2.2.2] 37 := by rw [← hW0]; exact (blk_at (by simp)).ext ((Below.refl _ _).alloc (Nat.le_refl _) _)
  have hB2 : Blk W0 (w.heap.size + 1 + 1) #[.slice none 0 0, .slice none 0 0] 30 := by rw [← hW0]; exact blk_at (by simp)
  rw [hW0]
  have hcp : ∀ i, W0.cell? ⟨w.heap.size + 1, i, none⟩ = (#[.int .u64 u, .int .u64 x.1, .int .u64 x.2.1, .int .i64 x.2.2.1, .int .i64 x.2.2.2.1, .int .i64 x.2.2.2.2.1, .int .i64 x.2.2.2.2.2.1, .int .i64 x.2.2.2.2.2.2] : Array Value)[i]? := fun i => hB1.cells i
  have HM0 := Lib.hid (show Mid w b B _ _ te tw te.toL Wy _ _ _ W0 from ⟨HS.out.ext hE0, HX.out.ext hE0, hB0, hB1, hB2, Chg.of_below hE0, hlb⟩)
  have hcx : ∀ i, W0.cell? ⟨w.heap.size, i, none⟩ = (#[.slice a te.toL.length cap, .slice a2 Wy.length cap2] : Array Value)[i]? := fun i => hB0.cells i
  have hlt0 := HM0.out.lt2
  have hlt1 : w.heap.size + 1 < W0.heap.size := by omega
  have hlt2 : w.heap.size < W0.heap.size := by omega
  have E01 : Ext W0 (W0.drew.alloc (Obj.cells #[.int .u64 x.1, .int .u64 x.2.1] 39)) := (Ext.drew W0).trans ((Below.refl _ _).alloc (Nat.le_refl _) _)
  clear hW0 hE0 hB0 hB1 hB2 HS HX
  refine wp_region_segsK [([2, 1, 2, 3], 0, 0), ([4], 2, 8)] (by kernel_rfl) (by kernel_rfl) ?_
  apply segsK_pure
  · intro W
    simp only [runsT, runsF, rep, pick]
    go_wp2_with fail
    exact ⟨rfl, rfl⟩
  simp only [runsT, runsF, rep, left]
  apply segsK_look
  · simp only [runsT, runsF, rep, pick]
    go_wp2_with fail
    exact ⟨rfl, rfl⟩
  simp only [runsT, runsF, rep, left]
  apply segsK_nil
  go_wp2_with fail
  refine (uRenewD _ _ B x _ (HM0.out.ext E01).x HI.out (by omega)).mono ?_
  rintro e w1 ⟨uL', rfl, hX1, hE1⟩
  obtain ⟨a3, cap3, rfl⟩ := hX1.l.val
  have hst := Go.run_storeCells_new (P := Try.prog) w1 30 #[.slice none 0 0, .slice none 0 0] #[.slice a3 (renT te x).toL.length cap3, .slice a2 Wy.length cap2] (by kernel_rfl) rfl (by simp [Value.oneCell'])
  have hM1 := ((HM0.out.ext (E01.trans hE1)).rows hX1)
  have hl1 := hM1.lt2
  clear hE1 hX1
  have HM1 := Lib.hid hM1
  clear hM1
  go_wp2_with fail
  obtain ⟨Wr, hWr⟩ : ∃ W, w1.alloc (.cells #[.slice a3 (renT te x).toL.length cap3, .slice a2 Wy.length cap2] 30) = W := ⟨_, rfl⟩
  have hEr : Ext w1 Wr := by rw [← hWr]; exact (Below.refl _ _).alloc (Nat.le_refl _) _
  have hN : Blk Wr w1.heap.size #[.slice a3 (renT te x).toL.length cap3, .slice a2 Wy.length cap2] 30 := by rw [← hWr]; exact Blk.new _ _ _
  rw [hWr]
  have HMr := Lib.hid (HM1.out.ext hEr)
  have HN := Lib.hid hN
  have hlr := hN.lt
  clear hWr hEr hN hst
  refine wp_region_segsE (Cls b (w.heap.size + 1 + 1) Wr) (.quiet [5, 2, 1, 3] (.alt 0 (.alt 0 (.quiet [1, 2] (.alt 0 (.quiet [1] .done) .stop)) .stop) .stop)) (by kernel_rfl) (by kernel_rfl) (Chg.of_below (Ext.drew Wr)) ?_
  apply segE_quiet
  · intro W hW
    have hcn : ∀ i, W.cell? ⟨w1.heap.size, i, none⟩ = (#[.slice a3 (renT te x).toL.length cap3, .slice a2 Wy.length cap2] : Array Value)[i]? := fun i => (hW.blk HN.out (by omega) (by omega)).cells i
    have hcs : ∀ i, W.cell? ⟨w.heap.size + 1, i, none⟩ = (#[.int .u64 u, .int .u64 x.1, .int .u64 x.2.1, .int .i64 x.2.2.1, .int .i64 x.2.2.2.1, .int .i64 x.2.2.2.2.1, .int .i64 x.2.2.2.2.2.1, .int .i64 x.2.2.2.2.2.2] : Array Value)[i]? := fun i => (hW.blk HMr.out.b1 (by omega) (by omega)).cells i
    simp only [runsT, runsF, rep, pick]
    go_wp2_with fail
    exact ⟨rfl, rfl⟩
  simp only [runsT, runsF, rep, left]
  refine segE_alt _ rfl ?_ ?_
  · skip
    go_wp2_with fail
    refine (of_any x _).mono ?_
    rintro e w3 ⟨rfl, hE3⟩
    have HM3 := Lib.hid ((HMr.out.ext (Ext.drew _)).ext hE3)
    have HC3 := Lib.hid (show Cls b (w.heap.size + 1 + 1) Wr w3 from Chg.of_below ((Ext.drew Wr).trans hE3))
    clear hE3
    go_wp2_with fail
    refine ⟨HC3.out, ?_⟩
    try dsimp only [List.eraseIdx]
    refine segE_alt _ rfl ?_ ?_
    · skip
      go_wp2_with fail
      refine (uRenewP b x _ (HM3.out).sh HI.out (by omega)).mono ?_
      rintro e w4 ⟨rfl, hS4, hC4⟩
      have HM4 := Lib.hid ((HM3.out).shard hS4 hC4)
      have HC4 := Lib.hid (show Cls b (w.heap.size + 1 + 1) Wr w4 from HC3.out.chg hC4)
      clear hS4 hC4
      have hcr : ∀ i, w4.cell? ⟨w.heap.size + 1 + 1, i, none⟩ = (#[.slice none 0 0, .slice none 0 0] : Array Value)[i]? := fun i => HM4.out.b2.cells i
      have hfr : ∀ i, w4.frozen? ⟨w.heap.size + 1 + 1, i, none⟩ = false := fun i => HM4.out.b2.frozen i
      go_wp2_with fail
      refine ⟨HC4.out, ?_⟩
      try dsimp only [List.eraseIdx]
      apply segE_quiet
      · intro W hW
        have hcn : ∀ i, W.cell? ⟨w1.heap.size, i, none⟩ = (#[.slice a3 (renT te x).toL.length cap3, .slice a2 Wy.length cap2] : Array Value)[i]? := fun i => (hW.blk HN.out (by omega) (by omega)).cells i
        have hcs : ∀ i, W.cell? ⟨w.heap.size + 1, i, none⟩ = (#[.int .u64 u, .int .u64 x.1, .int .u64 x.2.1, .int .i64 x.2.2.1, .int .i64 x.2.2.2.1, .int .i64 x.2.2.2.2.1, .int .i64 x.2.2.2.2.2.1, .int .i64 x.2.2.2.2.2.2] : Array Value)[i]? := fun i => (hW.blk HMr.out.b1 (by omega) (by omega)).cells i
        simp only [runsT, runsF, rep, pick]
        go_wp2_with fail
        exact ⟨rfl, rfl⟩
      simp only [runsT, runsF, rep, left]
      refine segE_alt _ rfl ?_ ?_
      · skip
        go_wp2_with fail
        have HM5 := Lib.hid (HM4.out.res _ _ (.slice a3 (renT te x).toL.length cap3) (.slice a2 Wy.length cap2))
        have HC5 := Lib.hid (HC4.out.res ((Chg.set w4 (w.heap.size + 1 + 1) 0 (.slice a3 (renT te x).toL.length cap3)).trans (Chg.set _ (w.heap.size + 1 + 1) 1 (.slice a2 Wy.length cap2))))
        refine ⟨HC5.out, ?_⟩
        try dsimp only [List.eraseIdx]
        apply segE_quiet
        · intro W hW
          have hcn : ∀ i, W.cell? ⟨w1.heap.size, i, none⟩ = (#[.slice a3 (renT te x).toL.length cap3, .slice a2 Wy.length cap2] : Array Value)[i]? := fun i => (hW.blk HN.out (by omega) (by omega)).cells i
          have hcs : ∀ i, W.cell? ⟨w.heap.size + 1, i, none⟩ = (#[.int .u64 u, .int .u64 x.1, .int .u64 x.2.1, .int .i64 x.2.2.1, .int .i64 x.2.2.2.1, .int .i64 x.2.2.2.2.1, .int .i64 x.2.2.2.2.2.1, .int .i64 x.2.2.2.2.2.2] : Array Value)[i]? := fun i => (hW.blk HMr.out.b1 (by omega) (by omega)).cells i
          simp only [runsT, runsF, rep, pick]
          go_wp2_with fail
          exact ⟨rfl, rfl⟩
        simp only [runsT, runsF, rep, left]
        apply segE_done
        go_wp2_with fail
        (try simp only [Exit.inBlock, Exit.then])
        refine bodyPost_ret (results_struct (ty := 30) rfl rfl rfl (c := #[.slice a3 (renT te x).toL.length cap3, .slice a2 Wy.length cap2]) HM5.out.b2 (by kernel_rfl) (by kernel_rfl)) rfl ?_
        exact ⟨_, _, _, _, _, rfl, HM5.out.sh, HM5.out.x, (HI.out.ren x), HM5.out.ch⟩
      exact segE_stop
    exact segE_stop
  exact segE_stop

set_option maxRecDepth 100000 in
set_option maxHeartbeats 4000000 in
theorem do_bump (b B : Nat) (uL uW : Value) (te : T Int En) (tw : T Int (Int × Int)) (Wy : List (Int × Int × Int)) (k u : Int) (x : Int × En) (w : World) (hS : ShI.ShardAt w b te tw) (hX : XAt w B uL uW te.toL Wy) (hI : Inv k te tw Wy) (hk : k ≤ 900) (hu0 : 0 ≤ u) (hu1 : u ≤ 18446744073709551615) (hu : u % 7 = 5) :
    Calls Try.prog 9 #[.pointer (some ⟨b, 0, none⟩), .agg #[uL, uW], .agg #[.int .u64 u, .int .u64 x.1, .int .u64 x.2.1, .int .i64 x.2.2.1, .int .i64 x.2.2.2.1, .int .i64 x.2.2.2.2.1, .int .i64 x.2.2.2.2.2.1, .int .i64 x.2.2.2.2.2.2]] w (DoPost k b B w) := by
  obtain ⟨a, cap, rfl⟩ := hX.l.val
  obtain ⟨a2, cap2, rfl⟩ := hX.y.val
  have d0 : (u % 7 == 0) = false := by have := hu; simp at this ⊢; omega
  have d1 : (u % 7 == 1) = false := by have := hu; simp at this ⊢; omega
  have d2 : (u % 7 == 2) = false := by have := hu; simp at this ⊢; omega
  have d3 : (u % 7 == 3) = false := by have := hu; simp at this ⊢; omega
  have d4 : (u % 7 == 4) = false := by have := hu; simp at this ⊢; omega
  have d5 : (u % 7 == 5) = true := by have := hu; simp at this ⊢; omega
  have hlb : b < w.heap.size := by obtain ⟨cs, hb⟩ := hS.blk; exact hb.lt
  have HI := Lib.hid hI
  have HS := Lib.hid hS
  have HX := Lib.hid hX
  clear hS hX hI hu
  go_enter Try.func9, Try.ntmps9
  go_wp2_with fail
  obtain ⟨W0, hW0⟩ : ∃ W, (((w.alloc (Obj.cells #[.slice a te.toL.length cap, .slice a2 Wy.length cap2] 30)).alloc (Obj.cells #[.int .u64 u, .int .u64 x.1, .int .u64 x.2.1, .int .i64 x.2.2.1, .int .i64 x.2.2.2.1, .int .i64 x.2.2.2.2.1, .int .i64 x.2.2.2.2.2.1, .int .i64 x.2.2.2.2.2.2] 37)).alloc (Obj.cells #[.slice none 0 0, .slice none 0 0] 30)) = W := ⟨_, rfl⟩
  have hE0 : Ext w W0 := by rw [← hW0]; exact (((Below.refl _ _).alloc (Nat.le_refl _) _).alloc (by simp) _).alloc (by simp; omega) _
  have hB0 : Blk W0 w.heap.size #[.slice a te.toL.length cap, .slice a2 Wy.length cap2] 30 := by rw [← hW0]; exact ((Blk.new _ _ _).ext ((Below.refl _ _).alloc (Nat.le_refl _) _)).ext ((Below.refl _ _).alloc (Nat.le_refl _) _)
  have hB1 : Blk W0 (w.heap.size + 1) #[.int .u64 u, .int .u64 x.1, .int .u64 x.2.1, .int .i64 x.2.2.1, .int .i64 x.2.2.2.1, .int .i64 x.2.2.2.2.1, .int .i64 x.2.2.2.2.2.1, .int .i64 x.2.2.2.2.2.2] 37 := by rw [← hW0]; exact (blk_at (by simp)).ext ((Below.refl _ _).alloc (Nat.le_refl _) _)
  have hB2 : Blk W0 (w.heap.size + 1 + 1) #[.slice none 0 0, .slice none 0 0] 30 := by rw [← hW0]; exact blk_at (by simp)
  rw [hW0]
  have hcp : ∀ i, W0.cell? ⟨w.heap.size + 1, i, none⟩ = (#[.int .u64 u, .int .u64 x.1, .int .u64 x.2.1, .int .i64 x.2.2.1, .int .i64 x.2.2.2.1, .int .i64 x.2.2.2.2.1, .int .i64 x.2.2.2.2.2.1, .int .i64 x.2.2.2.2.2.2] : Array Value)[i]? := fun i => hB1.cells i
  have HM0 := Lib.hid (show Mid w b B _ _ te tw te.toL Wy _ _ _ W0 from ⟨HS.out.ext hE0, HX.out.ext hE0, hB0, hB1, hB2, Chg.of_below hE0, hlb⟩)
  have hcx : ∀ i, W0.cell? ⟨w.heap.size, i, none⟩ = (#[.slice a te.toL.length cap, .slice a2 Wy.length cap2] : Array Value)[i]? := fun i => hB0.cells i
  have hlt0 := HM0.out.lt2
  have hlt1 : w.heap.size + 1 < W0.heap.size := by omega
  have hlt2 : w.heap.size < W0.heap.size := by omega
  have E01 : Ext W0 (W0.drew.alloc (Obj.cells #[.int .u64 x.1, .int .u64 x.2.1] 39)) := (Ext.drew W0).trans ((Below.refl _ _).alloc (Nat.le_refl _) _)
  clear hW0 hE0 hB0 hB1 hB2 HS HX
  refine wp_region_segsK [([2, 1, 2, 3], 0, 0), ([4], 2, 8)] (by kernel_rfl) (by kernel_rfl) ?_
  apply segsK_pure
  · intro W
    simp only [runsT, runsF, rep, pick]
    go_wp2_with fail
    exact ⟨rfl, rfl⟩
  simp only [runsT, runsF, rep, left]
  apply segsK_look
  · simp only [runsT, runsF, rep, pick]
    go_wp2_with fail
    exact ⟨rfl, rfl⟩
  simp only [runsT, runsF, rep, left]
  apply segsK_nil
  go_wp2_with fail
  refine (uBumpD _ _ B x.1 x.2.2.2.2.2.1 _ (HM0.out.ext E01).x HI.out (by omega)).mono ?_
  rintro e w1 ⟨uW', rfl, hX1, hE1⟩
  obtain ⟨a3, cap3, rfl⟩ := hX1.y.val
  have hst := Go.run_storeCells_new (P := Try.prog) w1 30 #[.slice none 0 0, .slice none 0 0] #[.slice a te.toL.length cap, .slice a3 (bumR tw Wy x.1 x.2.2.2.2.2.1).length cap3] (by kernel_rfl) rfl (by simp [Value.oneCell'])
  have hM1 := ((HM0.out.ext (E01.trans hE1)).rows hX1)
  have hl1 := hM1.lt2
  clear hE1 hX1
  have HM1 := Lib.hid hM1
  clear hM1
  go_wp2_with fail
  obtain ⟨Wr, hWr⟩ : ∃ W, w1.alloc (.cells #[.slice a te.toL.length cap, .slice a3 (bumR tw Wy x.1 x.2.2.2.2.2.1).length cap3] 30) = W := ⟨_, rfl⟩
  have hEr : Ext w1 Wr := by rw [← hWr]; exact (Below.refl _ _).alloc (Nat.le_refl _) _
  have hN : Blk Wr w1.heap.size #[.slice a te.toL.length cap, .slice a3 (bumR tw Wy x.1 x.2.2.2.2.2.1).length cap3] 30 := by rw [← hWr]; exact Blk.new _ _ _
  rw [hWr]
  have HMr := Lib.hid (HM1.out.ext hEr)
  have HN := Lib.hid hN
  have hlr := hN.lt
  clear hWr hEr hN hst
  refine wp_region_segsE (Cls b (w.heap.size + 1 + 1) Wr) (.quiet [4, 1, 1, 3] (.alt 0 (.quiet [1, 2] (.alt 0 (.quiet [1] .done) .stop)) .stop)) (by kernel_rfl) (by kernel_rfl) (Chg.of_below (Ext.drew Wr)) ?_
  apply segE_quiet
  · intro W hW
    have hcn : ∀ i, W.cell? ⟨w1.heap.size, i, none⟩ = (#[.slice a te.toL.length cap, .slice a3 (bumR tw Wy x.1 x.2.2.2.2.2.1).length cap3] : Array Value)[i]? := fun i => (hW.blk HN.out (by omega) (by omega)).cells i
    have hcs : ∀ i, W.cell? ⟨w.heap.size + 1, i, none⟩ = (#[.int .u64 u, .int .u64 x.1, .int .u64 x.2.1, .int .i64 x.2.2.1, .int .i64 x.2.2.2.1, .int .i64 x.2.2.2.2.1, .int .i64 x.2.2.2.2.2.1, .int .i64 x.2.2.2.2.2.2] : Array Value)[i]? := fun i => (hW.blk HMr.out.b1 (by omega) (by omega)).cells i
    simp only [runsT, runsF, rep, pick]
    go_wp2_with fail
    exact ⟨rfl, rfl⟩
  simp only [runsT, runsF, rep, left]
  refine segE_alt _ rfl ?_ ?_
  · skip
    go_wp2_with fail
    refine (uBumpP b x.1 x.2.2.2.2.2.1 _ (HMr.out.ext (Ext.drew _)).sh HI.out (by omega)).mono ?_
    rintro e w4 ⟨rfl, hS4, hC4⟩
    have HM4 := Lib.hid ((HMr.out.ext (Ext.drew _)).shard hS4 hC4)
    have HC4 := Lib.hid (show Cls b (w.heap.size + 1 + 1) Wr w4 from Cls.chg (Chg.of_below (Ext.drew Wr)) hC4)
    clear hS4 hC4
    have hcr : ∀ i, w4.cell? ⟨w.heap.size + 1 + 1, i, none⟩ = (#[.slice none 0 0, .slice none 0 0] : Array Value)[i]? := fun i => HM4.out.b2.cells i
    have hfr : ∀ i, w4.frozen? ⟨w.heap.size + 1 + 1, i, none⟩ = false := fun i => HM4.out.b2.frozen i
    go_wp2_with fail
    refine ⟨HC4.out, ?_⟩
    try dsimp only [List.eraseIdx]
    apply segE_quiet
    · intro W hW
      have hcn : ∀ i, W.cell? ⟨w1.heap.size, i, none⟩ = (#[.slice a te.toL.length cap, .slice a3 (bumR tw Wy x.1 x.2.2.2.2.2.1).length cap3] : Array Value)[i]? := fun i => (hW.blk HN.out (by omega) (by omega)).cells i
      have hcs : ∀ i, W.cell? ⟨w.heap.size + 1, i, none⟩ = (#[.int .u64 u, .int .u64 x.1, .int .u64 x.2.1, .int .i64 x.2.2.1, .int .i64 x.2.2.2.1, .int .i64 x.2.2.2.2.1, .int .i64 x.2.2.2.2.2.1, .int .i64 x.2.2.2.2.2.2] : Array Value)[i]? := fun i => (hW.blk HMr.out.b1 (by omega) (by omega)).cells i
      simp only [runsT, runsF, rep, pick]
      go_wp2_with fail
      exact ⟨rfl, rfl⟩
    simp only [runsT, runsF, rep, left]
    refine segE_alt _ rfl ?_ ?_
    · skip
      go_wp2_with fail
      have HM5 := Lib.hid (HM4.out.res _ _ (.slice a te.toL.length cap) (.slice a3 (bumR tw Wy x.1 x.2.2.2.2.2.1).length cap3))
      have HC5 := Lib.hid (HC4.out.res ((Chg.set w4 (w.heap.size + 1 + 1) 0 (.slice a te.toL.length cap)).trans (Chg.set _ (w.heap.size + 1 + 1) 1 (.slice a3 (bumR tw Wy x.1 x.2.2.2.2.2.1).length cap3))))
      refine ⟨HC5.out, ?_⟩
      try dsimp only [List.eraseIdx]
      apply segE_quiet
      · intro W hW
        have hcn : ∀ i, W.cell? ⟨w1.heap.size, i, none⟩ = (#[.slice a te.toL.length cap, .slice a3 (bumR tw Wy x.1 x.2.2.2.2.2.1).length cap3] : Array Value)[i]? := fun i => (hW.blk HN.out (by omega) (by omega)).cells i
        have hcs : ∀ i, W.cell? ⟨w.heap.size + 1, i, none⟩ = (#[.int .u64 u, .int .u64 x.1, .int .u64 x.2.1, .int .i64 x.2.2.1, .int .i64 x.2.2.2.1, .int .i64 x.2.2.2.2.1, .int .i64 x.2.2.2.2.2.1, .int .i64 x.2.2.2.2.2.2] : Array Value)[i]? := fun i => (hW.blk HMr.out.b1 (by omega) (by omega)).cells i
        simp only [runsT, runsF, rep, pick]
        go_wp2_with fail
        exact ⟨rfl, rfl⟩
      simp only [runsT, runsF, rep, left]
      apply segE_done
      go_wp2_with fail
      (try simp only [Exit.inBlock, Exit.then])
      refine bodyPost_ret (results_struct (ty := 30) rfl rfl rfl (c := #[.slice a te.toL.length cap, .slice a3 (bumR tw Wy x.1 x.2.2.2.2.2.1).length cap3]) HM5.out.b2 (by kernel_rfl) (by kernel_rfl)) rfl ?_
      exact ⟨_, _, _, _, _, rfl, HM5.out.sh, HM5.out.x, (HI.out.bump x.1 x.2.2.2.2.2.1), HM5.out.ch⟩
    exact segE_stop
  exact segE_stop

set_option maxRecDepth 100000 in
set_option maxHeartbeats 4000000 in
theorem do_done (b B : Nat) (uL uW : Value) (te : T Int En) (tw : T Int (Int × Int)) (Wy : List (Int × Int × Int)) (k u : Int) (x : Int × En) (w : World) (hS : ShI.ShardAt w b te tw) (hX : XAt w B uL uW te.toL Wy) (hI : Inv k te tw Wy) (hk : k ≤ 900) (hu0 : 0 ≤ u) (hu1 : u ≤ 18446744073709551615) (hu : u % 7 = 6) :
    Calls Try.prog 9 #[.pointer (some ⟨b, 0, none⟩), .agg #[uL, uW], .agg #[.int .u64 u, .int .u64 x.1, .int .u64 x.2.1, .int .i64 x.2.2.1, .int .i64 x.2.2.2.1, .int .i64 x.2.2.2.2.1, .int .i64 x.2.2.2.2.2.1, .int .i64 x.2.2.2.2.2.2]] w (DoPost k b B w) := by
  obtain ⟨a, cap, rfl⟩ := hX.l.val
  obtain ⟨a2, cap2, rfl⟩ := hX.y.val
  have d0 : (u % 7 == 0) = false := by have := hu; simp at this ⊢; omega
  have d1 : (u % 7 == 1) = false := by have := hu; simp at this ⊢; omega
  have d2 : (u % 7 == 2) = false := by have := hu; simp at this ⊢; omega
  have d3 : (u % 7 == 3) = false := by have := hu; simp at this ⊢; omega
  have d4 : (u % 7 == 4) = false := by have := hu; simp at this ⊢; omega
  have d5 : (u % 7 == 5) = false := by have := hu; simp at this ⊢; omega
  have hlb : b < w.heap.size := by obtain ⟨cs, hb⟩ := hS.blk; exact hb.lt
  have HI := Lib.hid hI
  have HS := Lib.hid hS
  have HX := Lib.hid hX
  clear hS hX hI hu
  go_enter Try.func9, Try.ntmps9
  go_wp2_with fail
  obtain ⟨W0, hW0⟩ : ∃ W, (((w.alloc (Obj.cells #[.slice a te.toL.length cap, .slice a2 Wy.length cap2] 30)).alloc (Obj.cells #[.int .u64 u, .int .u64 x.1, .int .u64 x.2.1, .int .i64 x.2.2.1, .int .i64 x.2.2.2.1, .int .i64 x.2.2.2.2.1, .int .i64 x.2.2.2.2.2.1, .int .i64 x.2.2.2.2.2.2] 37)).alloc (Obj.cells #[.slice none 0 0, .slice none 0 0] 30)) = W := ⟨_, rfl⟩
  have hE0 : Ext w W0 := by rw [← hW0]; exact (((Below.refl _ _).alloc (Nat.le_refl _) _).alloc (by simp) _).alloc (by simp; omega) _
  have hB0 : Blk W0 w.heap.size #[.slice a te.toL.length cap, .slice a2 Wy.length cap2] 30 := by rw [← hW0]; exact ((Blk.new _ _ _).ext ((Below.refl _ _).alloc (Nat.le_refl _) _)).ext ((Below.refl _ _).alloc (Nat.le_refl _) _)
  have hB1 : Blk W0 (w.heap.size + 1) #[.int .u64 u, .int .u64 x.1, .int .u64 x.2.1, .int .i64 x.2.2.1, .int .i64 x.2.2.2.1, .int .i64 x.2.2.2.2.1, .int .i64 x.2.2.2.2.2.1, .int .i64 x.2.2.2.2.2.2] 37 := by rw [← hW0]; exact (blk_at (by simp)).ext ((Below.refl _ _).alloc (Nat.le_refl _) _)
  have hB2 : Blk W0 (w.heap.size + 1 + 1) #[.slice none 0 0, .slice none 0 0] 30 := by rw [← hW0]; exact blk_at (by simp)
  rw [hW0]
  have hcp : ∀ i, W0.cell? ⟨w.heap.size + 1, i, none⟩ = (#[.int .u64 u, .int .u64 x.1, .int .u64 x.2.1, .int .i64 x.2.2.1, .int .i64 x.2.2.2.1, .int .i64 x.2.2.2.2.1, .int .i64 x.2.2.2.2.2.1, .int .i64 x.2.2.2.2.2.2] : Array Value)[i]? := fun i => hB1.cells i
  have HM0 := Lib.hid (show Mid w b B _ _ te tw te.toL Wy _ _ _ W0 from ⟨HS.out.ext hE0, HX.out.ext hE0, hB0, hB1, hB2, Chg.of_below hE0, hlb⟩)
  have hcx : ∀ i, W0.cell? ⟨w.heap.size, i, none⟩ = (#[.slice a te.toL.length cap, .slice a2 Wy.length cap2] : Array Value)[i]? := fun i => hB0.cells i
  have hlt0 := HM0.out.lt2
  have hlt1 : w.heap.size + 1 < W0.heap.size := by omega
  have hlt2 : w.heap.size < W0.heap.size := by omega
  have E01 : Ext W0 (W0.drew.alloc (Obj.cells #[.int .u64 x.1, .int .u64 x.2.1] 39)) := (Ext.drew W0).trans ((Below.refl _ _).alloc (Nat.le_refl _) _)
  clear hW0 hE0 hB0 hB1 hB2 HS HX
  refine wp_region_segsK [([2, 1, 2, 3], 0, 0), ([4], 2, 8)] (by kernel_rfl) (by kernel_rfl) ?_
  apply segsK_pure
  · intro W
    simp only [runsT, runsF, rep, pick]
    go_wp2_with fail
    exact ⟨rfl, rfl⟩
  simp only [runsT, runsF, rep, left]
  apply segsK_look
  · simp only [runsT, runsF, rep, pick]
    go_wp2_with fail
    exact ⟨rfl, rfl⟩
  simp only [runsT, runsF, rep, left]
  apply segsK_nil
  go_wp2_with fail
  refine (uDoneD _ _ B x.1 x.2.2.2.2.2.1 _ (HM0.out.ext E01).x HI.out (by omega)).mono ?_
  rintro e w1 ⟨uW', rfl, hX1, hE1⟩
  obtain ⟨a3, cap3, rfl⟩ := hX1.y.val
  have hst := Go.run_storeCells_new (P := Try.prog) w1 30 #[.slice none 0 0, .slice none 0 0] #[.slice a te.toL.length cap, .slice a3 (donR tw Wy x.1).length cap3] (by kernel_rfl) rfl (by simp [Value.oneCell'])
  have hM1 := ((HM0.out.ext (E01.trans hE1)).rows hX1)
  have hl1 := hM1.lt2
  clear hE1 hX1
  have HM1 := Lib.hid hM1
  clear hM1
  go_wp2_with fail
  obtain ⟨Wr, hWr⟩ : ∃ W, w1.alloc (.cells #[.slice a te.toL.length cap, .slice a3 (donR tw Wy x.1).length cap3] 30) = W := ⟨_, rfl⟩
  have hEr : Ext w1 Wr := by rw [← hWr]; exact (Below.refl _ _).alloc (Nat.le_refl _) _
  have hN : Blk Wr w1.heap.size #[.slice a te.toL.length cap, .slice a3 (donR tw Wy x.1).length cap3] 30 := by rw [← hWr]; exact Blk.new _ _ _
  rw [hWr]
  have HMr := Lib.hid (HM1.out.ext hEr)
  have HN := Lib.hid hN
  have hlr := hN.lt
  clear hWr hEr hN hst
  refine wp_region_segsE (Cls b (w.heap.size + 1 + 1) Wr) (.quiet [4, 1, 1, 3] (.alt 0 (.quiet [1, 2] (.alt 0 (.quiet [1] .done) .stop)) .stop)) (by kernel_rfl) (by kernel_rfl) (Chg.of_below (Ext.drew Wr)) ?_
  apply segE_quiet
  · intro W hW
    have hcn : ∀ i, W.cell? ⟨w1.heap.size, i, none⟩ = (#[.slice a te.toL.length cap, .slice a3 (donR tw Wy x.1).length cap3] : Array Value)[i]? := fun i => (hW.blk HN.out (by omega) (by omega)).cells i
    have hcs : ∀ i, W.cell? ⟨w.heap.size + 1, i, none⟩ = (#[.int .u64 u, .int .u64 x.1, .int .u64 x.2.1, .int .i64 x.2.2.1, .int .i64 x.2.2.2.1, .int .i64 x.2.2.2.2.1, .int .i64 x.2.2.2.2.2.1, .int .i64 x.2.2.2.2.2.2] : Array Value)[i]? := fun i => (hW.blk HMr.out.b1 (by omega) (by omega)).cells i
    simp only [runsT, runsF, rep, pick]
    go_wp2_with fail
    exact ⟨rfl, rfl⟩
  simp only [runsT, runsF, rep, left]
  refine segE_alt _ rfl ?_ ?_
  · skip
    go_wp2_with fail
    refine (uDoneP b x.1 x.2.2.2.2.2.1 _ (HMr.out.ext (Ext.drew _)).sh HI.out (by omega)).mono ?_
    rintro e w4 ⟨rfl, hS4, hC4⟩
    have HM4 := Lib.hid ((HMr.out.ext (Ext.drew _)).shard hS4 hC4)
    have HC4 := Lib.hid (show Cls b (w.heap.size + 1 + 1) Wr w4 from Cls.chg (Chg.of_below (Ext.drew Wr)) hC4)
    clear hS4 hC4
    have hcr : ∀ i, w4.cell? ⟨w.heap.size + 1 + 1, i, none⟩ = (#[.slice none 0 0, .slice none 0 0] : Array Value)[i]? := fun i => HM4.out.b2.cells i
    have hfr : ∀ i, w4.frozen? ⟨w.heap.size + 1 + 1, i, none⟩ = false := fun i => HM4.out.b2.frozen i
    go_wp2_with fail
    refine ⟨HC4.out, ?_⟩
    try dsimp only [List.eraseIdx]
    apply segE_quiet
    · intro W hW
      have hcn : ∀ i, W.cell? ⟨w1.heap.size, i, none⟩ = (#[.slice a te.toL.length cap, .slice a3 (donR tw Wy x.1).length cap3] : Array Value)[i]? := fun i => (hW.blk HN.out (by omega) (by omega)).cells i
      have hcs : ∀ i, W.cell? ⟨w.heap.size + 1, i, none⟩ = (#[.int .u64 u, .int .u64 x.1, .int .u64 x.2.1, .int .i64 x.2.2.1, .int .i64 x.2.2.2.1, .int .i64 x.2.2.2.2.1, .int .i64 x.2.2.2.2.2.1, .int .i64 x.2.2.2.2.2.2] : Array Value)[i]? := fun i => (hW.blk HMr.out.b1 (by omega) (by omega)).cells i
      simp only [runsT, runsF, rep, pick]
      go_wp2_with fail
      exact ⟨rfl, rfl⟩
    simp only [runsT, runsF, rep, left]
    refine segE_alt _ rfl ?_ ?_
    · skip
      go_wp2_with fail
      have HM5 := Lib.hid (HM4.out.res _ _ (.slice a te.toL.length cap) (.slice a3 (donR tw Wy x.1).length cap3))
      have HC5 := Lib.hid (HC4.out.res ((Chg.set w4 (w.heap.size + 1 + 1) 0 (.slice a te.toL.length cap)).trans (Chg.set _ (w.heap.size + 1 + 1) 1 (.slice a3 (donR tw Wy x.1).length cap3))))
      refine ⟨HC5.out, ?_⟩
      try dsimp only [List.eraseIdx]
      apply segE_quiet
      · intro W hW
        have hcn : ∀ i, W.cell? ⟨w1.heap.size, i, none⟩ = (#[.slice a te.toL.length cap, .slice a3 (donR tw Wy x.1).length cap3] : Array Value)[i]? := fun i => (hW.blk HN.out (by omega) (by omega)).cells i
        have hcs : ∀ i, W.cell? ⟨w.heap.size + 1, i, none⟩ = (#[.int .u64 u, .int .u64 x.1, .int .u64 x.2.1, .int .i64 x.2.2.1, .int .i64 x.2.2.2.1, .int .i64 x.2.2.2.2.1, .int .i64 x.2.2.2.2.2.1, .int .i64 x.2.2.2.2.2.2] : Array Value)[i]? := fun i => (hW.blk HMr.out.b1 (by omega) (by omega)).cells i
        simp only [runsT, runsF, rep, pick]
        go_wp2_with fail
        exact ⟨rfl, rfl⟩
      simp only [runsT, runsF, rep, left]
      apply segE_done
      go_wp2_with fail
      (try simp only [Exit.inBlock, Exit.then])
      refine bodyPost_ret (results_struct (ty := 30) rfl rfl rfl (c := #[.slice a te.toL.length cap, .slice a3 (donR tw Wy x.1).length cap3]) HM5.out.b2 (by kernel_rfl) (by kernel_rfl)) rfl ?_
      exact ⟨_, _, _, _, _, rfl, HM5.out.sh, HM5.out.x, (HI.out.done x.1), HM5.out.ch⟩
    exact segE_stop
  exact segE_stop

theorem same_z (w : World) : Calls Try.prog 14 #[.agg #[.int .u64 0, .int .i64 0, .int .i64 0, .int .i64 0, .int .i64 0, .int .i64 0], .bool false, .agg #[.int .u64 0, .int .u64 0, .int .i64 0, .int .i64 0, .int .i64 0, .int .i64 0, .int .i64 0], .bool false] w fun e w' => e = .returned (.bool true) ∧ Ext w w' := same_no (0, 0, 0, 0, 0, 0, 0) w
set_option maxRecDepth 100000 in
set_option maxHeartbeats 4000000 in
theorem do_cutno (b B : Nat) (uL uW : Value) (te : T Int En) (tw : T Int (Int × Int)) (Wy : List (Int × Int × Int)) (k u : Int) (x : Int × En) (w : World) (hS : ShI.ShardAt w b te tw) (hX : XAt w B uL uW te.toL Wy) (hI : Inv k te tw Wy) (hk : k ≤ 900) (hu0 : 0 ≤ u) (hu1 : u ≤ 18446744073709551615) (hu : u % 7 = 2) (hg : cutO te x.1 x.2.1 = none) :
    Calls Try.prog 9 #[.pointer (some ⟨b, 0, none⟩), .agg #[uL, uW], .agg #[.int .u64 u, .int .u64 x.1, .int .u64 x.2.1, .int .i64 x.2.2.1, .int .i64 x.2.2.2.1, .int .i64 x.2.2.2.2.1, .int .i64 x.2.2.2.2.2.1, .int .i64 x.2.2.2.2.2.2]] w (DoPost k b B w) := by
  have HG := Lib.hid hg
  clear hg
  obtain ⟨a, cap, rfl⟩ := hX.l.val
  obtain ⟨a2, cap2, rfl⟩ := hX.y.val
  have d0 : (u % 7 == 0) = false := by have := hu; simp at this ⊢; omega
  have d1 : (u % 7 == 1) = false := by have := hu; simp at this ⊢; omega
  have d2 : (u % 7 == 2) = true := by have := hu; simp at this ⊢; omega
  have hlb : b < w.heap.size := by obtain ⟨cs, hb⟩ := hS.blk; exact hb.lt
  have HI := Lib.hid hI
  have HS := Lib.hid hS
  have HX := Lib.hid hX
  clear hS hX hI hu
  go_enter Try.func9, Try.ntmps9
  go_wp2_with fail
  obtain ⟨W0, hW0⟩ : ∃ W, (((w.alloc (Obj.cells #[.slice a te.toL.length cap, .slice a2 Wy.length cap2] 30)).alloc (Obj.cells #[.int .u64 u, .int .u64 x.1, .int .u64 x.2.1, .int .i64 x.2.2.1, .int .i64 x.2.2.2.1, .int .i64 x.2.2.2.2.1, .int .i64 x.2.2.2.2.2.1, .int .i64 x.2.2.2.2.2.2] 37)).alloc (Obj.cells #[.slice none 0 0, .slice none 0 0] 30)) = W := ⟨_, rfl⟩
  have hE0 : Ext w W0 := by rw [← hW0]; exact (((Below.refl _ _).alloc (Nat.le_refl _) _).alloc (by simp) _).alloc (by simp; omega) _
  have hB0 : Blk W0 w.heap.size #[.slice a te.toL.length cap, .slice a2 Wy.length cap2] 30 := by rw [← hW0]; exact ((Blk.new _ _ _).ext ((Below.refl _ _).alloc (Nat.le_refl _) _)).ext ((Below.refl _ _).alloc (Nat.le_refl _) _)
  have hB1 : Blk W0 (w.heap.size + 1) #[.int .u64 u, .int .u64 x.1, .int .u64 x.2.1, .int .i64 x.2.2.1, .int .i64 x.2.2.2.1, .int .i64 x.2.2.2.2.1, .int .i64 x.2.2.2.2.2.1, .int .i64 x.2.2.2.2.2.2] 37 := by rw [← hW0]; exact (blk_at (by simp)).ext ((Below.refl _ _).alloc (Nat.le_refl _) _)
  have hB2 : Blk W0 (w.heap.size + 1 + 1) #[.slice none 0 0, .slice none 0 0] 30 := by rw [← hW0]; exact blk_at (by simp)
  rw [hW0]
  have hcp : ∀ i, W0.cell? ⟨w.heap.size + 1, i, none⟩ = (#[.int .u64 u, .int .u64 x.1, .int .u64 x.2.1, .int .i64 x.2.2.1, .int .i64 x.2.2.2.1, .int .i64 x.2.2.2.2.1, .int .i64 x.2.2.2.2.2.1, .int .i64 x.2.2.2.2.2.2] : Array Value)[i]? := fun i => hB1.cells i
  have HM0 := Lib.hid (show Mid w b B _ _ te tw te.toL Wy _ _ _ W0 from ⟨HS.out.ext hE0, HX.out.ext hE0, hB0, hB1, hB2, Chg.of_below hE0, hlb⟩)
  have hcx : ∀ i, W0.cell? ⟨w.heap.size, i, none⟩ = (#[.slice a te.toL.length cap, .slice a2 Wy.length cap2] : Array Value)[i]? := fun i => hB0.cells i
  have hlt0 := HM0.out.lt2
  have hlt1 : w.heap.size + 1 < W0.heap.size := by omega
  have hlt2 : w.heap.size < W0.heap.size := by omega
  have E01 : Ext W0 (W0.drew.alloc (Obj.cells #[.int .u64 x.1, .int .u64 x.2.1] 39)) := (Ext.drew W0).trans ((Below.refl _ _).alloc (Nat.le_refl _) _)
  clear hW0 hE0 hB0 hB1 hB2 HS HX
  refine wp_region_segsK [([2, 1, 2, 3], 0, 0), ([4], 2, 8)] (by kernel_rfl) (by kernel_rfl) ?_
  apply segsK_pure
  · intro W
    simp only [runsT, runsF, rep, pick]
    go_wp2_with fail
    exact ⟨rfl, rfl⟩
  simp only [runsT, runsF, rep, left]
  apply segsK_look
  · simp only [runsT, runsF, rep, pick]
    go_wp2_with fail
    exact ⟨rfl, rfl⟩
  simp only [runsT, runsF, rep, left]
  apply segsK_nil
  go_wp2_with fail
  refine (uCut_no b x.1 x.2.1 _ (HM0.out.ext E01).sh HI.out (by omega) HG.out).mono ?_
  rintro e w1 ⟨rfl, hE1⟩
  have hM1 := HM0.out.ext (E01.trans hE1)
  have hst := Go.run_storeCells_new (P := Try.prog) w1 41 #[.int .u64 0, .int .i64 0, .int .i64 0, .int .i64 0, .int .i64 0, .int .i64 0] #[.int .u64 0, .int .i64 0, .int .i64 0, .int .i64 0, .int .i64 0, .int .i64 0] (by kernel_rfl) rfl (by simp [Value.oneCell'])
  have hl1 := hM1.lt2
  have hl11 : w.heap.size < w1.heap.size := by omega
  have hPb : Blk w1 W0.heap.size #[.int .u64 x.1, .int .u64 x.2.1] 39 := by
    have h0 : Blk (W0.drew.alloc (Obj.cells #[.int .u64 x.1, .int .u64 x.2.1] 39)) W0.heap.size #[.int .u64 x.1, .int .u64 x.2.1] 39 := Blk.new _ _ _
    exact h0.ext hE1
  have hl12 := hPb.lt
  have hcx1 : ∀ i, w1.cell? ⟨w.heap.size, i, none⟩ = (#[.slice a te.toL.length cap, .slice a2 Wy.length cap2] : Array Value)[i]? := fun i => hM1.b0.cells i
  have hcq1 : ∀ i, w1.cell? ⟨W0.heap.size, i, none⟩ = (#[.int .u64 x.1, .int .u64 x.2.1] : Array Value)[i]? := fun i => hPb.cells i
  have HM1 := Lib.hid hM1
  clear hM1 hPb hE1
  go_wp2_with fail
  obtain ⟨W2, hW2⟩ : ∃ W, w1.alloc (.cells #[.int .u64 0, .int .i64 0, .int .i64 0, .int .i64 0, .int .i64 0, .int .i64 0] 41) = W := ⟨_, rfl⟩
  have hE2 : Ext w1 W2 := by rw [← hW2]; exact (Below.refl _ _).alloc (Nat.le_refl _) _
  have hEb : Blk W2 w1.heap.size #[.int .u64 0, .int .i64 0, .int .i64 0, .int .i64 0, .int .i64 0, .int .i64 0] 41 := by rw [← hW2]; exact Blk.new _ _ _
  rw [hW2]
  have HM2 := Lib.hid (HM1.out.ext hE2)
  clear hW2 hE2 hst hcx1 hcq1
  refine (rFind_no _ _ B x.1 x.2.1 _ HM2.out.x HI.out (by omega) HG.out).mono ?_
  rintro e w3 ⟨rfl, hE3⟩
  have hst := Go.run_storeCells_new (P := Try.prog) w3 35 #[.int .u64 0, .int .u64 0, .int .i64 0, .int .i64 0, .int .i64 0, .int .i64 0, .int .i64 0] #[.int .u64 0, .int .u64 0, .int .i64 0, .int .i64 0, .int .i64 0, .int .i64 0, .int .i64 0] (by kernel_rfl) rfl (by simp [Value.oneCell'])
  have HM3 := Lib.hid (HM2.out.ext hE3)
  have HEb := Lib.hid (hEb.ext hE3)
  have hl3 := HEb.out.lt
  have hl31 : w.heap.size < w3.heap.size := by omega
  clear hEb hE3
  go_wp2_with fail
  obtain ⟨Wr, hWr⟩ : ∃ W, w3.alloc (.cells #[.int .u64 0, .int .u64 0, .int .i64 0, .int .i64 0, .int .i64 0, .int .i64 0, .int .i64 0] 35) = W := ⟨_, rfl⟩
  have hEr : Ext w3 Wr := by rw [← hWr]; exact (Below.refl _ _).alloc (Nat.le_refl _) _
  have hN : Blk Wr w3.heap.size #[.int .u64 0, .int .u64 0, .int .i64 0, .int .i64 0, .int .i64 0, .int .i64 0, .int .i64 0] 35 := by rw [← hWr]; exact Blk.new _ _ _
  rw [hWr]
  have HMr := Lib.hid (HM3.out.ext hEr)
  have HEr := Lib.hid (HEb.out.ext hEr)
  have HN := Lib.hid hN
  have hlr := hN.lt
  clear hWr hEr hN hst
  refine wp_region_segsE (Cls b (w.heap.size + 1 + 1) Wr) (.quiet [5, 3] (.alt 0 (.alt 0 (.quiet [1] .done) .stop) .stop)) (by kernel_rfl) (by kernel_rfl) (Chg.of_below (Ext.drew Wr)) ?_
  apply segE_quiet
  · intro W hW
    have hcx : ∀ i, W.cell? ⟨w.heap.size, i, none⟩ = (#[.slice a te.toL.length cap, .slice a2 Wy.length cap2] : Array Value)[i]? := fun i => (hW.blk HMr.out.b0 (by omega) (by omega)).cells i
    have hce : ∀ i, W.cell? ⟨w1.heap.size, i, none⟩ = (#[.int .u64 0, .int .i64 0, .int .i64 0, .int .i64 0, .int .i64 0, .int .i64 0] : Array Value)[i]? := fun i => (hW.blk HEr.out (by omega) (by omega)).cells i
    have hcf : ∀ i, W.cell? ⟨w3.heap.size, i, none⟩ = (#[.int .u64 0, .int .u64 0, .int .i64 0, .int .i64 0, .int .i64 0, .int .i64 0, .int .i64 0] : Array Value)[i]? := fun i => (hW.blk HN.out (by omega) (by omega)).cells i
    simp only [runsT, runsF, rep, pick]
    go_wp2_with fail
    exact ⟨rfl, rfl⟩
  simp only [runsT, runsF, rep, left]
  refine segE_alt _ rfl ?_ ?_
  · skip
    go_wp2_with fail
    refine (same_z _).mono ?_
    rintro e w5 ⟨rfl, hE5⟩
    have HM5 := Lib.hid ((HMr.out.ext (Ext.drew _)).ext hE5)
    have HC5 := Lib.hid (show Cls b (w.heap.size + 1 + 1) Wr w5 from Chg.of_below ((Ext.drew Wr).trans hE5))
    clear hE5
    have hcr : ∀ i, w5.cell? ⟨w.heap.size + 1 + 1, i, none⟩ = (#[.slice none 0 0, .slice none 0 0] : Array Value)[i]? := fun i => HM5.out.b2.cells i
    have hfr : ∀ i, w5.frozen? ⟨w.heap.size + 1 + 1, i, none⟩ = false := fun i => HM5.out.b2.frozen i
    go_wp2_with fail
    refine ⟨HC5.out, ?_⟩
    try dsimp only [List.eraseIdx]
    refine segE_alt _ rfl ?_ ?_
    · skip
      go_wp2_with fail
      have HM6 := Lib.hid (HM5.out.res _ _ (.slice a te.toL.length cap) (.slice a2 Wy.length cap2))
      have HC6 := Lib.hid (HC5.out.res ((Chg.set w5 (w.heap.size + 1 + 1) 0 (.slice a te.toL.length cap)).trans (Chg.set _ (w.heap.size + 1 + 1) 1 (.slice a2 Wy.length cap2))))
      refine ⟨HC6.out, ?_⟩
      try dsimp only [List.eraseIdx]
      apply segE_quiet
      · intro W hW
        have hcx : ∀ i, W.cell? ⟨w.heap.size, i, none⟩ = (#[.slice a te.toL.length cap, .slice a2 Wy.length cap2] : Array Value)[i]? := fun i => (hW.blk HMr.out.b0 (by omega) (by omega)).cells i
        have hce : ∀ i, W.cell? ⟨w1.heap.size, i, none⟩ = (#[.int .u64 0, .int .i64 0, .int .i64 0, .int .i64 0, .int .i64 0, .int .i64 0] : Array Value)[i]? := fun i => (hW.blk HEr.out (by omega) (by omega)).cells i
        have hcf : ∀ i, W.cell? ⟨w3.heap.size, i, none⟩ = (#[.int .u64 0, .int .u64 0, .int .i64 0, .int .i64 0, .int .i64 0, .int .i64 0, .int .i64 0] : Array Value)[i]? := fun i => (hW.blk HN.out (by omega) (by omega)).cells i
        simp only [runsT, runsF, rep, pick]
        go_wp2_with fail
        exact ⟨rfl, rfl⟩
      simp only [runsT, runsF, rep, left]
      apply segE_done
      go_wp2_with fail
      (try simp only [Exit.inBlock, Exit.then])
      refine bodyPost_ret (results_struct (ty := 30) rfl rfl rfl (c := #[.slice a te.toL.length cap, .slice a2 Wy.length cap2]) HM6.out.b2 (by kernel_rfl) (by kernel_rfl)) rfl ?_
      exact ⟨_, _, _, _, _, rfl, HM6.out.sh, HM6.out.x, (HI.out.mono (by omega)), HM6.out.ch⟩
    exact segE_stop
  exact segE_stop

set_option maxRecDepth 100000 in
set_option maxHeartbeats 4000000 in
theorem do_cutyes (b B : Nat) (uL uW : Value) (te : T Int En) (tw : T Int (Int × Int)) (Wy : List (Int × Int × Int)) (k u : Int) (x : Int × En) (w : World) (hS : ShI.ShardAt w b te tw) (hX : XAt w B uL uW te.toL Wy) (hI : Inv k te tw Wy) (hk : k ≤ 900) (hu0 : 0 ≤ u) (hu1 : u ≤ 18446744073709551615) (hu : u % 7 = 2) (v : En) (hg : cutO te x.1 x.2.1 = some v) :
    Calls Try.prog 9 #[.pointer (some ⟨b, 0, none⟩), .agg #[uL, uW], .agg #[.int .u64 u, .int .u64 x.1, .int .u64 x.2.1, .int .i64 x.2.2.1, .int .i64 x.2.2.2.1, .int .i64 x.2.2.2.2.1, .int .i64 x.2.2.2.2.2.1, .int .i64 x.2.2.2.2.2.2]] w (DoPost k b B w) := by
  have HG := Lib.hid hg
  clear hg
  obtain ⟨a, cap, rfl⟩ := hX.l.val
  obtain ⟨a2, cap2, rfl⟩ := hX.y.val
  have d0 : (u % 7 == 0) = false := by have := hu; simp at this ⊢; omega
  have d1 : (u % 7 == 1) = false := by have := hu; simp at this ⊢; omega
  have d2 : (u % 7 == 2) = true := by have := hu; simp at this ⊢; omega
  have hlb : b < w.heap.size := by obtain ⟨cs, hb⟩ := hS.blk; exact hb.lt
  have HI := Lib.hid hI
  have HS := Lib.hid hS
  have HX := Lib.hid hX
  clear hS hX hI hu
  go_enter Try.func9, Try.ntmps9
  go_wp2_with fail
  obtain ⟨W0, hW0⟩ : ∃ W, (((w.alloc (Obj.cells #[.slice a te.toL.length cap, .slice a2 Wy.length cap2] 30)).alloc (Obj.cells #[.int .u64 u, .int .u64 x.1, .int .u64 x.2.1, .int .i64 x.2.2.1, .int .i64 x.2.2.2.1, .int .i64 x.2.2.2.2.1, .int .i64 x.2.2.2.2.2.1, .int .i64 x.2.2.2.2.2.2] 37)).alloc (Obj.cells #[.slice none 0 0, .slice none 0 0] 30)) = W := ⟨_, rfl⟩
  have hE0 : Ext w W0 := by rw [← hW0]; exact (((Below.refl _ _).alloc (Nat.le_refl _) _).alloc (by simp) _).alloc (by simp; omega) _
  have hB0 : Blk W0 w.heap.size #[.slice a te.toL.length cap, .slice a2 Wy.length cap2] 30 := by rw [← hW0]; exact ((Blk.new _ _ _).ext ((Below.refl _ _).alloc (Nat.le_refl _) _)).ext ((Below.refl _ _).alloc (Nat.le_refl _) _)
  have hB1 : Blk W0 (w.heap.size + 1) #[.int .u64 u, .int .u64 x.1, .int .u64 x.2.1, .int .i64 x.2.2.1, .int .i64 x.2.2.2.1, .int .i64 x.2.2.2.2.1, .int .i64 x.2.2.2.2.2.1, .int .i64 x.2.2.2.2.2.2] 37 := by rw [← hW0]; exact (blk_at (by simp)).ext ((Below.refl _ _).alloc (Nat.le_refl _) _)
  have hB2 : Blk W0 (w.heap.size + 1 + 1) #[.slice none 0 0, .slice none 0 0] 30 := by rw [← hW0]; exact blk_at (by simp)
  rw [hW0]
  have hcp : ∀ i, W0.cell? ⟨w.heap.size + 1, i, none⟩ = (#[.int .u64 u, .int .u64 x.1, .int .u64 x.2.1, .int .i64 x.2.2.1, .int .i64 x.2.2.2.1, .int .i64 x.2.2.2.2.1, .int .i64 x.2.2.2.2.2.1, .int .i64 x.2.2.2.2.2.2] : Array Value)[i]? := fun i => hB1.cells i
  have HM0 := Lib.hid (show Mid w b B _ _ te tw te.toL Wy _ _ _ W0 from ⟨HS.out.ext hE0, HX.out.ext hE0, hB0, hB1, hB2, Chg.of_below hE0, hlb⟩)
  have hcx : ∀ i, W0.cell? ⟨w.heap.size, i, none⟩ = (#[.slice a te.toL.length cap, .slice a2 Wy.length cap2] : Array Value)[i]? := fun i => hB0.cells i
  have hlt0 := HM0.out.lt2
  have hlt1 : w.heap.size + 1 < W0.heap.size := by omega
  have hlt2 : w.heap.size < W0.heap.size := by omega
  have E01 : Ext W0 (W0.drew.alloc (Obj.cells #[.int .u64 x.1, .int .u64 x.2.1] 39)) := (Ext.drew W0).trans ((Below.refl _ _).alloc (Nat.le_refl _) _)
  clear hW0 hE0 hB0 hB1 hB2 HS HX
  refine wp_region_segsK [([2, 1, 2, 3], 0, 0), ([4], 2, 8)] (by kernel_rfl) (by kernel_rfl) ?_
  apply segsK_pure
  · intro W
    simp only [runsT, runsF, rep, pick]
    go_wp2_with fail
    exact ⟨rfl, rfl⟩
  simp only [runsT, runsF, rep, left]
  apply segsK_look
  · simp only [runsT, runsF, rep, pick]
    go_wp2_with fail
    exact ⟨rfl, rfl⟩
  simp only [runsT, runsF, rep, left]
  apply segsK_nil
  go_wp2_with fail
  refine (uCut_yes b x.1 x.2.1 v _ (HM0.out.ext E01).sh HI.out (by omega) HG.out).mono ?_
  rintro e w1 ⟨rfl, hS1, hC1⟩
  have hM1 := (HM0.out.ext E01).shard hS1 hC1
  have hst := Go.run_storeCells_new (P := Try.prog) w1 41 #[.int .u64 0, .int .i64 0, .int .i64 0, .int .i64 0, .int .i64 0, .int .i64 0] #[.int .u64 v.1, .int .i64 v.2.1, .int .i64 v.2.2.1, .int .i64 v.2.2.2.1, .int .i64 v.2.2.2.2.1, .int .i64 v.2.2.2.2.2] (by kernel_rfl) rfl (by simp [Value.oneCell'])
  have hl1 := hM1.lt2
  have hl11 : w.heap.size < w1.heap.size := by omega
  have hPb : Blk w1 W0.heap.size #[.int .u64 x.1, .int .u64 x.2.1] 39 := by
    have h0 : Blk (W0.drew.alloc (Obj.cells #[.int .u64 x.1, .int .u64 x.2.1] 39)) W0.heap.size #[.int .u64 x.1, .int .u64 x.2.1] 39 := Blk.new _ _ _
    obtain ⟨cs, hb⟩ := (HM0.out.ext E01).sh.blk
    exact h0.chg hC1 (.one hb (by decide))
  have hl12 := hPb.lt
  have hcx1 : ∀ i, w1.cell? ⟨w.heap.size, i, none⟩ = (#[.slice a te.toL.length cap, .slice a2 Wy.length cap2] : Array Value)[i]? := fun i => hM1.b0.cells i
  have hcq1 : ∀ i, w1.cell? ⟨W0.heap.size, i, none⟩ = (#[.int .u64 x.1, .int .u64 x.2.1] : Array Value)[i]? := fun i => hPb.cells i
  have HM1 := Lib.hid hM1
  clear hM1 hPb hS1 hC1
  go_wp2_with fail
  obtain ⟨W2, hW2⟩ : ∃ W, w1.alloc (.cells #[.int .u64 v.1, .int .i64 v.2.1, .int .i64 v.2.2.1, .int .i64 v.2.2.2.1, .int .i64 v.2.2.2.2.1, .int .i64 v.2.2.2.2.2] 41) = W := ⟨_, rfl⟩
  have hE2 : Ext w1 W2 := by rw [← hW2]; exact (Below.refl _ _).alloc (Nat.le_refl _) _
  have hEb : Blk W2 w1.heap.size #[.int .u64 v.1, .int .i64 v.2.1, .int .i64 v.2.2.1, .int .i64 v.2.2.2.1, .int .i64 v.2.2.2.2.1, .int .i64 v.2.2.2.2.2] 41 := by rw [← hW2]; exact Blk.new _ _ _
  rw [hW2]
  have HM2 := Lib.hid (HM1.out.ext hE2)
  clear hW2 hE2 hst hcx1 hcq1
  refine (rFind_yes _ _ B x.1 x.2.1 v _ HM2.out.x HI.out (by omega) HG.out).mono ?_
  rintro e w3 ⟨rfl, hE3⟩
  have hst := Go.run_storeCells_new (P := Try.prog) w3 35 #[.int .u64 0, .int .u64 0, .int .i64 0, .int .i64 0, .int .i64 0, .int .i64 0, .int .i64 0] #[.int .u64 x.1, .int .u64 v.1, .int .i64 v.2.1, .int .i64 v.2.2.1, .int .i64 v.2.2.2.1, .int .i64 v.2.2.2.2.1, .int .i64 v.2.2.2.2.2] (by kernel_rfl) rfl (by simp [Value.oneCell'])
  have HM3 := Lib.hid (HM2.out.ext hE3)
  have HEb := Lib.hid (hEb.ext hE3)
  have hl3 := HEb.out.lt
  have hl31 : w.heap.size < w3.heap.size := by omega
  clear hEb hE3
  go_wp2_with fail
  obtain ⟨Wr, hWr⟩ : ∃ W, w3.alloc (.cells #[.int .u64 x.1, .int .u64 v.1, .int .i64 v.2.1, .int .i64 v.2.2.1, .int .i64 v.2.2.2.1, .int .i64 v.2.2.2.2.1, .int .i64 v.2.2.2.2.2] 35) = W := ⟨_, rfl⟩
  have hEr : Ext w3 Wr := by rw [← hWr]; exact (Below.refl _ _).alloc (Nat.le_refl _) _
  have hN : Blk Wr w3.heap.size #[.int .u64 x.1, .int .u64 v.1, .int .i64 v.2.1, .int .i64 v.2.2.1, .int .i64 v.2.2.2.1, .int .i64 v.2.2.2.2.1, .int .i64 v.2.2.2.2.2] 35 := by rw [← hWr]; exact Blk.new _ _ _
  rw [hWr]
  have HMr := Lib.hid (HM3.out.ext hEr)
  have HEr := Lib.hid (HEb.out.ext hEr)
  have HN := Lib.hid hN
  have hlr := hN.lt
  clear hWr hEr hN hst
  refine wp_region_segsE (Cls b (w.heap.size + 1 + 1) Wr) (.quiet [2, 1, 4, 3] (.alt 0 (.alt 0 (.alt 0 (.quiet [1] .done) .stop) .stop) .stop)) (by kernel_rfl) (by kernel_rfl) (Chg.of_below (Ext.drew Wr)) ?_
  apply segE_quiet
  · intro W hW
    have hcx : ∀ i, W.cell? ⟨w.heap.size, i, none⟩ = (#[.slice a te.toL.length cap, .slice a2 Wy.length cap2] : Array Value)[i]? := fun i => (hW.blk HMr.out.b0 (by omega) (by omega)).cells i
    have hce : ∀ i, W.cell? ⟨w1.heap.size, i, none⟩ = (#[.int .u64 v.1, .int .i64 v.2.1, .int .i64 v.2.2.1, .int .i64 v.2.2.2.1, .int .i64 v.2.2.2.2.1, .int .i64 v.2.2.2.2.2] : Array Value)[i]? := fun i => (hW.blk HEr.out (by omega) (by omega)).cells i
    have hcf : ∀ i, W.cell? ⟨w3.heap.size, i, none⟩ = (#[.int .u64 x.1, .int .u64 v.1, .int .i64 v.2.1, .int .i64 v.2.2.1, .int .i64 v.2.2.2.1, .int .i64 v.2.2.2.2.1, .int .i64 v.2.2.2.2.2] : Array Value)[i]? := fun i => (hW.blk HN.out (by omega) (by omega)).cells i
    simp only [runsT, runsF, rep, pick]
    go_wp2_with fail
    exact ⟨rfl, rfl⟩
  simp only [runsT, runsF, rep, left]
  refine segE_alt _ rfl ?_ ?_
  · skip
    go_wp2_with fail
    refine (uRemoveD _ _ B x.1 _ (HMr.out.ext (Ext.drew _)).x HI.out (by omega)).mono ?_
    rintro e w4 ⟨uL', rfl, hX4, hE4⟩
    obtain ⟨a3, cap3, rfl⟩ := hX4.l.val
    have HM4 := Lib.hid (((HMr.out.ext (Ext.drew _)).ext hE4).rows hX4)
    have HC4 := Lib.hid (show Cls b (w.heap.size + 1 + 1) Wr w4 from Chg.of_below ((Ext.drew Wr).trans hE4))
    clear hX4 hE4
    go_wp2_with fail
    refine ⟨HC4.out, ?_⟩
    try dsimp only [List.eraseIdx]
    refine segE_alt _ rfl ?_ ?_
    · skip
      go_wp2_with fail
      refine (same_yes x.1 v _).mono ?_
      rintro e w5 ⟨rfl, hE5⟩
      have HM5 := Lib.hid ((HM4.out).ext hE5)
      have HC5 := Lib.hid (show Cls b (w.heap.size + 1 + 1) Wr w5 from HC4.out.ext hE5)
      clear hE5
      have hcr : ∀ i, w5.cell? ⟨w.heap.size + 1 + 1, i, none⟩ = (#[.slice none 0 0, .slice none 0 0] : Array Value)[i]? := fun i => HM5.out.b2.cells i
      have hfr : ∀ i, w5.frozen? ⟨w.heap.size + 1 + 1, i, none⟩ = false := fun i => HM5.out.b2.frozen i
      go_wp2_with fail
      refine ⟨HC5.out, ?_⟩
      try dsimp only [List.eraseIdx]
      refine segE_alt _ rfl ?_ ?_
      · skip
        go_wp2_with fail
        have HM6 := Lib.hid (HM5.out.res _ _ (.slice a3 (T.drop cint x.1 te).toL.length cap3) (.slice a2 Wy.length cap2))
        have HC6 := Lib.hid (HC5.out.res ((Chg.set w5 (w.heap.size + 1 + 1) 0 (.slice a3 (T.drop cint x.1 te).toL.length cap3)).trans (Chg.set _ (w.heap.size + 1 + 1) 1 (.slice a2 Wy.length cap2))))
        refine ⟨HC6.out, ?_⟩
        try dsimp only [List.eraseIdx]
        apply segE_quiet
        · intro W hW
          have hcx : ∀ i, W.cell? ⟨w.heap.size, i, none⟩ = (#[.slice a te.toL.length cap, .slice a2 Wy.length cap2] : Array Value)[i]? := fun i => (hW.blk HMr.out.b0 (by omega) (by omega)).cells i
          have hce : ∀ i, W.cell? ⟨w1.heap.size, i, none⟩ = (#[.int .u64 v.1, .int .i64 v.2.1, .int .i64 v.2.2.1, .int .i64 v.2.2.2.1, .int .i64 v.2.2.2.2.1, .int .i64 v.2.2.2.2.2] : Array Value)[i]? := fun i => (hW.blk HEr.out (by omega) (by omega)).cells i
          have hcf : ∀ i, W.cell? ⟨w3.heap.size, i, none⟩ = (#[.int .u64 x.1, .int .u64 v.1, .int .i64 v.2.1, .int .i64 v.2.2.1, .int .i64 v.2.2.2.1, .int .i64 v.2.2.2.2.1, .int .i64 v.2.2.2.2.2] : Array Value)[i]? := fun i => (hW.blk HN.out (by omega) (by omega)).cells i
          simp only [runsT, runsF, rep, pick]
          go_wp2_with fail
          exact ⟨rfl, rfl⟩
        simp only [runsT, runsF, rep, left]
        apply segE_done
        go_wp2_with fail
        (try simp only [Exit.inBlock, Exit.then])
        refine bodyPost_ret (results_struct (ty := 30) rfl rfl rfl (c := #[.slice a3 (T.drop cint x.1 te).toL.length cap3, .slice a2 Wy.length cap2]) HM6.out.b2 (by kernel_rfl) (by kernel_rfl)) rfl ?_
        exact ⟨_, _, _, _, _, rfl, HM6.out.sh, HM6.out.x, (HI.out.drop x.1), HM6.out.ch⟩
      exact segE_stop
    exact segE_stop
  exact segE_stop

set_option maxRecDepth 100000 in
set_option maxHeartbeats 4000000 in
theorem do_remno (b B : Nat) (uL uW : Value) (te : T Int En) (tw : T Int (Int × Int)) (Wy : List (Int × Int × Int)) (k u : Int) (x : Int × En) (w : World) (hS : ShI.ShardAt w b te tw) (hX : XAt w B uL uW te.toL Wy) (hI : Inv k te tw Wy) (hk : k ≤ 900) (hu0 : 0 ≤ u) (hu1 : u ≤ 18446744073709551615) (hu : u % 7 = 3) (hg : T.get cint x.1 te = none) :
    Calls Try.prog 9 #[.pointer (some ⟨b, 0, none⟩), .agg #[uL, uW], .agg #[.int .u64 u, .int .u64 x.1, .int .u64 x.2.1, .int .i64 x.2.2.1, .int .i64 x.2.2.2.1, .int .i64 x.2.2.2.2.1, .int .i64 x.2.2.2.2.2.1, .int .i64 x.2.2.2.2.2.2]] w (DoPost k b B w) := by
  have HG := Lib.hid hg
  clear hg
  obtain ⟨a, cap, rfl⟩ := hX.l.val
  obtain ⟨a2, cap2, rfl⟩ := hX.y.val
  have d0 : (u % 7 == 0) = false := by have := hu; simp at this ⊢; omega
  have d1 : (u % 7 == 1) = false := by have := hu; simp at this ⊢; omega
  have d2 : (u % 7 == 2) = false := by have := hu; simp at this ⊢; omega
  have d3 : (u % 7 == 3) = true := by have := hu; simp at this ⊢; omega
  have hlb : b < w.heap.size := by obtain ⟨cs, hb⟩ := hS.blk; exact hb.lt
  have HI := Lib.hid hI
  have HS := Lib.hid hS
  have HX := Lib.hid hX
  clear hS hX hI hu
  go_enter Try.func9, Try.ntmps9
  go_wp2_with fail
  obtain ⟨W0, hW0⟩ : ∃ W, (((w.alloc (Obj.cells #[.slice a te.toL.length cap, .slice a2 Wy.length cap2] 30)).alloc (Obj.cells #[.int .u64 u, .int .u64 x.1, .int .u64 x.2.1, .int .i64 x.2.2.1, .int .i64 x.2.2.2.1, .int .i64 x.2.2.2.2.1, .int .i64 x.2.2.2.2.2.1, .int .i64 x.2.2.2.2.2.2] 37)).alloc (Obj.cells #[.slice none 0 0, .slice none 0 0] 30)) = W := ⟨_, rfl⟩
  have hE0 : Ext w W0 := by rw [← hW0]; exact (((Below.refl _ _).alloc (Nat.le_refl _) _).alloc (by simp) _).alloc (by simp; omega) _
  have hB0 : Blk W0 w.heap.size #[.slice a te.toL.length cap, .slice a2 Wy.length cap2] 30 := by rw [← hW0]; exact ((Blk.new _ _ _).ext ((Below.refl _ _).alloc (Nat.le_refl _) _)).ext ((Below.refl _ _).alloc (Nat.le_refl _) _)
  have hB1 : Blk W0 (w.heap.size + 1) #[.int .u64 u, .int .u64 x.1, .int .u64 x.2.1, .int .i64 x.2.2.1, .int .i64 x.2.2.2.1, .int .i64 x.2.2.2.2.1, .int .i64 x.2.2.2.2.2.1, .int .i64 x.2.2.2.2.2.2] 37 := by rw [← hW0]; exact (blk_at (by simp)).ext ((Below.refl _ _).alloc (Nat.le_refl _) _)
  have hB2 : Blk W0 (w.heap.size + 1 + 1) #[.slice none 0 0, .slice none 0 0] 30 := by rw [← hW0]; exact blk_at (by simp)
  rw [hW0]
  have hcp : ∀ i, W0.cell? ⟨w.heap.size + 1, i, none⟩ = (#[.int .u64 u, .int .u64 x.1, .int .u64 x.2.1, .int .i64 x.2.2.1, .int .i64 x.2.2.2.1, .int .i64 x.2.2.2.2.1, .int .i64 x.2.2.2.2.2.1, .int .i64 x.2.2.2.2.2.2] : Array Value)[i]? := fun i => hB1.cells i
  have HM0 := Lib.hid (show Mid w b B _ _ te tw te.toL Wy _ _ _ W0 from ⟨HS.out.ext hE0, HX.out.ext hE0, hB0, hB1, hB2, Chg.of_below hE0, hlb⟩)
  have hcx : ∀ i, W0.cell? ⟨w.heap.size, i, none⟩ = (#[.slice a te.toL.length cap, .slice a2 Wy.length cap2] : Array Value)[i]? := fun i => hB0.cells i
  have hlt0 := HM0.out.lt2
  have hlt1 : w.heap.size + 1 < W0.heap.size := by omega
  have hlt2 : w.heap.size < W0.heap.size := by omega
  have E01 : Ext W0 (W0.drew.alloc (Obj.cells #[.int .u64 x.1, .int .u64 x.2.1] 39)) := (Ext.drew W0).trans ((Below.refl _ _).alloc (Nat.le_refl _) _)
  clear hW0 hE0 hB0 hB1 hB2 HS HX
  refine wp_region_segsK [([2, 1, 2, 3], 0, 0), ([4], 2, 8)] (by kernel_rfl) (by kernel_rfl) ?_
  apply segsK_pure
  · intro W
    simp only [runsT, runsF, rep, pick]
    go_wp2_with fail
    exact ⟨rfl, rfl⟩
  simp only [runsT, runsF, rep, left]
  apply segsK_look
  · simp only [runsT, runsF, rep, pick]
    go_wp2_with fail
    exact ⟨rfl, rfl⟩
  simp only [runsT, runsF, rep, left]
  apply segsK_nil
  go_wp2_with fail
  refine (ShI.Remove_none b te tw x.1 _ (HM0.out.ext E01).sh (by have := HI.out.se; omega) HG.out).mono ?_
  rintro e w1 ⟨rfl, hE1⟩
  have hM1 := HM0.out.ext (E01.trans hE1)
  have hst := Go.run_storeCells_new (P := Try.prog) w1 41 #[.int .u64 0, .int .i64 0, .int .i64 0, .int .i64 0, .int .i64 0, .int .i64 0] #[.int .u64 0, .int .i64 0, .int .i64 0, .int .i64 0, .int .i64 0, .int .i64 0] (by kernel_rfl) rfl (by simp [Value.oneCell'])
  have hl1 := hM1.lt2
  have hl11 : w.heap.size < w1.heap.size := by omega
  have hPb : Blk w1 W0.heap.size #[.int .u64 x.1, .int .u64 x.2.1] 39 := by
    have h0 : Blk (W0.drew.alloc (Obj.cells #[.int .u64 x.1, .int .u64 x.2.1] 39)) W0.heap.size #[.int .u64 x.1, .int .u64 x.2.1] 39 := Blk.new _ _ _
    exact h0.ext hE1
  have hl12 := hPb.lt
  have hcx1 : ∀ i, w1.cell? ⟨w.heap.size, i, none⟩ = (#[.slice a te.toL.length cap, .slice a2 Wy.length cap2] : Array Value)[i]? := fun i => hM1.b0.cells i
  have hcq1 : ∀ i, w1.cell? ⟨W0.heap.size, i, none⟩ = (#[.int .u64 x.1, .int .u64 x.2.1] : Array Value)[i]? := fun i => hPb.cells i
  have HM1 := Lib.hid hM1
  clear hM1 hPb hE1
  go_wp2_with fail
  obtain ⟨W2, hW2⟩ : ∃ W, w1.alloc (.cells #[.int .u64 0, .int .i64 0, .int .i64 0, .int .i64 0, .int .i64 0, .int .i64 0] 41) = W := ⟨_, rfl⟩
  have hE2 : Ext w1 W2 := by rw [← hW2]; exact (Below.refl _ _).alloc (Nat.le_refl _) _
  have hEb : Blk W2 w1.heap.size #[.int .u64 0, .int .i64 0, .int .i64 0, .int .i64 0, .int .i64 0, .int .i64 0] 41 := by rw [← hW2]; exact Blk.new _ _ _
  rw [hW2]
  have HM2 := Lib.hid (HM1.out.ext hE2)
  clear hW2 hE2 hst hcx1 hcq1
  refine (rLook_no _ _ B x.1 _ HM2.out.x HI.out (by omega) HG.out).mono ?_
  rintro e w3 ⟨rfl, hE3⟩
  have hst := Go.run_storeCells_new (P := Try.prog) w3 35 #[.int .u64 0, .int .u64 0, .int .i64 0, .int .i64 0, .int .i64 0, .int .i64 0, .int .i64 0] #[.int .u64 0, .int .u64 0, .int .i64 0, .int .i64 0, .int .i64 0, .int .i64 0, .int .i64 0] (by kernel_rfl) rfl (by simp [Value.oneCell'])
  have HM3 := Lib.hid (HM2.out.ext hE3)
  have HEb := Lib.hid (hEb.ext hE3)
  have hl3 := HEb.out.lt
  have hl31 : w.heap.size < w3.heap.size := by omega
  clear hEb hE3
  go_wp2_with fail
  obtain ⟨Wr, hWr⟩ : ∃ W, w3.alloc (.cells #[.int .u64 0, .int .u64 0, .int .i64 0, .int .i64 0, .int .i64 0, .int .i64 0, .int .i64 0] 35) = W := ⟨_, rfl⟩
  have hEr : Ext w3 Wr := by rw [← hWr]; exact (Below.refl _ _).alloc (Nat.le_refl _) _
  have hN : Blk Wr w3.heap.size #[.int .u64 0, .int .u64 0, .int .i64 0, .int .i64 0, .int .i64 0, .int .i64 0, .int .i64 0] 35 := by rw [← hWr]; exact Blk.new _ _ _
  rw [hWr]
  have HMr := Lib.hid (HM3.out.ext hEr)
  have HEr := Lib.hid (HEb.out.ext hEr)
  have HN := Lib.hid hN
  have hlr := hN.lt
  clear hWr hEr hN hst
  refine wp_region_segsE (Cls b (w.heap.size + 1 + 1) Wr) (.quiet [2, 1, 4, 3] (.alt 0 (.alt 0 (.alt 0 (.quiet [1] .done) .stop) .stop) .stop)) (by kernel_rfl) (by kernel_rfl) (Chg.of_below (Ext.drew Wr)) ?_
  apply segE_quiet
  · intro W hW
    have hcx : ∀ i, W.cell? ⟨w.heap.size, i, none⟩ = (#[.slice a te.toL.length cap, .slice a2 Wy.length cap2] : Array Value)[i]? := fun i => (hW.blk HMr.out.b0 (by omega) (by omega)).cells i
    have hce : ∀ i, W.cell? ⟨w1.heap.size, i, none⟩ = (#[.int .u64 0, .int .i64 0, .int .i64 0, .int .i64 0, .int .i64 0, .int .i64 0] : Array Value)[i]? := fun i => (hW.blk HEr.out (by omega) (by omega)).cells i
    have hcf : ∀ i, W.cell? ⟨w3.heap.size, i, none⟩ = (#[.int .u64 0, .int .u64 0, .int .i64 0, .int .i64 0, .int .i64 0, .int .i64 0, .int .i64 0] : Array Value)[i]? := fun i => (hW.blk HN.out (by omega) (by omega)).cells i
    simp only [runsT, runsF, rep, pick]
    go_wp2_with fail
    exact ⟨rfl, rfl⟩
  simp only [runsT, runsF, rep, left]
  refine segE_alt _ rfl ?_ ?_
  · skip
    go_wp2_with fail
    refine (uRemoveD _ _ B x.1 _ (HMr.out.ext (Ext.drew _)).x HI.out (by omega)).mono ?_
    rintro e w4 ⟨uL', rfl, hX4, hE4⟩
    obtain ⟨a3, cap3, rfl⟩ := hX4.l.val
    have HM4 := Lib.hid (((HMr.out.ext (Ext.drew _)).ext hE4).rows hX4)
    have HC4 := Lib.hid (show Cls b (w.heap.size + 1 + 1) Wr w4 from Chg.of_below ((Ext.drew Wr).trans hE4))
    clear hX4 hE4
    go_wp2_with fail
    refine ⟨HC4.out, ?_⟩
    try dsimp only [List.eraseIdx]
    refine segE_alt _ rfl ?_ ?_
    · skip
      go_wp2_with fail
      refine (same_z _).mono ?_
      rintro e w5 ⟨rfl, hE5⟩
      have HM5 := Lib.hid ((HM4.out).ext hE5)
      have HC5 := Lib.hid (show Cls b (w.heap.size + 1 + 1) Wr w5 from HC4.out.ext hE5)
      clear hE5
      have hcr : ∀ i, w5.cell? ⟨w.heap.size + 1 + 1, i, none⟩ = (#[.slice none 0 0, .slice none 0 0] : Array Value)[i]? := fun i => HM5.out.b2.cells i
      have hfr : ∀ i, w5.frozen? ⟨w.heap.size + 1 + 1, i, none⟩ = false := fun i => HM5.out.b2.frozen i
      go_wp2_with fail
      refine ⟨HC5.out, ?_⟩
      try dsimp only [List.eraseIdx]
      refine segE_alt _ rfl ?_ ?_
      · skip
        go_wp2_with fail
        have HM6 := Lib.hid (HM5.out.res _ _ (.slice a3 (T.drop cint x.1 te).toL.length cap3) (.slice a2 Wy.length cap2))
        have HC6 := Lib.hid (HC5.out.res ((Chg.set w5 (w.heap.size + 1 + 1) 0 (.slice a3 (T.drop cint x.1 te).toL.length cap3)).trans (Chg.set _ (w.heap.size + 1 + 1) 1 (.slice a2 Wy.length cap2))))
        refine ⟨HC6.out, ?_⟩
        try dsimp only [List.eraseIdx]
        apply segE_quiet
        · intro W hW
          have hcx : ∀ i, W.cell? ⟨w.heap.size, i, none⟩ = (#[.slice a te.toL.length cap, .slice a2 Wy.length cap2] : Array Value)[i]? := fun i => (hW.blk HMr.out.b0 (by omega) (by omega)).cells i
          have hce : ∀ i, W.cell? ⟨w1.heap.size, i, none⟩ = (#[.int .u64 0, .int .i64 0, .int .i64 0, .int .i64 0, .int .i64 0, .int .i64 0] : Array Value)[i]? := fun i => (hW.blk HEr.out (by omega) (by omega)).cells i
          have hcf : ∀ i, W.cell? ⟨w3.heap.size, i, none⟩ = (#[.int .u64 0, .int .u64 0, .int .i64 0, .int .i64 0, .int .i64 0, .int .i64 0, .int .i64 0] : Array Value)[i]? := fun i => (hW.blk HN.out (by omega) (by omega)).cells i
          simp only [runsT, runsF, rep, pick]
          go_wp2_with fail
          exact ⟨rfl, rfl⟩
        simp only [runsT, runsF, rep, left]
        apply segE_done
        go_wp2_with fail
        (try simp only [Exit.inBlock, Exit.then])
        refine bodyPost_ret (results_struct (ty := 30) rfl rfl rfl (c := #[.slice a3 (T.drop cint x.1 te).toL.length cap3, .slice a2 Wy.length cap2]) HM6.out.b2 (by kernel_rfl) (by kernel_rfl)) rfl ?_
        have hx := HM6.out.x
        obtain ⟨uv, huv⟩ : ∃ v, v = (.slice a3 (T.drop cint x.1 te).toL.length cap3 : Value) := ⟨_, rfl⟩
        rw [← huv, drop_toL HI.out.upe, rest_none (by rw [assoc_get HI.out.upe]; exact HG.out), huv] at hx
        exact ⟨_, _, _, _, _, rfl, HM6.out.sh, hx, (HI.out.mono (by omega)), HM6.out.ch⟩
      exact segE_stop
    exact segE_stop
  exact segE_stop

set_option maxRecDepth 100000 in
set_option maxHeartbeats 4000000 in
theorem do_remyes (b B : Nat) (uL uW : Value) (te : T Int En) (tw : T Int (Int × Int)) (Wy : List (Int × Int × Int)) (k u : Int) (x : Int × En) (w : World) (hS : ShI.ShardAt w b te tw) (hX : XAt w B uL uW te.toL Wy) (hI : Inv k te tw Wy) (hk : k ≤ 900) (hu0 : 0 ≤ u) (hu1 : u ≤ 18446744073709551615) (hu : u % 7 = 3) (v : En) (hg : T.get cint x.1 te = some v) :
    Calls Try.prog 9 #[.pointer (some ⟨b, 0, none⟩), .agg #[uL, uW], .agg #[.int .u64 u, .int .u64 x.1, .int .u64 x.2.1, .int .i64 x.2.2.1, .int .i64 x.2.2.2.1, .int .i64 x.2.2.2.2.1, .int .i64 x.2.2.2.2.2.1, .int .i64 x.2.2.2.2.2.2]] w (DoPost k b B w) := by
  have HG := Lib.hid hg
  clear hg
  obtain ⟨a, cap, rfl⟩ := hX.l.val
  obtain ⟨a2, cap2, rfl⟩ := hX.y.val
  have d0 : (u % 7 == 0) = false := by have := hu; simp at this ⊢; omega
  have d1 : (u % 7 == 1) = false := by have := hu; simp at this ⊢; omega
  have d2 : (u % 7 == 2) = false := by have := hu; simp at this ⊢; omega
  have d3 : (u % 7 == 3) = true := by have := hu; simp at this ⊢; omega
  have hlb : b < w.heap.size := by obtain ⟨cs, hb⟩ := hS.blk; exact hb.lt
  have HI := Lib.hid hI
  have HS := Lib.hid hS
  have HX := Lib.hid hX
  clear hS hX hI hu
  go_enter Try.func9, Try.ntmps9
  go_wp2_with fail
  obtain ⟨W0, hW0⟩ : ∃ W, (((w.alloc (Obj.cells #[.slice a te.toL.length cap, .slice a2 Wy.length cap2] 30)).alloc (Obj.cells #[.int .u64 u, .int .u64 x.1, .int .u64 x.2.1, .int .i64 x.2.2.1, .int .i64 x.2.2.2.1, .int .i64 x.2.2.2.2.1, .int .i64 x.2.2.2.2.2.1, .int .i64 x.2.2.2.2.2.2] 37)).alloc (Obj.cells #[.slice none 0 0, .slice none 0 0] 30)) = W := ⟨_, rfl⟩
  have hE0 : Ext w W0 := by rw [← hW0]; exact (((Below.refl _ _).alloc (Nat.le_refl _) _).alloc (by simp) _).alloc (by simp; omega) _
  have hB0 : Blk W0 w.heap.size #[.slice a te.toL.length cap, .slice a2 Wy.length cap2] 30 := by rw [← hW0]; exact ((Blk.new _ _ _).ext ((Below.refl _ _).alloc (Nat.le_refl _) _)).ext ((Below.refl _ _).alloc (Nat.le_refl _) _)
  have hB1 : Blk W0 (w.heap.size + 1) #[.int .u64 u, .int .u64 x.1, .int .u64 x.2.1, .int .i64 x.2.2.1, .int .i64 x.2.2.2.1, .int .i64 x.2.2.2.2.1, .int .i64 x.2.2.2.2.2.1, .int .i64 x.2.2.2.2.2.2] 37 := by rw [← hW0]; exact (blk_at (by simp)).ext ((Below.refl _ _).alloc (Nat.le_refl _) _)
  have hB2 : Blk W0 (w.heap.size + 1 + 1) #[.slice none 0 0, .slice none 0 0] 30 := by rw [← hW0]; exact blk_at (by simp)
  rw [hW0]
  have hcp : ∀ i, W0.cell? ⟨w.heap.size + 1, i, none⟩ = (#[.int .u64 u, .int .u64 x.1, .int .u64 x.2.1, .int .i64 x.2.2.1, .int .i64 x.2.2.2.1, .int .i64 x.2.2.2.2.1, .int .i64 x.2.2.2.2.2.1, .int .i64 x.2.2.2.2.2.2] : Array Value)[i]? := fun i => hB1.cells i
  have HM0 := Lib.hid (show Mid w b B _ _ te tw te.toL Wy _ _ _ W0 from ⟨HS.out.ext hE0, HX.out.ext hE0, hB0, hB1, hB2, Chg.of_below hE0, hlb⟩)
  have hcx : ∀ i, W0.cell? ⟨w.heap.size, i, none⟩ = (#[.slice a te.toL.length cap, .slice a2 Wy.length cap2] : Array Value)[i]? := fun i => hB0.cells i
  have hlt0 := HM0.out.lt2
  have hlt1 : w.heap.size + 1 < W0.heap.size := by omega
  have hlt2 : w.heap.size < W0.heap.size := by omega
  have E01 : Ext W0 (W0.drew.alloc (Obj.cells #[.int .u64 x.1, .int .u64 x.2.1] 39)) := (Ext.drew W0).trans ((Below.refl _ _).alloc (Nat.le_refl _) _)
  clear hW0 hE0 hB0 hB1 hB2 HS HX
  refine wp_region_segsK [([2, 1, 2, 3], 0, 0), ([4], 2, 8)] (by kernel_rfl) (by kernel_rfl) ?_
  apply segsK_pure
  · intro W
    simp only [runsT, runsF, rep, pick]
    go_wp2_with fail
    exact ⟨rfl, rfl⟩
  simp only [runsT, runsF, rep, left]
  apply segsK_look
  · simp only [runsT, runsF, rep, pick]
    go_wp2_with fail
    exact ⟨rfl, rfl⟩
  simp only [runsT, runsF, rep, left]
  apply segsK_nil
  go_wp2_with fail
  refine (ShI.Remove_some b te tw x.1 v _ (HM0.out.ext E01).sh (by have := HI.out.se; omega) HG.out).mono ?_
  rintro e w1 ⟨rfl, hS1, hC1⟩
  have hM1 := (HM0.out.ext E01).shard hS1 hC1
  have hst := Go.run_storeCells_new (P := Try.prog) w1 41 #[.int .u64 0, .int .i64 0, .int .i64 0, .int .i64 0, .int .i64 0, .int .i64 0] #[.int .u64 v.1, .int .i64 v.2.1, .int .i64 v.2.2.1, .int .i64 v.2.2.2.1, .int .i64 v.2.2.2.2.1, .int .i64 v.2.2.2.2.2] (by kernel_rfl) rfl (by simp [Value.oneCell'])
  have hl1 := hM1.lt2
  have hl11 : w.heap.size < w1.heap.size := by omega
  have hPb : Blk w1 W0.heap.size #[.int .u64 x.1, .int .u64 x.2.1] 39 := by
    have h0 : Blk (W0.drew.alloc (Obj.cells #[.int .u64 x.1, .int .u64 x.2.1] 39)) W0.heap.size #[.int .u64 x.1, .int .u64 x.2.1] 39 := Blk.new _ _ _
    obtain ⟨cs, hb⟩ := (HM0.out.ext E01).sh.blk
    exact h0.chg hC1 (.one hb (by decide))
  have hl12 := hPb.lt
  have hcx1 : ∀ i, w1.cell? ⟨w.heap.size, i, none⟩ = (#[.slice a te.toL.length cap, .slice a2 Wy.length cap2] : Array Value)[i]? := fun i => hM1.b0.cells i
  have hcq1 : ∀ i, w1.cell? ⟨W0.heap.size, i, none⟩ = (#[.int .u64 x.1, .int .u64 x.2.1] : Array Value)[i]? := fun i => hPb.cells i
  have HM1 := Lib.hid hM1
  clear hM1 hPb hS1 hC1
  go_wp2_with fail
  obtain ⟨W2, hW2⟩ : ∃ W, w1.alloc (.cells #[.int .u64 v.1, .int .i64 v.2.1, .int .i64 v.2.2.1, .int .i64 v.2.2.2.1, .int .i64 v.2.2.2.2.1, .int .i64 v.2.2.2.2.2] 41) = W := ⟨_, rfl⟩
  have hE2 : Ext w1 W2 := by rw [← hW2]; exact (Below.refl _ _).alloc (Nat.le_refl _) _
  have hEb : Blk W2 w1.heap.size #[.int .u64 v.1, .int .i64 v.2.1, .int .i64 v.2.2.1, .int .i64 v.2.2.2.1, .int .i64 v.2.2.2.2.1, .int .i64 v.2.2.2.2.2] 41 := by rw [← hW2]; exact Blk.new _ _ _
  rw [hW2]
  have HM2 := Lib.hid (HM1.out.ext hE2)
  clear hW2 hE2 hst hcx1 hcq1
  refine (rLook_yes _ _ B x.1 v _ HM2.out.x HI.out (by omega) HG.out).mono ?_
  rintro e w3 ⟨rfl, hE3⟩
  have hst := Go.run_storeCells_new (P := Try.prog) w3 35 #[.int .u64 0, .int .u64 0, .int .i64 0, .int .i64 0, .int .i64 0, .int .i64 0, .int .i64 0] #[.int .u64 x.1, .int .u64 v.1, .int .i64 v.2.1, .int .i64 v.2.2.1, .int .i64 v.2.2.2.1, .int .i64 v.2.2.2.2.1, .int .i64 v.2.2.2.2.2] (by kernel_rfl) rfl (by simp [Value.oneCell'])
  have HM3 := Lib.hid (HM2.out.ext hE3)
  have HEb := Lib.hid (hEb.ext hE3)
  have hl3 := HEb.out.lt
  have hl31 : w.heap.size < w3.heap.size := by omega
  clear hEb hE3
  go_wp2_with fail
  obtain ⟨Wr, hWr⟩ : ∃ W, w3.alloc (.cells #[.int .u64 x.1, .int .u64 v.1, .int .i64 v.2.1, .int .i64 v.2.2.1, .int .i64 v.2.2.2.1, .int .i64 v.2.2.2.2.1, .int .i64 v.2.2.2.2.2] 35) = W := ⟨_, rfl⟩
  have hEr : Ext w3 Wr := by rw [← hWr]; exact (Below.refl _ _).alloc (Nat.le_refl _) _
  have hN : Blk Wr w3.heap.size #[.int .u64 x.1, .int .u64 v.1, .int .i64 v.2.1, .int .i64 v.2.2.1, .int .i64 v.2.2.2.1, .int .i64 v.2.2.2.2.1, .int .i64 v.2.2.2.2.2] 35 := by rw [← hWr]; exact Blk.new _ _ _
  rw [hWr]
  have HMr := Lib.hid (HM3.out.ext hEr)
  have HEr := Lib.hid (HEb.out.ext hEr)
  have HN := Lib.hid hN
  have hlr := hN.lt
  clear hWr hEr hN hst
  refine wp_region_segsE (Cls b (w.heap.size + 1 + 1) Wr) (.quiet [2, 1, 4, 3] (.alt 0 (.alt 0 (.alt 0 (.quiet [1] .done) .stop) .stop) .stop)) (by kernel_rfl) (by kernel_rfl) (Chg.of_below (Ext.drew Wr)) ?_
  apply segE_quiet
  · intro W hW
    have hcx : ∀ i, W.cell? ⟨w.heap.size, i, none⟩ = (#[.slice a te.toL.length cap, .slice a2 Wy.length cap2] : Array Value)[i]? := fun i => (hW.blk HMr.out.b0 (by omega) (by omega)).cells i
    have hce : ∀ i, W.cell? ⟨w1.heap.size, i, none⟩ = (#[.int .u64 v.1, .int .i64 v.2.1, .int .i64 v.2.2.1, .int .i64 v.2.2.2.1, .int .i64 v.2.2.2.2.1, .int .i64 v.2.2.2.2.2] : Array Value)[i]? := fun i => (hW.blk HEr.out (by omega) (by omega)).cells i
    have hcf : ∀ i, W.cell? ⟨w3.heap.size, i, none⟩ = (#[.int .u64 x.1, .int .u64 v.1, .int .i64 v.2.1, .int .i64 v.2.2.1, .int .i64 v.2.2.2.1, .int .i64 v.2.2.2.2.1, .int .i64 v.2.2.2.2.2] : Array Value)[i]? := fun i => (hW.blk HN.out (by omega) (by omega)).cells i
    simp only [runsT, runsF, rep, pick]
    go_wp2_with fail
    exact ⟨rfl, rfl⟩
  simp only [runsT, runsF, rep, left]
  refine segE_alt _ rfl ?_ ?_
  · skip
    go_wp2_with fail
    refine (uRemoveD _ _ B x.1 _ (HMr.out.ext (Ext.drew _)).x HI.out (by omega)).mono ?_
    rintro e w4 ⟨uL', rfl, hX4, hE4⟩
    obtain ⟨a3, cap3, rfl⟩ := hX4.l.val
    have HM4 := Lib.hid (((HMr.out.ext (Ext.drew _)).ext hE4).rows hX4)
    have HC4 := Lib.hid (show Cls b (w.heap.size + 1 + 1) Wr w4 from Chg.of_below ((Ext.drew Wr).trans hE4))
    clear hX4 hE4
    go_wp2_with fail
    refine ⟨HC4.out, ?_⟩
    try dsimp only [List.eraseIdx]
    refine segE_alt _ rfl ?_ ?_
    · skip
      go_wp2_with fail
      refine (same_yes x.1 v _).mono ?_
      rintro e w5 ⟨rfl, hE5⟩
      have HM5 := Lib.hid ((HM4.out).ext hE5)
      have HC5 := Lib.hid (show Cls b (w.heap.size + 1 + 1) Wr w5 from HC4.out.ext hE5)
      clear hE5
      have hcr : ∀ i, w5.cell? ⟨w.heap.size + 1 + 1, i, none⟩ = (#[.slice none 0 0, .slice none 0 0] : Array Value)[i]? := fun i => HM5.out.b2.cells i
      have hfr : ∀ i, w5.frozen? ⟨w.heap.size + 1 + 1, i, none⟩ = false := fun i => HM5.out.b2.frozen i
      go_wp2_with fail
      refine ⟨HC5.out, ?_⟩
      try dsimp only [List.eraseIdx]
      refine segE_alt _ rfl ?_ ?_
      · skip
        go_wp2_with fail
        have HM6 := Lib.hid (HM5.out.res _ _ (.slice a3 (T.drop cint x.1 te).toL.length cap3) (.slice a2 Wy.length cap2))
        have HC6 := Lib.hid (HC5.out.res ((Chg.set w5 (w.heap.size + 1 + 1) 0 (.slice a3 (T.drop cint x.1 te).toL.length cap3)).trans (Chg.set _ (w.heap.size + 1 + 1) 1 (.slice a2 Wy.length cap2))))
        refine ⟨HC6.out, ?_⟩
        try dsimp only [List.eraseIdx]
        apply segE_quiet
        · intro W hW
          have hcx : ∀ i, W.cell? ⟨w.heap.size, i, none⟩ = (#[.slice a te.toL.length cap, .slice a2 Wy.length cap2] : Array Value)[i]? := fun i => (hW.blk HMr.out.b0 (by omega) (by omega)).cells i
          have hce : ∀ i, W.cell? ⟨w1.heap.size, i, none⟩ = (#[.int .u64 v.1, .int .i64 v.2.1, .int .i64 v.2.2.1, .int .i64 v.2.2.2.1, .int .i64 v.2.2.2.2.1, .int .i64 v.2.2.2.2.2] : Array Value)[i]? := fun i => (hW.blk HEr.out (by omega) (by omega)).cells i
          have hcf : ∀ i, W.cell? ⟨w3.heap.size, i, none⟩ = (#[.int .u64 x.1, .int .u64 v.1, .int .i64 v.2.1, .int .i64 v.2.2.1, .int .i64 v.2.2.2.1, .int .i64 v.2.2.2.2.1, .int .i64 v.2.2.2.2.2] : Array Value)[i]? := fun i => (hW.blk HN.out (by omega) (by omega)).cells i
          simp only [runsT, runsF, rep, pick]
          go_wp2_with fail
          exact ⟨rfl, rfl⟩
        simp only [runsT, runsF, rep, left]
        apply segE_done
        go_wp2_with fail
        (try simp only [Exit.inBlock, Exit.then])
        refine bodyPost_ret (results_struct (ty := 30) rfl rfl rfl (c := #[.slice a3 (T.drop cint x.1 te).toL.length cap3, .slice a2 Wy.length cap2]) HM6.out.b2 (by kernel_rfl) (by kernel_rfl)) rfl ?_
        exact ⟨_, _, _, _, _, rfl, HM6.out.sh, HM6.out.x, (HI.out.drop x.1), HM6.out.ch⟩
      exact segE_stop
    exact segE_stop
  exact segE_stop

end Go.Proofs.Ytnpfikabcmngpaa.ShP