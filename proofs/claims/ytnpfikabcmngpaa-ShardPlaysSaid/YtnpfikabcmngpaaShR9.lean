/-
  The document's answer for layer 22: Done, where something is on its way.
  Fewer than 1,000,000 of each; no other condition.
-/
import Derived.Test.YtnpfikabcmngpaaShR8
namespace Go.Proofs.Ytnpfikabcmngpaa.ShR
open Go.RowKit Go.Seg Go.Open Go.Lib Rk Go.Row

/-- What Done's last region keeps: the boxed shard, and what is on its way. -/
def CD (w : World) (uL uW : Value) (k : Nat) (x : Array Value) (W : World) : Prop := Ext w W ∧ Blk W w.heap.size #[uL, uW] 30 ∧ Blk W k x 52

set_option maxRecDepth 100000 in
set_option maxHeartbeats 4000000 in
theorem rDone_yes (uL uW : Value) (B : Nat) (L : List (Int × En)) (Wy : List (Int × Int × Int)) (h t m n : Int) (v : Bool) (w : World) (hL : RowL w B uL L) (hW : RowW w B uW Wy) (hl : Wy.length ≤ 999998) (hm : wayR Wy h = (m, n)) (h0 : 1 ≤ m) (h1 : m ≤ 1000000) (hv : (n == t) = v) :
    Calls Try.prog 56 #[.agg #[uL, uW], .int .u64 h, .int .i64 t] w fun e w' => ∃ uW', e = .returned (.tuple #[.agg #[uL, uW'], .bool v]) ∧ RowW w' w.heap.size uW' (setR Wy (h, m - 1, n)) ∧ Ext w w' := by
  obtain ⟨a, cap, rfl⟩ := hL.val
  obtain ⟨a2, cap2, rfl⟩ := hW.val
  have HL := Lib.hid hL
  have HW := Lib.hid hW
  have HM := Lib.hid hm
  have d : (m == 0) = false := by simp; omega
  clear hL hW hm
  have hA : Ext w ((w.alloc (Obj.cells #[.slice a L.length cap, .slice a2 Wy.length cap2] 30)).alloc (Obj.cells #[.slice none 0 0, .slice none 0 0] 30)) := ((Below.refl _ _).alloc (Nat.le_refl _) _).alloc (by simp) _
  have HP := Lib.hid (show Blk ((w.alloc (Obj.cells #[.slice a L.length cap, .slice a2 Wy.length cap2] 30)).alloc (Obj.cells #[.slice none 0 0, .slice none 0 0] 30)) w.heap.size #[.slice a L.length cap, .slice a2 Wy.length cap2] 30 from (Blk.new _ _ _).ext ((Below.refl _ _).alloc (Nat.le_refl _) _))
  have HR := Lib.hid (show Blk ((w.alloc (Obj.cells #[.slice a L.length cap, .slice a2 Wy.length cap2] 30)).alloc (Obj.cells #[.slice none 0 0, .slice none 0 0] 30)) (w.heap.size + 1) #[.slice none 0 0, .slice none 0 0] 30 from blk_at (by simp))
  go_enter Try.func56, Try.ntmps56
  go_wp2_with fail
  refine (rWay _ _ B L Wy h _ (HL.out.ext hA) (HW.out.ext hA) (by omega)).mono ?_
  rw [HM.out]
  rintro e w1 ⟨rfl, hE⟩
  have hR1 := HR.out.ext hE
  have hP1 := HP.out.ext hE
  have hlt : w.heap.size + 1 < w1.heap.size := hR1.lt
  have hlt0 : w.heap.size < w1.heap.size := by omega
  have HR1 := Lib.hid hR1
  have HP1 := Lib.hid hP1
  have HE := Lib.hid (below_ext hA hE)
  clear hE hR1 hP1 hA HP HR
  go_wp2_with fail
  obtain ⟨W0, hW0⟩ : ∃ W, w1.alloc (.cells #[.int .u64 h, .int .i64 (m - 1), .int .i64 n] 52) = W := ⟨_, rfl⟩
  have hA2 : Ext w1 W0 := by rw [← hW0]; exact (Below.refl _ _).alloc (Nat.le_refl _) _
  have hB : Blk W0 w1.heap.size #[.int .u64 h, .int .i64 (m - 1), .int .i64 n] 52 := by rw [← hW0]; exact Blk.new _ _ _
  rw [hW0]
  have HC0 := Lib.hid (show CD w (.slice a L.length cap) (.slice a2 Wy.length cap2) w1.heap.size #[.int .u64 h, .int .i64 (m - 1), .int .i64 n] W0.drew from ⟨below_ext (below_ext HE.out hA2) (Ext.drew W0), (HP1.out.ext hA2).ext (Ext.drew W0), hB.ext (Ext.drew W0)⟩)
  have HR0 := Lib.hid ((HR1.out.ext hA2).ext (Ext.drew W0))
  clear hW0 hA2 hB
  refine wp_region_segsE (CD w (.slice a L.length cap) (.slice a2 Wy.length cap2) w1.heap.size #[.int .u64 h, .int .i64 (m - 1), .int .i64 n]) (.quiet [2, 1, 4, 2] (.alt 0 (.alt 0 (.quiet [1] .done) .stop) .stop)) (by kernel_rfl) (by kernel_rfl) (HC0.out) ?_
  apply segE_quiet
  · intro W hW
    have p0 := hW.2.1.cell (i := 0) rfl
    have p1 := hW.2.1.cell (i := 1) rfl
    have y0 := hW.2.2.cell (i := 0) rfl
    have y1 := hW.2.2.cell (i := 1) rfl
    have y2 := hW.2.2.cell (i := 2) rfl
    simp only [runsT, runsF, rep, pick]
    go_wp2_with fail
    exact ⟨rfl, rfl⟩
  simp only [runsT, runsF, rep, left]
  refine segE_alt _ rfl ?_ ?_
  · skip
    go_wp2_with fail
    refine (rset _ _ B L Wy h (m - 1) n _ (HL.out.ext HC0.out.1) (HW.out.ext HC0.out.1) hl).mono ?_
    rintro e w3 ⟨uW', rfl, hR3, hE3⟩
    obtain ⟨a3, cap3, rfl⟩ := hR3.val
    have HC3 := Lib.hid (show CD w (.slice a L.length cap) (.slice a2 Wy.length cap2) w1.heap.size #[.int .u64 h, .int .i64 (m - 1), .int .i64 n] w3 from ⟨below_ext HC0.out.1 hE3, HC0.out.2.1.ext hE3, HC0.out.2.2.ext hE3⟩)
    have HR3 := Lib.hid (HR0.out.ext hE3)
    have HO3 := Lib.hid (hR3.base HC0.out.1.size)
    clear hR3 hE3
    have z0 := HR3.out.cell (i := 0) rfl
    have z1 := HR3.out.cell (i := 1) rfl
    have zf0 := HR3.out.frozen 0
    have zf1 := HR3.out.frozen 1
    go_wp2_with fail
    refine ⟨HC3.out, ?_⟩
    try dsimp only [List.eraseIdx]
    refine segE_alt _ rfl ?_ ?_
    · skip
      go_wp2_with fail
      have HE4 := Lib.hid (Ext.set2 HC3.out.1 (show w.heap.size ≤ w.heap.size + 1 by omega) (.slice a L.length cap) (.slice a3 (setR Wy (h, m - 1, n)).length cap3))
      have HB4 := Lib.hid (Blk.set2 HR3.out rfl (.slice a L.length cap) (.slice a3 (setR Wy (h, m - 1, n)).length cap3))
      refine ⟨⟨HE4.out, (Below.heap_setCell _ _ _ _ (by simp)).trans ((Below.heap_setCell _ _ _ _ (by simp)).trans HC3.out.2.1), (Below.heap_setCell _ _ _ _ (by show w1.heap.size ≠ w.heap.size + 1; omega)).trans ((Below.heap_setCell _ _ _ _ (by show w1.heap.size ≠ w.heap.size + 1; omega)).trans HC3.out.2.2)⟩, ?_⟩
      try dsimp only [List.eraseIdx]
      apply segE_quiet
      · intro W hW
        have p0 := hW.2.1.cell (i := 0) rfl
        have p1 := hW.2.1.cell (i := 1) rfl
        have y0 := hW.2.2.cell (i := 0) rfl
        have y1 := hW.2.2.cell (i := 1) rfl
        have y2 := hW.2.2.cell (i := 2) rfl
        simp only [runsT, runsF, rep, pick]
        go_wp2_with fail
        exact ⟨rfl, rfl⟩
      simp only [runsT, runsF, rep, left]
      apply segE_done
      go_wp2_with fail
      (try simp only [Exit.inBlock, Exit.then])
      refine bodyPost_ret (results_struct (ty := 30) rfl rfl rfl (c := #[.slice a L.length cap, .slice a3 (setR Wy (h, m - 1, n)).length cap3]) HB4.out (by kernel_rfl) (by kernel_rfl)) rfl ?_
      refine ⟨_, rfl, ?_, HE4.out⟩
      exact (RowG.chg HO3.out (Chg.set w3 (w.heap.size + 1) 0 _) (.one HR3.out (by decide))).chg (Chg.set _ (w.heap.size + 1) 1 _) (.one (HR3.out.set 0 _ rfl) (by decide))
    exact segE_stop
  exact segE_stop
end Go.Proofs.Ytnpfikabcmngpaa.ShR
