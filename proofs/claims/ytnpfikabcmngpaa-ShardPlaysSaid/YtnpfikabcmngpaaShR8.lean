/-
  The document's answer for layer 22: Wait.
  Fewer than 1,000,000 of each; no other condition.
-/
import Derived.Test.YtnpfikabcmngpaaShR7
namespace Go.Proofs.Ytnpfikabcmngpaa.ShR
open Go.RowKit Go.Seg Go.Open Go.Lib Rk Go.Row

theorem field1 (x y z : Value) (w : World) : (Instr.field 52 (.agg #[x, y, z]) 1).run Try.prog w = .ok y w := by kernel_rfl
/-- What Wait's region keeps: the boxed shard. -/
def CW (w : World) (uL uW : Value) (W : World) : Prop := Ext w W ∧ Blk W w.heap.size #[uL, uW] 30

set_option maxRecDepth 100000 in
set_option maxHeartbeats 4000000 in
theorem rWait (uL uW : Value) (B : Nat) (L : List (Int × En)) (Wy : List (Int × Int × Int)) (h t m : Int) (w : World) (hL : RowL w B uL L) (hW : RowW w B uW Wy) (hl : Wy.length ≤ 999998) (hm : (wayR Wy h).1 = m) (h0 : 0 ≤ m) (h1 : m ≤ 1000000) :
    Calls Try.prog 53 #[.agg #[uL, uW], .int .u64 h, .int .i64 t] w fun e w' => ∃ uW', e = .returned (.agg #[uL, uW']) ∧ RowW w' w.heap.size uW' (setR Wy (h, m + 1, t)) ∧ Ext w w' := by
  obtain ⟨a, cap, rfl⟩ := hL.val
  obtain ⟨a2, cap2, rfl⟩ := hW.val
  have HL := Lib.hid hL
  have HW := Lib.hid hW
  have HM := Lib.hid hm
  clear hL hW hm
  have hf1 := field1
  go_enter Try.func53, Try.ntmps53
  go_wp2_with fail
  obtain ⟨W0, hW0⟩ : ∃ W, (w.alloc (.cells #[.slice a L.length cap, .slice a2 Wy.length cap2] 30)).alloc (.cells #[.slice none 0 0, .slice none 0 0] 30) = W := ⟨_, rfl⟩
  have hE0 : Ext w W0 := by rw [← hW0]; exact ((Below.refl _ _).alloc (Nat.le_refl _) _).alloc (by simp) _
  have hP : Blk W0 w.heap.size #[.slice a L.length cap, .slice a2 Wy.length cap2] 30 := by rw [← hW0]; exact (Blk.new _ _ _).ext ((Below.refl _ _).alloc (Nat.le_refl _) _)
  have hR : Blk W0 (w.heap.size + 1) #[.slice none 0 0, .slice none 0 0] 30 := by rw [← hW0]; exact blk_at (by simp)
  rw [hW0]
  have HC0 := Lib.hid (show CW w (.slice a L.length cap) (.slice a2 Wy.length cap2) W0.drew from ⟨below_ext hE0 (Ext.drew W0), hP.ext (Ext.drew W0)⟩)
  have HR0 := Lib.hid (hR.ext (Ext.drew W0))
  clear hW0 hE0 hP hR
  refine wp_region_segsE (CW w (.slice a L.length cap) (.slice a2 Wy.length cap2)) (.quiet [4, 3, 1, 3] (.alt 0 (.quiet [3, 2] (.alt 0 (.alt 0 .done .stop) .stop)) .stop)) (by kernel_rfl) (by kernel_rfl) (HC0.out) ?_
  apply segE_quiet
  · intro W hW
    have p0 := hW.2.cell (i := 0) rfl
    have p1 := hW.2.cell (i := 1) rfl
    simp only [runsT, runsF, rep, pick]
    go_wp2_with fail
    exact ⟨rfl, rfl⟩
  simp only [runsT, runsF, rep, left]
  refine segE_alt _ rfl ?_ ?_
  · skip
    go_wp2_with fail
    refine (rWay _ _ B L Wy h _ (HL.out.ext HC0.out.1) (HW.out.ext HC0.out.1) (by omega)).mono ?_
    rw [HM.out]
    rintro e w2 ⟨rfl, hE2⟩
    have HC2 := Lib.hid (show CW w (.slice a L.length cap) (.slice a2 Wy.length cap2) w2 from ⟨below_ext HC0.out.1 hE2, HC0.out.2.ext hE2⟩)
    have HR2 := Lib.hid (HR0.out.ext hE2)
    clear hE2
    go_wp2_with fail
    refine ⟨HC2.out, ?_⟩
    try dsimp only [List.eraseIdx]
    apply segE_quiet
    · intro W hW
      simp only [runsT, runsF, rep, pick]
      go_wp2_with fail
      exact ⟨rfl, rfl⟩
    simp only [runsT, runsF, rep, left]
    refine segE_alt _ rfl ?_ ?_
    · skip
      go_wp2_with fail
      refine (rset _ _ B L Wy h (m + 1) t _ (HL.out.ext HC2.out.1) (HW.out.ext HC2.out.1) hl).mono ?_
      rintro e w3 ⟨uW', rfl, hR3, hE3⟩
      obtain ⟨a3, cap3, rfl⟩ := hR3.val
      have HC3 := Lib.hid (show CW w (.slice a L.length cap) (.slice a2 Wy.length cap2) w3 from ⟨below_ext HC2.out.1 hE3, HC2.out.2.ext hE3⟩)
      have HR3 := Lib.hid (HR2.out.ext hE3)
      have HO3 := Lib.hid (hR3.base HC2.out.1.size)
      clear hR3 hE3
      have z0 := HR3.out.cell (i := 0) rfl
      have z1 := HR3.out.cell (i := 1) rfl
      have zf0 := HR3.out.frozen 0
      have zf1 := HR3.out.frozen 1
      go_wp2_with fail
      refine ⟨HC3.out, ?_⟩
      try dsimp only [List.eraseIdx]
      refine segE_alt _ rfl ?_ ?_
      · skip
        go_wp2_with fail
        have HE4 := Lib.hid (Ext.set2 HC3.out.1 (show w.heap.size ≤ w.heap.size + 1 by omega) (.slice a L.length cap) (.slice a3 (setR Wy (h, m + 1, t)).length cap3))
        have HB4 := Lib.hid (Blk.set2 HR3.out rfl (.slice a L.length cap) (.slice a3 (setR Wy (h, m + 1, t)).length cap3))
        refine ⟨⟨HE4.out, (Below.heap_setCell _ _ _ _ (by simp)).trans ((Below.heap_setCell _ _ _ _ (by simp)).trans HC3.out.2)⟩, ?_⟩
        try dsimp only [List.eraseIdx]
        apply segE_done
        go_wp2_with fail
        (try simp only [Exit.inBlock, Exit.then])
        refine bodyPost_ret (results_one (ty := 30) rfl rfl (c := #[.slice a L.length cap, .slice a3 (setR Wy (h, m + 1, t)).length cap3]) HB4.out (by kernel_rfl) (by kernel_rfl)) rfl ?_
        refine ⟨_, rfl, ?_, HE4.out⟩
        exact (RowG.chg HO3.out (Chg.set w3 (w.heap.size + 1) 0 _) (.one HR3.out (by decide))).chg (Chg.set _ (w.heap.size + 1) 1 _) (.one (HR3.out.set 0 _ rfl) (by decide))
      exact segE_stop
    exact segE_stop
  exact segE_stop
end Go.Proofs.Ytnpfikabcmngpaa.ShR
