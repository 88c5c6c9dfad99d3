/-
  Layer 22: the little run when there are too many.
  No condition.
-/
import Derived.Test.YtnpfikabcmngpaaShI
namespace Go.Proofs.Ytnpfikabcmngpaa.ShN
open Go.RowKit Go.Seg Go.Open Go.Lib Rk

theorem awake_any (w : World) : Calls Try.prog 7 #[] w fun e w' => e = .returned (.bool true) ∧ Ext w w' := by
  go_enter Try.func7, Try.ntmps7
  go_wp2_with fail
  refine (ShI.New_shard _).mono ?_
  rintro e w1 ⟨b, rfl, hb, hS, hE⟩
  have HS1 := Lib.hid hS
  have HE1 := Lib.hid hE
  clear hS hE
  go_wp2_with fail
  refine (ShI.Wait_any _ _ _ _ _ 0 _ HS1.out (by decide) (by decide) (by decide) (by decide)).mono ?_
  rintro e w2 ⟨rfl, hS, hC⟩
  have HS2 := Lib.hid hS
  have HE2 := Lib.hid (below_chg HE1.out hC (fun i hi => by rw [hi]; exact hb))
  clear hS hC
  go_wp2_with fail
  refine (ShI.Wait_any _ _ _ _ _ 1 _ HS2.out (by decide) (by decide) (by decide) (by decide)).mono ?_
  rintro e w3 ⟨rfl, hS, hC⟩
  have HS3 := Lib.hid hS
  have HE3 := Lib.hid (below_chg HE2.out hC (fun i hi => by rw [hi]; exact hb))
  clear hS hC
  go_wp2_with fail
  refine (ShI.Done_more _ _ _ _ _ 2 2 false _ HS3.out (by decide) (by decide) (by decide) (by decide) (by decide)).mono ?_
  rintro e w4 ⟨rfl, hS, hC⟩
  have HS4 := Lib.hid hS
  have HE4 := Lib.hid (below_chg HE3.out hC (fun i hi => by rw [hi]; exact hb))
  clear hS hC
  go_wp2_with fail
  refine (ShI.Done_one _ _ _ _ _ 2 true _ HS4.out (by decide) (by decide) (by decide)).mono ?_
  rintro e w5 ⟨rfl, hS, hC⟩
  have HS5 := Lib.hid hS
  have HE5 := Lib.hid (below_chg HE4.out hC (fun i hi => by rw [hi]; exact hb))
  clear hS hC
  go_wp2_with fail
  refine (ShI.Pending_any _ _ _ _ _ HS5.out (by decide)).mono ?_
  rintro e w6 ⟨rfl, hE6⟩
  have hz : ((ShI.wayOf (T.drop cint 5 (T.put cint 5 (2 - 1, 2) (T.put cint 5 (1 + 1, 2) (T.put cint 5 (0 + 1, 1) (.nil : T Int (Int × Int)))))) 5).1 == 0) = true := by decide
  go_wp2_with fail
  go_ret
  exact ⟨by rfl, below_ext HE5.out hE6⟩

end Go.Proofs.Ytnpfikabcmngpaa.ShN
