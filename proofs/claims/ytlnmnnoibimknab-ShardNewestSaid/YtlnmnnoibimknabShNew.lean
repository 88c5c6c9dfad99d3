/-
  ShardNewest: things waiting, and the little run when there are too many.
  No condition.
-/
import Derived.Test.YtlnmnnoibimknabShI
import Derived.Test.YtlnmnnoibimknabShAll
namespace Go.Proofs.Ytlnmnnoibimknab.ShN
open Go.RowKit Go.Seg Go.Open Go.Lib Rk

theorem awake_any (w : World) : Calls Try.prog 19 #[] w fun e w' => e = .returned (.bool true) ∧ Ext w w' := by
  go_enter Try.func19, Try.ntmps19
  go_wp2_with fail
  refine (ShI.New_shard _).mono ?_
  rintro e w1 ⟨b, rfl, hb, hS, hE⟩
  have HS1 := Lib.hid hS
  have HE1 := Lib.hid hE
  clear hS hE
  go_wp2_with fail
  refine (ShI.Wait_any _ _ _ _ _ 0 _ HS1.out (by decide) (by decide) (by decide) (by decide)).mono ?_
  rintro e w2 ⟨rfl, hS, hC⟩
  have HS2 := Lib.hid hS
  have HE2 := Lib.hid (below_chg HE1.out hC (fun i hi => by rw [hi]; exact hb))
  clear hS hC
  go_wp2_with fail
  refine (ShI.Wait_any _ _ _ _ _ 1 _ HS2.out (by decide) (by decide) (by decide) (by decide)).mono ?_
  rintro e w3 ⟨rfl, hS, hC⟩
  have HS3 := Lib.hid hS
  have HE3 := Lib.hid (below_chg HE2.out hC (fun i hi => by rw [hi]; exact hb))
  clear hS hC
  go_wp2_with fail
  refine (ShI.Done_more _ _ _ _ _ 2 2 false _ HS3.out (by decide) (by decide) (by decide) (by decide) (by decide)).mono ?_
  rintro e w4 ⟨rfl, hS, hC⟩
  have HS4 := Lib.hid hS
  have HE4 := Lib.hid (below_chg HE3.out hC (fun i hi => by rw [hi]; exact hb))
  clear hS hC
  go_wp2_with fail
  refine (ShI.Done_one _ _ _ _ _ 2 true _ HS4.out (by decide) (by decide) (by decide)).mono ?_
  rintro e w5 ⟨rfl, hS, hC⟩
  have HS5 := Lib.hid hS
  have HE5 := Lib.hid (below_chg HE4.out hC (fun i hi => by rw [hi]; exact hb))
  clear hS hC
  go_wp2_with fail
  refine (ShI.Pending_any _ _ _ _ _ HS5.out (by decide)).mono ?_
  rintro e w6 ⟨rfl, hE6⟩
  have hz : ((ShI.wayOf (T.drop cint 5 (T.put cint 5 (2 - 1, 2) (T.put cint 5 (1 + 1, 2) (T.put cint 5 (0 + 1, 1) (.nil : T Int (Int × Int)))))) 5).1 == 0) = true := by decide
  go_wp2_with fail
  go_ret
  exact ⟨by rfl, below_ext HE5.out hE6⟩

/-- What waits of two hashes: of the first k, the newest n; of the other nothing. -/
structure Wt (tw : T Int (Int × Int)) (h h' k n : Int) (z : Int) : Prop where
  up : Up cint tw.toL
  one : ShS.wayOf tw h = (k, n)
  other : ShS.wayOf tw h' = (0, 0)
  sz : tw.sz ≤ z
theorem Wt.nil (h h' : Int) : Wt .nil h h' 0 0 0 := ⟨up_nil, rfl, rfl, by simp [T.sz]⟩
theorem Wt.put {tw : T Int (Int × Int)} {h h' k n z : Int} (H : Wt tw h h' k n z) (hne : h' ≠ h) (k' n' : Int) : Wt (T.put cint h (k', n') tw) h h' k' n' (z + 1) :=
  ⟨up_put cint_lawful _ _ H.up, by unfold ShS.wayOf; rw [get_put_self cint_lawful _ _ H.up]; rfl, by have := H.other; unfold ShS.wayOf at this ⊢; rw [get_put_other cint_lawful _ _ _ hne H.up]; exact this, by have := T.sz_put_le cint h (k', n') tw; have := H.sz; omega⟩
theorem Wt.drop {tw : T Int (Int × Int)} {h h' k n z : Int} (H : Wt tw h h' k n z) (hne : h' ≠ h) : Wt (T.drop cint h tw) h h' 0 0 z :=
  ⟨up_drop cint_lawful _ H.up, by unfold ShS.wayOf; rw [get_drop_self cint_lawful _ H.up]; rfl, by have := H.other; unfold ShS.wayOf at this ⊢; rw [get_drop_other cint_lawful _ _ hne H.up]; exact this, by have := T.sz_drop_le cint h tw; have := H.sz; omega⟩
/-- The newest ticket behind the first i. -/
def nl (u : Nat → Bool) : Nat → Int
  | 0 => 0
  | i + 1 => if u i then 2 * i + 1 else 2 * i

/-- What lies there. -/
structure SS (w wr : World) (b : Nat) (te : T Int ShS.Ent) (tw : T Int (Int × Int)) : Prop where
  br : Blk wr w.heap.size #[.bool false] 4
  sh : ShS.ShardAt wr b te tw
  bel : Below w.heap.size w wr
  lb : w.heap.size ≤ b
theorem SS.ext {w wr w' : World} {b : Nat} {te : T Int ShS.Ent} {tw : T Int (Int × Int)} (h : SS w wr b te tw) (e : Ext wr w') : SS w w' b te tw :=
  ⟨h.br.ext e, h.sh.ext e, below_ext h.bel e, h.lb⟩
theorem SS.chg {w wr w' : World} {b : Nat} {te te' : T Int ShS.Ent} {tw tw' : T Int (Int × Int)} (h : SS w wr b te tw) (hc : Chg (· = b) wr w') (hS : ShS.ShardAt w' b te' tw') : SS w w' b te' tw' := by
  obtain ⟨cs, hb⟩ := h.sh.blk
  exact ⟨h.br.chg hc (.one hb (by decide)), hS, below_chg h.bel hc (fun i hi => by rw [hi]; exact h.lb), h.lb⟩
theorem SS.size {w wr : World} {b : Nat} {te : T Int ShS.Ent} {tw : T Int (Int × Int)} (h : SS w wr b te tw) : w.heap.size < wr.heap.size := h.br.lt
end Go.Proofs.Ytlnmnnoibimknab.ShN
