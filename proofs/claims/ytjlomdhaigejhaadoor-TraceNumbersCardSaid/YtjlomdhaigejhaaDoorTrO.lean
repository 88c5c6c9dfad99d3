/-
  Layer 45: TraceNumbers.
  The library's table and errors, and the kinds' names lie there; no other condition.
-/
import Derived.Test.YtjlomdhaigejhaaDoorTrN
import Derived.Test.YtjlomdhaigejhaaDoorTrH
namespace Go.Proofs.YtjlomdhaigejhaaDoor.Trc
open Go.RowKit Go.Shelf Go.Seg Go.Open Go.Lib Prg

set_option maxHeartbeats 4000000 in
set_option maxRecDepth 100000 in
theorem numbers_walk (n : Int) (s : ByteArray) (hn : I64 n) (w : World) (hN : NamesAt w) (hT : Tab w) (hE : ErrAt w) :
    Calls Tryd.prog 4 #[.int .i64 n, .string s] w fun e w' => e = .returned (.bool true) ∧ Ext w w' := by
  have HT := Lib.hid hT
  have HN := Lib.hid hN
  have HEr := Lib.hid hE
  have HI := Lib.hid hn
  clear hT hN hE hn
  by_cases h40 : 40 < s.size
  · have d : decide ((40 : Int) < (s.size : Int)) = true := decide_eq_true (by omega)
    have d' : decide (40 < s.size) = true := decide_eq_true h40
    clear h40
    go_enter Tryd.func4, Tryd.ntmps4
    go_wp2_with fail
    refine (awake_any _ HT.out HN.out).mono ?_
    rintro e w1 ⟨rfl, hE1⟩
    have HX1 := Lib.hid hE1
    clear hE1
    go_wp2_with fail
    go_ret
    exact ⟨rfl, HX1.out⟩
  · have d : decide ((40 : Int) < (s.size : Int)) = false := decide_eq_false (by omega)
    have d' : decide (40 < s.size) = false := decide_eq_false h40
    have HS := Lib.hid (show s.size ≤ 40 by omega)
    clear h40
    go_enter Tryd.func4, Tryd.ntmps4
    go_wp2_with fail
    refine (Num_any s HS.out _ HT.out HEr.out).mono ?_
    rintro e w1 ⟨m, ok, rfl, hR, hE1⟩
    have HR := Lib.hid hR
    have HX1 := Lib.hid hE1
    clear hE1 hR
    go_wp2_with fail
    refine (rNum s HS.out _).mono ?_
    rintro e w2 ⟨x, is, rfl, hR2, hE2⟩
    obtain ⟨rfl, rfl⟩ := NumR.uniq hR2 HR.out
    have HX2 := Lib.hid (HX1.out.trans hE2)
    clear hE2 hR2
    go_wp2_with fail
    refine (Int_any n HI.out _ (tab_ext HT.out HX2.out)).mono ?_
    rintro e w3 ⟨rfl, hE3⟩
    have HX3 := Lib.hid (HX2.out.trans hE3)
    clear hE3
    obtain ⟨t, ht⟩ : ∃ t, intS n = t := ⟨_, rfl⟩
    have HTt := Lib.hid ht
    rw [ht]
    clear ht
    go_wp2_with fail
    refine (Num_any t (by rw [← HTt.out]; exact Nat.le_trans (intS_size HI.out) (by decide)) _ (tab_ext HT.out HX3.out) (HEr.out.ext HX3.out)).mono ?_
    rintro e w4 ⟨b, fine, rfl, hR4, hE4⟩
    obtain ⟨hb, hf⟩ := NumR.uniq hR4 (.inl ⟨rfl, HI.out, HTt.out⟩)
    subst hb hf
    have HX4 := Lib.hid (HX3.out.trans hE4)
    clear hE4 hR4
    go_wp2_with fail
    refine (Int_any b HI.out _ (tab_ext HT.out HX4.out)).mono ?_
    rw [HTt.out]
    rintro e w5 ⟨rfl, hE5⟩
    have HX5 := Lib.hid (HX4.out.trans hE5)
    clear hE5
    go_wp2_with fail
    refine (rInt b HI.out _).mono ?_
    rw [HTt.out]
    rintro e w6 ⟨rfl, hE6⟩
    have HX6 := Lib.hid (HX5.out.trans hE6)
    clear hE6
    have dt : (t.toList == t.toList) = true := beq_self_eq_true _
    have db : (is == is) = true := beq_self_eq_true _
    go_wp2_with fail
    refine (awake_any _ (tab_ext HT.out HX6.out) (HN.out.ext HX6.out)).mono ?_
    rintro e w7 ⟨rfl, hE7⟩
    have HX7 := Lib.hid (HX6.out.trans hE7)
    clear hE7
    go_wp2_with fail
    go_ret
    exact ⟨rfl, HX7.out⟩
end Go.Proofs.YtjlomdhaigejhaaDoor.Trc
