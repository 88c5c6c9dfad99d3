/-
  What TraceNumbers' condition of the listed variables gives: the kinds' names, the powers of ten, the library's two errors; and the door's own heap meets it.
-/
import Derived.Test.YtjlomdhaigejhaaDoorTrL
import Derived.Test.YtjlomdhaigejhaaDoorTrO
import Derived.Stop.LaidErr
import Derived.LaidLaws
namespace Go.Proofs.YtjlomdhaigejhaaDoor.Trc
open Go.Lib Go.ChangeShapes Go.WideShapes Go.ChangeAt Go.RowKit

abbrev laidM : List (String × DataW Unit) := laidL ++ [("strconv.ErrRange", Rows.laid_strconv_ErrRange), ("strconv.ErrSyntax", Rows.laid_strconv_ErrSyntax)]
theorem gES : Tryd.prog.globalNamed "strconv.ErrSyntax" = some 2 := by kernel_rfl
theorem gER : Tryd.prog.globalNamed "strconv.ErrRange" = some 3 := by kernel_rfl
theorem gESt : (Tryd.prog.globals[2]?).map (·.type) = some 59 := by kernel_rfl
theorem gERt : (Tryd.prog.globals[3]?).map (·.type) = some 59 := by kernel_rfl
theorem cellsE : Tryd.prog.cellsOf 111 = 1 := by kernel_rfl
theorem star : "*" ++ "errors.errorString" = "*errors.errorString" := by decide
theorem rowE (u : TypeId) (h : Tryd.prog.typeName? 3 u = some "*errors.errorString") : u = 109 :=
  typeName_ptr_named (nm := "errors.errorString") (by rw [star]; kernel_rfl) (by kernel_rfl) (by decide) u (by rw [star]; exact h)
theorem of_laidM {W : World} (h : laidMetH Tryd.prog laidM W) : Tab W ∧ NamesAt W ∧ ErrAt W := by
  rw [MakeChecks.laidMetH_plain _ _ _ (by kernel_rfl)] at h
  have hL := h
  obtain ⟨a0, s0, hv0, -, -, -⟩ := laid_sentinel hL.tail.tail.tail.tail gER gERt Tryd.underlying59 rowE Tryd.underlying109 Tryd.underlying111 rfl rfl Tryd.underlying9 cellsE c9
  obtain ⟨a1, s1, hv1, -, -, -⟩ := laid_sentinel hL.tail.tail.tail.tail.tail gES gESt Tryd.underlying59 rowE Tryd.underlying109 Tryd.underlying111 rfl rfl Tryd.underlying9 cellsE c9
  have hTN : Tab W ∧ NamesAt W := by
    obtain ⟨ps, ⟨g0, t0, cs0, f0, p0, q0, -, -, -, -, ⟨g1, t1, cs1, f1, p1, q1, -, -, -, -, ⟨g2, t2, cs2, f2, p2, q2, hg2, ht2, hv2, hd2, ⟨g3, t3, cs3, f3, p3, q3, hg3, ht3, hv3, hd3, _, _⟩, _⟩, _⟩, _⟩, _, _⟩ := h
    obtain rfl := Option.some.inj (gP.symm.trans hg2)
    obtain rfl := Option.some.inj (gN.symm.trans hg3)
    obtain rfl := Option.some.inj (tP.symm.trans ht2)
    obtain rfl := Option.some.inj (tN.symm.trans ht3)
    refine ⟨?_, fun k hk => ?_⟩
    · show Lib.TabIs _ _ _ _ _
      unfold Lib.TabIs
      rw [hv2, ← cells_of_tab (zs := Lib.pow10Tab) Tryd.underlying98 Tryd.underlying29 cU cPow hd2]
    · obtain ⟨xs, m, _, ex, _, hl, hel⟩ := DataW.trod_array Tryd.underlying64 hd3
      have hE := hel k hk
      rw [c9, Nat.mul_one, List.getElem?_eq_getElem (by omega)] at hE
      obtain ⟨s, e1, e2, _⟩ := DataW.trod_string Tryd.underlying9 hE
      have e3 : (xs.map (·.1)) = nmL.map fun l => .lit (.string l) := (DataW.agg.inj (Prod.mk.inj ex).1).symm
      have e4 : (xs.map (·.1))[k]? = (nmL.map fun l => (DataW.lit (.string l) : DataW Unit))[k]? := by rw [e3]
      have hln : nmL.length = 8 := rfl
      rw [List.getElem?_map, List.getElem?_map, List.getElem?_eq_getElem (by omega : k < xs.length), List.getElem?_eq_getElem (by omega : k < nmL.length), e2] at e4
      simp only [Option.map_some, Option.some.injEq, DataW.lit.injEq, Lit.string.injEq] at e4
      have hz : s = nmS k := by
        rw [nmL_at k hk, List.getElem?_eq_getElem (by omega : k < nmL.length), Option.getD_some, ← e4]
      rw [World.var?_cell gN hv3 k, ← hz]
      have h0 : ((cs3.toList.drop k).take 1)[0]? = some (.string s) := by rw [e1]; rfl
      have : cs3.toList[k]? = some (.string s) := by simpa using h0
      simpa using this
  exact ⟨hTN.1, hTN.2, ⟨_, _, hv1⟩, _, _, hv0⟩
theorem door_metM (os : Os) (args : Array Value) : laidMetH Tryd.prog laidM ((World.doorLaid Tryd.prog 67 os).forCall (fun _ _ => 0) ⟨#[], args, []⟩).memory :=
  laidMetH_of_parts3 (fuel := 8) (laidMet_of_run' 8 (by kernel_rfl) (by kernel_rfl)) (by kernel_rfl) (by kernel_rfl)
end Go.Proofs.YtjlomdhaigejhaaDoor.Trc
