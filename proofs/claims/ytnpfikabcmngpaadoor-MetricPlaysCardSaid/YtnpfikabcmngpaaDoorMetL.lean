/-
  What the rows' condition of the listed variables gives: the package's names and the powers of ten; and the door's own heap meets it.
-/
import Derived.Test.YtnpfikabcmngpaaDoorMetB
import Derived.Test.YtnpfikabcmngpaaDoorRows
import Derived.Lib.LaidTab
import Derived.MakeChecks
import Derived.LaidMore
import Derived.OpenShut
import Derived.ProofKit
namespace Go.Proofs.YtnpfikabcmngpaaDoor.Met
open Go.Lib Go.ChangeShapes Go.WideShapes Go.ChangeAt Go.RowKit

abbrev laidL : List (String × DataW Unit) := [("math/bits.deBruijn32tab", Rows.laid_math_bits_deBruijn32tab), ("math/bits.deBruijn64tab", Rows.laid_math_bits_deBruijn64tab), ("internal/strconv.uint64pow10", Rows.laid_internal_strconv_uint64pow10), ("cortado/metric.names", Rows.laid_cortado_metric_names)]
theorem gP : Tryd.prog.globalNamed "internal/strconv.uint64pow10" = some 2 := by kernel_rfl
theorem gN : Tryd.prog.globalNamed "cortado/metric.names" = some 0 := by kernel_rfl
theorem tP : (Tryd.prog.globals[2]?).map (·.type) = some 116 := by kernel_rfl
theorem tN : (Tryd.prog.globals[0]?).map (·.type) = some 68 := by kernel_rfl
theorem c33 : Tryd.prog.cellsOf 33 = 1 := by kernel_rfl
theorem c9 : Tryd.prog.cellsOf 9 = 1 := by kernel_rfl
theorem c116 : Tryd.prog.cellsOf 116 = 20 := by kernel_rfl
theorem of_laid {W : World} (h : laidMetH Tryd.prog laidL W) : Tab W ∧ NamesAt W := by
  rw [MakeChecks.laidMetH_plain _ _ _ (by kernel_rfl)] at h
  obtain ⟨ps, ⟨g0, t0, cs0, f0, p0, q0, -, -, -, -, ⟨g1, t1, cs1, f1, p1, q1, -, -, -, -, ⟨g2, t2, cs2, f2, p2, q2, hg2, ht2, hv2, hd2, ⟨g3, t3, cs3, f3, p3, q3, hg3, ht3, hv3, hd3, _, _⟩, _⟩, _⟩, _⟩, _, _⟩ := h
  obtain rfl := Option.some.inj (gP.symm.trans hg2)
  obtain rfl := Option.some.inj (gN.symm.trans hg3)
  obtain rfl := Option.some.inj (tP.symm.trans ht2)
  obtain rfl := Option.some.inj (tN.symm.trans ht3)
  refine ⟨?_, fun k hk => ?_⟩
  · show Lib.TabIs _ _ _ _ _
    unfold Lib.TabIs
    rw [hv2, ← cells_of_tab (zs := Lib.pow10Tab) Tryd.underlying116 Tryd.underlying33 c33 c116 hd2]
  · obtain ⟨xs, m, _, ex, _, hl, hel⟩ := DataW.trod_array Tryd.underlying68 hd3
    have hE := hel k hk
    rw [c9, Nat.mul_one, List.getElem?_eq_getElem (by omega)] at hE
    obtain ⟨s, e1, e2, _⟩ := DataW.trod_string Tryd.underlying9 hE
    have e3 : (xs.map (·.1)) = names.map fun l => .lit (.string l) := (DataW.agg.inj (Prod.mk.inj ex).1).symm
    have e4 : (xs.map (·.1))[k]? = (names.map fun l => (DataW.lit (.string l) : DataW Unit))[k]? := by rw [e3]
    have hln : names.length = 13 := rfl
    rw [List.getElem?_map, List.getElem?_map, List.getElem?_eq_getElem (by omega : k < xs.length), List.getElem?_eq_getElem (by omega : k < names.length), e2] at e4
    simp only [Option.map_some, Option.some.injEq, DataW.lit.injEq, Lit.string.injEq] at e4
    have hz : s = ⟨(nm k).toArray⟩ := by
      unfold nm
      rw [List.getD_eq_getElem?_getD, List.getElem?_eq_getElem (by omega : k < names.length), Option.getD_some, ← e4]
    rw [World.var?_cell gN hv3 k, ← hz]
    have h0 : ((cs3.toList.drop k).take 1)[0]? = some (.string s) := by rw [e1]; rfl
    have : cs3.toList[k]? = some (.string s) := by simpa using h0
    simpa using this
theorem door_met (os : Os) (args : Array Value) : laidMetH Tryd.prog laidL ((World.doorLaid Tryd.prog 72 os).forCall (fun _ _ => 0) ⟨#[], args, []⟩).memory :=
  laidMetH_of_parts3 (fuel := 8) (laidMet_of_run' 8 (by kernel_rfl) (by kernel_rfl)) (by kernel_rfl) (by kernel_rfl)
end Go.Proofs.YtnpfikabcmngpaaDoor.Met
