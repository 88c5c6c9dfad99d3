/-
  What the row's condition of the listed variables gives: the kinds' names and the powers of ten; and the door's own heap meets it.
-/
import Derived.Test.YtjlomdhaigejhaaDoorTrH
import Derived.Test.YtjlomdhaigejhaaDoorRows
import Derived.Lib.LaidTab
import Derived.MakeChecks
import Derived.LaidMore
import Derived.OpenShut
import Derived.ProofKit
namespace Go.Proofs.YtjlomdhaigejhaaDoor.Trc
open Go.Lib Go.ChangeShapes Go.WideShapes Go.ChangeAt Go.RowKit

abbrev laidL : List (String × DataW Unit) := [("math/bits.deBruijn32tab", Rows.laid_math_bits_deBruijn32tab), ("math/bits.deBruijn64tab", Rows.laid_math_bits_deBruijn64tab), ("internal/strconv.uint64pow10", Rows.laid_internal_strconv_uint64pow10), ("cortado/prog.names", Rows.laid_cortado_prog_names)]
theorem gP : Tryd.prog.globalNamed "internal/strconv.uint64pow10" = some 1 := by kernel_rfl
theorem gN : Tryd.prog.globalNamed "cortado/prog.names" = some 0 := by kernel_rfl
theorem tP : (Tryd.prog.globals[1]?).map (·.type) = some 98 := by kernel_rfl
theorem tN : (Tryd.prog.globals[0]?).map (·.type) = some 64 := by kernel_rfl
theorem cU : Tryd.prog.cellsOf 29 = 1 := by kernel_rfl
theorem c9 : Tryd.prog.cellsOf 9 = 1 := by kernel_rfl
theorem cPow : Tryd.prog.cellsOf 98 = 20 := by kernel_rfl
def nmL : List (List UInt8) := [[110, 111, 110, 101], [103, 101, 116], [115, 101, 116], [100, 101, 108], [119, 97, 105, 116], [99, 108, 101, 97, 114], [99, 108, 111, 115, 101], [108, 105, 109, 105, 116]]
theorem nmL_at (k : Nat) (h : k < 8) : nmS k = ⟨((nmL[k]?).getD []).toArray⟩ := by
  match k, h with
  | 0, _ => rfl
  | 1, _ => rfl
  | 2, _ => rfl
  | 3, _ => rfl
  | 4, _ => rfl
  | 5, _ => rfl
  | 6, _ => rfl
  | 7, _ => rfl
theorem of_laid {W : World} (h : laidMetH Tryd.prog laidL W) : Tab W ∧ NamesAt W := by
  rw [MakeChecks.laidMetH_plain _ _ _ (by kernel_rfl)] at h
  obtain ⟨ps, ⟨g0, t0, cs0, f0, p0, q0, -, -, -, -, ⟨g1, t1, cs1, f1, p1, q1, -, -, -, -, ⟨g2, t2, cs2, f2, p2, q2, hg2, ht2, hv2, hd2, ⟨g3, t3, cs3, f3, p3, q3, hg3, ht3, hv3, hd3, _, _⟩, _⟩, _⟩, _⟩, _, _⟩ := h
  obtain rfl := Option.some.inj (gP.symm.trans hg2)
  obtain rfl := Option.some.inj (gN.symm.trans hg3)
  obtain rfl := Option.some.inj (tP.symm.trans ht2)
  obtain rfl := Option.some.inj (tN.symm.trans ht3)
  refine ⟨?_, fun k hk => ?_⟩
  · show Lib.TabIs _ _ _ _ _
    unfold Lib.TabIs
    rw [hv2, ← cells_of_tab (zs := Lib.pow10Tab) Tryd.underlying98 Tryd.underlying29 cU cPow hd2]
  · obtain ⟨xs, m, _, ex, _, hl, hel⟩ := DataW.trod_array Tryd.underlying64 hd3
    have hE := hel k hk
    rw [c9, Nat.mul_one, List.getElem?_eq_getElem (by omega)] at hE
    obtain ⟨s, e1, e2, _⟩ := DataW.trod_string Tryd.underlying9 hE
    have e3 : (xs.map (·.1)) = nmL.map fun l => .lit (.string l) := (DataW.agg.inj (Prod.mk.inj ex).1).symm
    have e4 : (xs.map (·.1))[k]? = (nmL.map fun l => (DataW.lit (.string l) : DataW Unit))[k]? := by rw [e3]
    have hln : nmL.length = 8 := rfl
    rw [List.getElem?_map, List.getElem?_map, List.getElem?_eq_getElem (by omega : k < xs.length), List.getElem?_eq_getElem (by omega : k < nmL.length), e2] at e4
    simp only [Option.map_some, Option.some.injEq, DataW.lit.injEq, Lit.string.injEq] at e4
    have hz : s = nmS k := by
      rw [nmL_at k hk, List.getElem?_eq_getElem (by omega : k < nmL.length), Option.getD_some, ← e4]
    rw [World.var?_cell gN hv3 k, ← hz]
    have h0 : ((cs3.toList.drop k).take 1)[0]? = some (.string s) := by rw [e1]; rfl
    have : cs3.toList[k]? = some (.string s) := by simpa using h0
    simpa using this
theorem door_met (os : Os) (args : Array Value) : laidMetH Tryd.prog laidL ((World.doorLaid Tryd.prog 67 os).forCall (fun _ _ => 0) ⟨#[], args, []⟩).memory :=
  laidMetH_of_parts3 (fuel := 8) (laidMet_of_run' 8 (by kernel_rfl) (by kernel_rfl)) (by kernel_rfl) (by kernel_rfl)
end Go.Proofs.YtjlomdhaigejhaaDoor.Trc
