/-
  A struct stored into a block that is known whole, and loaded out of it, in one step.
  No program in sight; no condition.
-/
import Derived.Test.YtbjkpiobfiebhaaSeg
import Derived.Test.YtbjkpiobfiebhaaOpen
import Derived.Deep.WholeRow
import Derived.Laws.ResultCell
namespace Go.Open
open Go.RowKit Go.Seg
variable {P : Program}

/-- All cells of a block at once: a rewriting for every place. -/
theorem Blk.cells {w : World} {b : Nat} {cs : Array Value} {E : TypeId} (h : Blk w b cs E) (i : Nat) : w.cell? ⟨b, i, none⟩ = cs[i]? := cell_of_row _ _ i cs E (0, 0) h
theorem struct_load {W : World} {b : Nat} {c : Array Value} {E : TypeId} (hB : Blk W b c E) (n : Nat) (hn : c.size = n) : (loadCellsFrom ⟨b, 0, none⟩ 0 n #[]).run P W = .ok c W := by
  subst hn
  have := run_loadCells_list (P := P) W ⟨b, 0, none⟩ c.toList (fun j v hv => by
    have hadd : (⟨b, 0, none⟩ : Addr).add j = ⟨b, j, none⟩ := by unfold Addr.add; split <;> simp_all
    rw [hadd, cell_of_row _ _ j c E (0, 0) hB]
    simpa using hv)
  simpa [loadCells] using this

theorem struct_store {W : World} {b : Nat} {c : Array Value} (c' : Array Value) {E : TypeId} (hB : Blk W b c E) (hi : (P.info? E).map (·.size) = some c'.size) (ho : c.size = c'.size) (h1 : c'.all (·.oneCell') = true) :
    ∃ W', (storeCells ⟨b, 0, none⟩ c'.toList 0).run P W = .ok () W' ∧ Blk W' b c' E ∧ Chg (· = b) W W' := by
  have h := run_storeVar_row (P := P) W b E E c c' hB hi ho h1
  refine ⟨W.setRow b c', ?_, ?_, ?_⟩
  · cases hq : P.info? E with
    | none => simp [hq] at hi
    | some i =>
      have hs : c'.size = i.size := by simp [hq] at hi; omega
      simpa [storeVar, sizeOf, typeInfo, hq, Value.cells, hs] using h
  · exact setRow_heap W b c c' E (0, 0) hB
  · refine ⟨rfl, rfl, rfl, by simp [World.setRow], fun k hk hne => ?_⟩
    simp only [World.setRow, Array.getElem?_modify]
    rw [if_neg (fun e => hne e.symm)]

/-- What has changed besides lies in a block that is new. -/
theorem Chg.onNew {S : Nat → Prop} {w a c : World} (h : Chg S w a) {j : Nat} (k : Chg (· = j) a c) (hj : w.heap.size ≤ j) : Chg S w c :=
  ⟨k.os.trans h.os, k.tape.trans h.tape, k.output.trans h.output, Nat.le_trans h.size k.size, fun i hi hs => (k.block i (Nat.lt_of_lt_of_le hi h.size) (fun e => by omega)).trans (h.block i hi hs)⟩
theorem Chg.set6 (w : World) (b : Nat) (a0 a1 a2 a3 a4 a5 : Value) :
    Chg (· = b) w ((((((w.setCell ⟨b, 0, none⟩ a0).setCell ⟨b, 1, none⟩ a1).setCell ⟨b, 2, none⟩ a2).setCell ⟨b, 3, none⟩ a3).setCell ⟨b, 4, none⟩ a4).setCell ⟨b, 5, none⟩ a5) :=
  (((((Chg.set w b 0 a0).trans (Chg.set _ b 1 a1)).trans (Chg.set _ b 2 a2)).trans (Chg.set _ b 3 a3)).trans (Chg.set _ b 4 a4)).trans (Chg.set _ b 5 a5)
/-- Six cells stored, one by one. -/
theorem Blk.set6 {w : World} {b : Nat} {cs : Array Value} {E : TypeId} (h : Blk w b cs E) (hn : cs.size = 6) (a0 a1 a2 a3 a4 a5 : Value) :
    Blk ((((((w.setCell ⟨b, 0, none⟩ a0).setCell ⟨b, 1, none⟩ a1).setCell ⟨b, 2, none⟩ a2).setCell ⟨b, 3, none⟩ a3).setCell ⟨b, 4, none⟩ a4).setCell ⟨b, 5, none⟩ a5) b #[a0, a1, a2, a3, a4, a5] E := by
  obtain ⟨l⟩ := cs
  match l, hn with
  | [x0, x1, x2, x3, x4, x5], _ =>
    exact (((((h.set 0 a0 rfl).set 1 a1 rfl).set 2 a2 rfl).set 3 a3 rfl).set 4 a4 rfl).set 5 a5 rfl

theorem Blk.set6a {w : World} {b : Nat} {cs : Array Value} {E : TypeId} (h : Blk w b cs E) (hn : cs.size = 6) (a0 a1 a2 a3 a4 a5 : Value) (o : Obj) :
    Blk (((((((w.setCell ⟨b, 0, none⟩ a0).setCell ⟨b, 1, none⟩ a1).setCell ⟨b, 2, none⟩ a2).setCell ⟨b, 3, none⟩ a3).setCell ⟨b, 4, none⟩ a4).setCell ⟨b, 5, none⟩ a5).alloc o) b #[a0, a1, a2, a3, a4, a5] E :=
  (Blk.set6 h hn a0 a1 a2 a3 a4 a5).ext ((Below.refl _ _).alloc (Nat.le_refl _) _)

theorem Ext.set6a {w0 w : World} {b : Nat} (h : Ext w0 w) (hb : w0.heap.size ≤ b) (a0 a1 a2 a3 a4 a5 : Value) (o : Obj) :
    Ext w0 (((((((w.setCell ⟨b, 0, none⟩ a0).setCell ⟨b, 1, none⟩ a1).setCell ⟨b, 2, none⟩ a2).setCell ⟨b, 3, none⟩ a3).setCell ⟨b, 4, none⟩ a4).setCell ⟨b, 5, none⟩ a5).alloc o) := by
  have hs := Below.size h
  refine Below.alloc ?_ (by simpa using hs) _
  exact (((((Below.setCell h hb _).setCell hb _).setCell hb _).setCell hb _).setCell hb _).setCell hb _
theorem Ext.set6 {w0 w : World} {b : Nat} (h : Ext w0 w) (hb : w0.heap.size ≤ b) (a0 a1 a2 a3 a4 a5 : Value) :
    Ext w0 ((((((w.setCell ⟨b, 0, none⟩ a0).setCell ⟨b, 1, none⟩ a1).setCell ⟨b, 2, none⟩ a2).setCell ⟨b, 3, none⟩ a3).setCell ⟨b, 4, none⟩ a4).setCell ⟨b, 5, none⟩ a5) :=
  (((((Below.setCell h hb _).setCell hb _).setCell hb _).setCell hb _).setCell hb _).setCell hb _

/-- The results of a function: a struct out of its block, and a slot. -/
theorem results_struct {fn : Func} {p u : Tmp} {ty : TypeId} (h : fn.results = #[.cell p ty, .tmp u]) {tmps : Array Value} {k : Nat} {c : Array Value} {W : World} {x : Value}
    (hp : tmps.getD p undef = .pointer (some ⟨k, 0, none⟩)) (hx : tmps.getD u undef = x) (hB : Blk W k c ty)
    (hd : (match P.underlying ty with | some (.struct _) | some (.array _ _) => true | _ => false) = true) (hi : (P.info? ty).map (·.size) = some c.size) :
    (results fn tmps).run P W = .ok (.tuple #[.agg c, x]) W := by
  rw [results_cell_tmp h, hp, hx]
  simp only [asAddr, Sem.run_pure, Result.andThen]
  cases hu : P.underlying ty with
  | none => simp [hu] at hd
  | some d =>
  rw [run_loadVar_row W k ty ty c (0, 0) d hB hu (by rw [hu] at hd; cases d <;> first | rfl | exact hd) hi]
end Go.Open
