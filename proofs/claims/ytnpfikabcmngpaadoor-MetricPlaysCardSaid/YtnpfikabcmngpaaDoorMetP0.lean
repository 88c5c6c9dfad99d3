/-
  Package metric: what MetricPlays' walk keeps, and the plain facts of its answers.
-/
import Derived.Test.YtnpfikabcmngpaaDoorMetC
import Derived.Test.YtnpfikabcmngpaaDoorMetR3
namespace Go.Proofs.YtnpfikabcmngpaaDoor.Met
open Go.RowKit Go.Seg Go.Open Go.Lib

theorem inR_addL {l : List Int} (h : InR l) (kind n : Int) : InR (addL l kind n) := fun k => by
  unfold addL
  split
  · by_cases e : kind.toNat = k
    · by_cases hk : k < l.length
      · rw [List.getD_eq_getElem?_getD, e, List.getElem?_set_self hk]; exact wr_in _
      · rw [List.getD_eq_getElem?_getD, List.getElem?_eq_none (by simp; omega)]; exact ⟨Int.le_refl _, by decide⟩
    · rw [List.getD_eq_getElem?_getD, List.getElem?_set_ne e, ← List.getD_eq_getElem?_getD]; exact h k
  · exact h k
theorem inR_moveL {l : List Int} (h : InR l) (a b : Int) : InR (moveL l a b) := by unfold moveL; split <;> exact inR_addL h _ _
theorem inR_zero : InR (List.replicate 13 0) := by rw [zero_vec]; exact vec_inR _
theorem since_get (l : List Int) (g : Int → Int) (hg : ∀ i, ¬ (0 ≤ i ∧ i < 13) → g i = 0) (i : Int) : getL (sinceL l (fun k => g k)) i = wr (getL l i - g i) := by
  unfold getL
  by_cases hi : 0 ≤ i ∧ i < 13
  · rw [if_pos hi, if_pos hi]
    obtain ⟨k, rfl⟩ : ∃ k : Nat, i = k := ⟨i.toNat, by omega⟩
    have hk : k < 13 := by omega
    rw [Int.toNat_natCast]
    simp [sinceL, List.getD_eq_getElem?_getD, hk]
  · rw [if_neg hi, if_neg hi, hg i hi]; rfl
theorem getL_out (l : List Int) (i : Int) (h : ¬ (0 ≤ i ∧ i < 13)) : getL l i = 0 := by unfold getL; rw [if_neg h]
theorem getL_nat (l : List Int) (k : Nat) (h : k < 13) : getL l k = l.getD k 0 := by unfold getL; rw [if_pos (by omega), Int.toNat_natCast]
theorem even_plain {l : List Int} (hr : InR l) : evenG (getL l) = (l.getD 2 0 == wr (wr (wr (wr (l.getD 3 0 + l.getD 4 0) + l.getD 5 0) + l.getD 6 0) + l.getD 7 0)) := by
  have h2 := hr 2
  have e : ∀ k : Nat, k < 13 → getL l k = l.getD k 0 := fun k h => getL_nat l k h
  unfold evenG
  simp only [lefts]
  rw [show getL l (3 + ((4 : Nat) : Int)) = l.getD 7 0 from e 7 (by decide), show getL l (3 + ((3 : Nat) : Int)) = l.getD 6 0 from e 6 (by decide), show getL l (3 + ((2 : Nat) : Int)) = l.getD 5 0 from e 5 (by decide), show getL l (3 + ((1 : Nat) : Int)) = l.getD 4 0 from e 4 (by decide), show getL l (3 + ((0 : Nat) : Int)) = l.getD 3 0 from e 3 (by decide), show getL l 2 = l.getD 2 0 from e 2 (by decide)]
  generalize l.getD 2 0 = a at *
  generalize l.getD 3 0 = b
  generalize l.getD 4 0 = c
  generalize l.getD 5 0 = d
  generalize l.getD 6 0 = f
  generalize l.getD 7 0 = g
  unfold wr
  simp only [IntKind.wrap_u64]
  rw [Bool.eq_iff_iff]
  simp only [beq_iff_eq]
  constructor <;> intro h <;> omega
theorem nameOf_nat (j : Nat) (hj : j < 13) {s : List UInt8} (hs : nm j = s) : nameOf (j : Int) = s := by
  unfold nameOf; rw [if_pos (by omega), Int.toNat_natCast, hs]
theorem nameOf_out (z : Int) (h : ¬ (0 ≤ z ∧ z < 13)) : nameOf z = [] := by unfold nameOf; rw [if_neg h]
theorem nat_of_in {z : Int} (h : 0 ≤ z ∧ z < 13) : ∃ j : Nat, j < 13 ∧ z = (j : Int) := ⟨z.toNat, by omega, by omega⟩
theorem lt13 {j : Nat} (h : j < 13) : (j : Int) < 13 := by omega
theorem used_plain {l : List Int} {a b : Int} (ha : l.getD 8 0 = a) (hb : l.getD 9 0 = b) : usedL l = IntKind.u64.wrap (a - b) := by
  unfold usedL
  rw [show getL l 8 = l.getD 8 0 from getL_nat l 8 (by decide), show getL l 9 = l.getD 9 0 from getL_nat l 9 (by decide), ha, hb]
  unfold wr
  rfl
theorem even_at {l : List Int} (hr : InR l) {y2 y3 y4 y5 y6 y7 : Int} (h2 : l.getD 2 0 = y2) (h3 : l.getD 3 0 = y3) (h4 : l.getD 4 0 = y4) (h5 : l.getD 5 0 = y5) (h6 : l.getD 6 0 = y6) (h7 : l.getD 7 0 = y7) :
    evenG (getL l) = (y2 == IntKind.u64.wrap (IntKind.u64.wrap (IntKind.u64.wrap (IntKind.u64.wrap (y3 + y4) + y5) + y6) + y7)) := by
  rw [even_plain hr, h2, h3, h4, h5, h6, h7]
  unfold wr
  rfl
theorem since_at {l lw : List Int} {i y y' : Int} (h : getL l i = y) (h' : getL lw i = y') : getL (sinceL l (getL lw)) i = IntKind.u64.wrap (y - y') := by
  have := since_get l (getL lw) (getL_out lw) i
  rw [h, h'] at this
  unfold wr at this
  exact this
/-- What lies there between two steps. -/
structure PS (w wr : World) (A Wb : Nat) (vx vo : Value) (l lw : List Int) : Prop where
  ext : Ext w wr
  ba : BoardAt wr A l
  bw : BoardAt wr Wb lw
  ux : UU wr w.heap.size vx l
  uo : UU wr w.heap.size vo lw
  hA : w.heap.size ≤ A
  hw : w.heap.size ≤ Wb
  ne : A ≠ Wb
  ir : InR l
  iw : InR lw
variable {w wr W : World} {A Wb : Nat} {vx vo : Value} {l lw l' : List Int}
theorem PS.step (h : PS w wr A Wb vx vo l lw) (e : Ext wr W) : PS w W A Wb vx vo l lw := ⟨h.ext.trans e, h.ba.ext e, h.bw.ext e, h.ux.ext e, h.uo.ext e, h.hA, h.hw, h.ne, h.ir, h.iw⟩
/-- The board has turned, the document's row not yet. -/
structure PS2 (w wr : World) (A Wb : Nat) (vx vo : Value) (l l' lw : List Int) : Prop where
  ext : Ext w wr
  ba : BoardAt wr A l'
  bw : BoardAt wr Wb lw
  ux : UU wr w.heap.size vx l
  uo : UU wr w.heap.size vo lw
  hA : w.heap.size ≤ A
  hw : w.heap.size ≤ Wb
  ne : A ≠ Wb
  ir : InR l'
  iw : InR lw
  len : l.length = 13
theorem PS2.step (h : PS2 w wr A Wb vx vo l l' lw) (e : Ext wr W) : PS2 w W A Wb vx vo l l' lw := ⟨h.ext.trans e, h.ba.ext e, h.bw.ext e, h.ux.ext e, h.uo.ext e, h.hA, h.hw, h.ne, h.ir, h.iw, h.len⟩
theorem PS.turned (h : PS w wr A Wb vx vo l lw) (hb : BoardAt W A l') (hc : Chg (· = A) wr W) (hi : InR l') : PS2 w W A Wb vx vo l l' lw :=
  ⟨ext_chg h.ext hc h.hA, hb, h.bw.other hc h.ne.symm, own_chg h.ux hc (.one h.ba.2 (by decide)), own_chg h.uo hc (.one h.ba.2 (by decide)), h.hA, h.hw, h.ne, hi, h.iw, h.ba.1⟩
theorem PS2.both {u : Value} (h : PS2 w wr A Wb vx vo l l' lw) (hu : UU W wr.heap.size u l') (e : Ext wr W) : PS w W A Wb u vo l' lw :=
  ⟨h.ext.trans e, h.ba.ext e, h.bw.ext e, hu.base h.ext.size, h.uo.ext e, h.hA, h.hw, h.ne, h.ir, h.iw⟩
theorem PS.cloned {C : Nat} (h : PS w wr A Wb vx vo l lw) (hb : BoardAt W C l) (hC : C = wr.heap.size) (e : Ext wr W) : PS w W A C vx vx l l :=
  ⟨h.ext.trans e, h.ba.ext e, hb, h.ux.ext e, h.ux.ext e, h.hA, by have := h.ext.size; omega, by have := h.ba.lt; omega, h.ir, h.ir⟩
def st3 (l : List Int) (f : Int × Int × Int) : List Int := if f.1 = -7 then moveL l f.2.1 f.2.2 else addL l f.1 (u64 f.2.1)
theorem make_u64 (w : World) : (Instr.makeSlice 27 (.int .i64 13) (.int .i64 13)).run Tryd.prog w = .ok (.slice (some ⟨w.heap.size, 0, none⟩) 13 13) (w.alloc (.cells (Array.replicate 13 (.int .u64 0)) 33)) := by
  obtain ⟨i0, hi, hz0, hz1, hz2⟩ := info_parts RU.hi
  have h := run_makeSlice (w := w) 27 33 i0 (.int .u64 0) Tryd.underlying27 hi hz0 .i64 .i64 13 13 (by omega) (by omega) (by rw [hz1]; decide) (by rw [hz2]; decide) (by omega)
  rw [h, hz1]
  have e : madeCells (Value.int .u64 0).cells ((13 : Int).toNat * RU.size) = Array.replicate 13 (Value.int .u64 0) := by
    show madeCells (Value.int .u64 0).cells (13 * 1) = _
    apply Array.ext_getElem?
    intro j
    by_cases hj : j < 13
    · simp [madeCells, Value.cells, hj, Nat.mod_one]
    · simp [madeCells, Value.cells, hj]
  rw [e]
  rfl
theorem make_own (w : World) : UU (w.alloc (.cells (Array.replicate 13 (.int .u64 0)) 33)) w.heap.size (.slice (some ⟨w.heap.size, 0, none⟩) 13 13) (List.replicate 13 0) :=
  ⟨rfl, .inr ⟨w.heap.size, 13, _, rfl, Nat.le_refl _, Array.getElem?_push_size, Nat.le_refl _, by decide, rfl, rfl⟩⟩
end Go.Proofs.YtnpfikabcmngpaaDoor.Met
