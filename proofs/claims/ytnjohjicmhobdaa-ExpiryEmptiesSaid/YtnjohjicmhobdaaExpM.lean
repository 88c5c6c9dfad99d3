/-
  Layer 20: does the program answer at all; what the laws keep between two steps.
  Fewer than 1,000,000 hashes; no other condition.
-/
import Derived.Test.YtnjohjicmhobdaaExpL
namespace Go.Proofs.Ytnjohjicmhobdaa.Exi
open Go.RowKit Go.Shelf Go.Seg Go.Open Go.Lib Rk Ex
attribute [local go_sem] Oper.semAt_some

theorem below_idx {w a c : World} {b : Nat} (h : Below w.heap.size w a) (k : Chg (· = b) a c) (hb : w.heap.size ≤ b) : Below w.heap.size w c := below_chg h k (fun i hi => by rw [hi]; exact hb)
theorem Idx.ends {w : World} {b : Nat} {y : List (Int × Int)} (h : Idx w b y) : Ends y := by
  obtain ⟨te, tp, tt, _, hi, rfl⟩ := h
  exact fun x hx => hi.ends x ((mem_ordL hi x).1 hx)
theorem Idx.srt {w : World} {b : Nat} {y : List (Int × Int)} (h : Idx w b y) : Srt y := by
  obtain ⟨te, tp, tt, _, hi, rfl⟩ := h
  exact srt_ordL hi
theorem Idx.one {w : World} {b : Nat} {y : List (Int × Int)} (h : Idx w b y) : ∀ x ∈ y, endOf y x.1 = x.2 := by
  obtain ⟨te, tp, tt, _, hi, rfl⟩ := h
  intro x hx
  rw [endOf_eq hi, (get_iff hi.ue x.1 x.2).2 ((mem_ordL hi x).1 hx)]
  rfl
theorem rest_same {y : List (Int × Int)} {k : Int} (he : Ends y) : decide ((rest y k).length < y.length) = decide (endOf y k ≠ 0) := by
  by_cases h : ∃ x ∈ y, x.1 = k
  · obtain ⟨x, hx, hk⟩ := h
    have h1 : (rest y k).length < y.length := by
      unfold rest
      rw [List.length_filter_lt_length_iff_exists]
      exact ⟨x, hx, by simpa using hk⟩
    have h2 : endOf y k ≠ 0 := by
      unfold endOf
      cases hf : y.find? (fun x => decide (x.1 = k)) with
      | none =>
        have := List.find?_eq_none.1 hf x hx
        simp at this
        exact absurd hk this
      | some z =>
        have := (he z (List.mem_of_find?_eq_some hf)).1
        dsimp only
        omega
    rw [decide_eq_true h1, decide_eq_true h2]
  · have h' : ∀ x ∈ y, x.1 ≠ k := fun x hx e => h ⟨x, hx, e⟩
    rw [rest_none h', endOf_none h']
    simp
theorem refPut_len (y : List (Int × Int)) (h e : Int) : (refPut y h e).length ≤ y.length + 1 := by
  have := rest_len y h
  unfold refPut
  split
  · omega
  · rw [insX_len]; omega

/-- An index and the document's row, behind the world of the start. -/
structure St (w : World) (bk : Nat) (y z : List (Int × Int)) (u : Value) (W : World) : Prop where
  idx : Idx W bk y
  row : RowE W w.heap.size u z
  ext : Below w.heap.size w W
theorem St.step {w : World} {bk : Nat} {y z : List (Int × Int)} {u : Value} {W W' : World} (h : St w bk y z u W) (e : Ext W W') : St w bk y z u W' := ⟨h.idx.ext e, h.row.ext e, below_ext h.ext e⟩
theorem St.chg {w : World} {bk : Nat} {y y' z : List (Int × Int)} {u : Value} {W W' : World} (h : St w bk y z u W) (hI : Idx W' bk y') (hc : Chg (· = bk) W W') (hb : w.heap.size ≤ bk) : St w bk y' z u W' := by
  obtain ⟨q1, q2, hB⟩ := h.idx.blk
  exact ⟨hI, own_chg h.row hc (.one hB (by decide)), below_idx h.ext hc hb⟩
theorem St.new {w : World} {bk : Nat} {y z z' : List (Int × Int)} {u u' : Value} {W W' : World} (h : St w bk y z u W) (hR : RowE W' W.heap.size u' z') (e : Ext W W') : St w bk y z' u' W' := ⟨h.idx.ext e, hR.base h.ext.size, below_ext h.ext e⟩

set_option maxRecDepth 100000 in
theorem awake_any (w : World) : Calls Try.prog 32 #[] w fun e w' => e = .returned (.bool true) ∧ Ext w w' := by
  have p1 : refPut [] 9 5 = [(9, 5)] := by decide
  have p2 : refPut [(9, 5)] 2 4 = [(2, 4), (9, 5)] := by decide
  have p3 : dueL 7 [(2, 4), (9, 5)] = [(2, 4), (9, 5)] := by decide
  have HP1 := Lib.hid p1
  have HP2 := Lib.hid p2
  have HP3 := Lib.hid p3
  clear p1 p2 p3
  go_enter Try.func32, Try.ntmps32
  go_wp2_with fail
  refine (New_idx _).mono ?_
  rintro e w1 ⟨bk, rfl, hbk, hI, hE⟩
  have HI := Lib.hid hI
  have HE := Lib.hid hE
  clear hI hE
  go_wp2_with fail
  refine (Put_any bk [] 9 5 _ HI.out (by simp)).mono ?_
  rw [HP1.out]
  rintro e w2 ⟨rfl, hI2, hC2⟩
  have HI2 := Lib.hid hI2
  have HE2 := Lib.hid (below_idx HE.out hC2 hbk)
  clear hI2 hC2
  go_wp2_with fail
  refine (Put_any bk [(9, 5)] 2 4 _ HI2.out (by simp)).mono ?_
  rw [HP2.out]
  rintro e w3 ⟨rfl, hI3, hC3⟩
  have HI3 := Lib.hid hI3
  have HE3 := Lib.hid (below_idx HE2.out hC3 hbk)
  clear hI3 hC3
  go_wp2_with fail
  refine (First_any bk _ 7 _ HI3.out).mono ?_
  rw [HP3.out]
  simp only [firstV]
  rintro e w4 ⟨rfl, hE4⟩
  have HI4 := Lib.hid (HI3.out.ext hE4)
  have HE4 := Lib.hid (below_ext HE3.out hE4)
  clear hE4
  go_wp2_with fail
  refine (Len_idx bk _ _ HI4.out).mono ?_
  rintro e w' ⟨rfl, rfl⟩
  go_wp2_with fail
  go_ret
  exact ⟨rfl, HE4.out⟩
end Go.Proofs.Ytnjohjicmhobdaa.Exi
