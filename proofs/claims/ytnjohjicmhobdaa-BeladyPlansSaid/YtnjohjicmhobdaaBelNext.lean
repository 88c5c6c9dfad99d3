/-
  Belady: the next uses of requests: the walk of Next.
  At most 4096 requests (the program's own bound); no other condition.
-/
import Derived.Test.YtnjohjicmhobdaaBelT
import Derived.Test.YtnjohjicmhobdaaOpen
import Derived.Test.YtnjohjicmhobdaaSeg
import Derived.Test.YtnjohjicmhobdaaProg
import Derived.WalkKit
import Derived.KernelRfl
import Derived.Deep.LoopGhost
import Derived.Lib.Hide
import Derived.Maps.OwnSet
import Derived.Maps.OwnOps
import Derived.Maps.Views
import Derived.Laws.MakeOwn
namespace Go.Proofs.Ytnjohjicmhobdaa.Bl
open Go.RowKit Go.Seg Go.Open Go.Lib Go.Maps Bel

/-- The requests as a list. -/
def lst (F : Nat → Int) (len : Nat) : List Int := (List.range len).map F
theorem lst_len (F : Nat → Int) (len : Nat) : (lst F len).length = len := by simp [lst]
theorem lst_get (F : Nat → Int) (len j : Nat) (h : j < (lst F len).length) : (lst F len)[j] = F j := by simp [lst]

/-- What the map knows: of positions from i on. -/
def NX (D : DataW Unit) (l : List Int) (i : Nat) : Prop :=
  ∀ x, Maps.has D (.int .i64 x) = decide (nxt l i x < l.length) ∧ (nxt l i x < l.length → D.atKey (.int .i64 x) (.lit (.int .i64 0)) = .lit (.int .i64 (nxt l i x)))
theorem nxt_end (l : List Int) (x : Int) : nxt l l.length x = l.length := by simp [nxt]
theorem NX.nil (l : List Int) : NX (.map []) l l.length := fun x => by
  rw [nxt_end]
  exact ⟨by simp [Maps.has], fun h => absurd h (by omega)⟩
theorem NX.put {D : DataW Unit} (hD : IsMap D) {l : List Int} {i : Nat} (h : NX D l (i + 1)) (hi : i < l.length) : NX (D.put (.int .i64 l[i]) (.lit (.int .i64 i))) l i := fun x => by
  rw [nxt_step hi x]
  by_cases e : l[i] = x
  · subst e
    rw [if_pos rfl, has_put_same hD (by trivial), atKey_put_same hD (by trivial)]
    exact ⟨by simp [hi], fun _ => rfl⟩
  · have hne : Lit.int .i64 x ≠ Lit.int .i64 l[i] := fun q => e (by cases q; rfl)
    rw [if_neg e, has_put_other hne, atKey_put_other hne]
    exact h x

/-- The row of next uses, from position i on. -/
def OC (l : List Int) (i : Nat) : Array Value := ((List.range l.length).map fun j => Value.int .i64 (if i ≤ j then (nxt l (j + 1) (l.getD j 0) : Int) else 0)).toArray
theorem OC_size (l : List Int) (i : Nat) : (OC l i).size = l.length := by simp [OC]
theorem OC_get {l : List Int} {i j : Nat} (h : j < l.length) : (OC l i)[j]? = some (.int .i64 (if i ≤ j then (nxt l (j + 1) (l.getD j 0) : Int) else 0)) := by simp [OC, h]
theorem OC_step {l : List Int} {i : Nat} (h : i < l.length) : (OC l (i + 1)).setIfInBounds i (.int .i64 (nxt l (i + 1) (l.getD i 0))) = OC l i := by
  apply Array.ext_getElem?
  intro j
  rw [Array.getElem?_setIfInBounds]
  by_cases hj : j < l.length
  · by_cases e : i = j
    · subst e
      rw [if_pos rfl, OC_size, if_pos h, OC_get h, if_pos (Nat.le_refl _)]
    · rw [if_neg e, OC_get hj, OC_get hj]
      by_cases hij : i ≤ j
      · rw [if_pos hij, if_pos (by omega)]
      · rw [if_neg hij, if_neg (by omega)]
  · have h1 : (OC l (i + 1))[j]? = none := by simp [OC]; omega
    have h2 : (OC l i)[j]? = none := by simp [OC]; omega
    rw [if_neg (by omega), h1, h2]
theorem OC_zero (l : List Int) : OC l l.length = Array.replicate l.length (.int .i64 0) := by
  apply Array.ext_getElem?
  intro j
  by_cases hj : j < l.length
  · rw [OC_get hj, if_neg (by omega)]; simp [hj]
  · have h1 : (OC l l.length)[j]? = none := by simp [OC]; omega
    rw [h1]; simp; omega

theorem law3 : Keyed Try.prog 3 := int_keyed Try.underlying3
theorem zero3 (w : World) : (zeroValue 3).run Try.prog w = .ok (.int .i64 0) w := by kernel_rfl
theorem info3 : (Try.prog.info? 3).map (fun i => (i.zero, i.size, i.bytes)) = some (some (.int .i64 0), 1, 8) := by kernel_rfl
theorem make_ints (n : Nat) (hn : n ≤ 4096) (w : World) : (Instr.makeSlice 22 (.int .i64 n) (.int .i64 n)).run Try.prog w = .ok (.slice (some ⟨w.heap.size, 0, none⟩) n n) (w.alloc (.cells (Array.replicate n (.int .i64 0)) 3)) := by
  obtain ⟨i0, hi, hz0, hz1, hz2⟩ := info_parts info3
  have h := run_makeSlice (w := w) 22 3 i0 (.int .i64 0) Try.underlying22 hi hz0 .i64 .i64 n n (by omega) (by omega) (by rw [hz1]; omega) (by rw [hz2]; omega) (by omega)
  rw [h, hz1]
  have e : madeCells (Value.int .i64 0).cells ((n : Int).toNat * 1) = Array.replicate n (Value.int .i64 0) := by
    apply Array.ext_getElem?
    intro j
    by_cases hj : j < n
    · simp [madeCells, Value.cells, hj, Nat.mod_one]
    · simp [madeCells, Value.cells, hj]
  rw [e]
  simp

set_option maxRecDepth 100000 in
set_option maxHeartbeats 2000000 in
theorem Next_any (a : Option Addr) (len cap b off : Nat) (F : Nat → Int) (w : World) (ha : 0 < len → a = some ⟨b, off, none⟩) (hl : len ≤ 4096) (hwf : ∀ i, i < len → (Lit.int .i64 (F i)).wf = true)
    (hF : ∀ W, Ext w W → ∀ i, i < len → W.cell? ⟨b, off + i, none⟩ = some (.int .i64 (F i))) :
    Calls Try.prog 12 #[.slice a len cap] w fun e w' => ∃ g, e = .returned (.slice (some ⟨g, 0, none⟩) len len) ∧ w.heap.size ≤ g ∧ Blk w' g (OC (lst F len) 0) 3 ∧ Ext w w' := by
  have HA := Lib.hid ha
  have HF := Lib.hid hF
  have HWF := Lib.hid hwf
  have HLL := Lib.hid (lst_len F len)
  clear ha hF hwf
  have hmk := make_ints len hl
  have hmm := @run_makeMap Try.prog
  go_enter Try.func12, Try.ntmps12
  go_wp2_with fail
  clear hmk hmm
  go_loopg [5] len (fun g i wr => ∃ (k : Nat) (D : DataW Unit), i = .int .i64 ((k : Int) - 1) ∧ k ≤ len ∧ Blk wr w.heap.size (OC (lst F len) k) 3 ∧ wr.ownsMap Try.prog 3 (plainElem Try.prog 3) (w.heap.size + 1) (len - k) D ∧ NX D (lst F len) k ∧ Ext w wr ∧ k ≤ g)
  case atStart =>
    refine ⟨len, .map [], rfl, Nat.le_refl _, ?_, ?_, ?_, ?_, Nat.le_refl _⟩
    · have e := OC_zero (lst F len)
      rw [HLL.out] at e
      rw [e]
      exact (Blk.new w _ 3).ext ((Below.refl _ _).alloc (Nat.le_refl _) _)
    · rw [Nat.sub_self]
      have := World.ownsMap_made (w.alloc (Obj.cells (Array.replicate len (Value.int .i64 0)) 3)) Try.prog 3 (plainElem (H := Unit) Try.prog 3)
      simpa using this
    · have := NX.nil (lst F len)
      rwa [HLL.out] at this
    · exact ((Below.refl _ _).alloc (Nat.le_refl _) _).alloc (by simp) _
  case round =>
    obtain ⟨k, D, rfl, hk, hB, hM, hN, hE, hg⟩ := hrel
    have HB := Lib.hid hB
    have HM := Lib.hid hM
    have HN := Lib.hid hN
    have HE := Lib.hid hE
    clear hB hM hN hE
    cases k with
    | zero =>
      have d : decide ((0 : Int) ≤ ((0 : Nat) : Int) - 1) = false := by decide
      go_wp2_with fail
      go_ret
      exact ⟨_, rfl, Nat.le_refl _, HB.out, HE.out⟩
    | succ j =>
      have e : (((j + 1 : Nat) : Int) - 1) = (j : Int) := by omega
      rw [e]
      clear e
      have hjl : j < (lst F len).length := by rw [HLL.out]; omega
      have HJ := Lib.hid hjl
      have d : decide ((0 : Int) ≤ (j : Int)) = true := decide_eq_true (by omega)
      obtain rfl := HA.out (by omega)
      have x0 := HF.out wr HE.out j (by omega)
      have hb := World.block_lt_of_cell? w _ (HF.out w (Ext.refl _) j (by omega))
      have hbn : b ≠ w.heap.size := by simp at hb; omega
      have hz := HB.out.cell (i := j) (OC_get hjl)
      have hy := HB.out.frozen j
      rw [if_neg (by omega)] at hz
      have HKEY := Lib.hid (keyOf_int_mk (P := Try.prog) Try.underlying3 (HWF.out j (by omega)))
      have hget : (lst F len).getD j 0 = F j := by rw [getD_eq hjl, lst_get]
      have HG := Lib.hid hget
      clear hjl hget hb
      have HWJ := Lib.hid (WalkArith.wf_i64 (n := (j : Int)) (by omega))
      have hxx := HN.out (F j)
      by_cases hn : nxt (lst F len) (j + 1) (F j) < (lst F len).length
      · have hhas : Maps.has D (.int .i64 (F j)) = true := by rw [hxx.1]; exact decide_eq_true hn
        have HC := Lib.hid (show ∀ c : Int, D.atKey (.int .i64 (F j)) (.lit (.int .i64 0)) = .lit (.int .i64 c) → c = (nxt (lst F len) (j + 1) (F j) : Int) from fun c hc => by rw [hxx.2 hn] at hc; injection hc with hc; injection hc with _ hc; exact hc.symm)
        clear hxx
        go_wp2_with (first
          | (at_lookup; refine wpList_lookup_own_ok_int _ rfl _ _ 95 rfl 3 3 .i64 law3 Try.underlying95 Try.underlying3 (zero3 _) (w.heap.size + 1) _ D rfl (HM.out.setCell (by simp) _) _ _ rfl HKEY.out ?_; intro c hat hwc; obtain rfl := HC.out c hat; clear hat hwc)
          | (at_mapUpdate; refine wpList_mapUpdate_own _ rfl _ _ _ 95 rfl 3 3 law3 Try.underlying95 _ (w.heap.size + 1) _ D rfl (by first | exact HM.out.setCell (by simp) _ | exact (HM.out.setCell (by simp) _).setCell (by simp) _) (by unfold maxLen; omega) _ _ _ rfl rfl HKEY.out _ [] (plainElem_int Try.underlying3 HWJ.out) ?_; intro w1 hown1 hgrow1)
          | go_in)
        have hnew : Blk w1 w.heap.size (OC (lst F len) j) 3 := by
          have hs := OC_step HJ.out
          rw [HG.out] at hs
          have hb2 := (HB.out.set j (.int .i64 len) rfl).set j (.int .i64 (nxt (lst F len) (j + 1) (F j))) (cs' := OC (lst F len) j) (by rw [← hs]; simp)
          refine (hgrow1.block w.heap.size (by have := HB.out.lt; simpa using this) (by simp)).trans ?_
          exact hb2
        have hNX : NX (D.put (.int .i64 (F j)) (.lit (.int .i64 j))) (lst F len) j := by
          have := NX.put HM.out.isMap HN.out HJ.out
          rwa [lst_get] at this
        have hEx : Ext w w1 := by
          have h1 : Below w.heap.size w ((wr.setCell { block := w.heap.size, off := j } (Value.int IntKind.i64 ↑len)).setCell { block := w.heap.size, off := j } (Value.int IntKind.i64 ↑(nxt (lst F len) (j + 1) (F j)))) := (HE.out.setCell (p := ⟨w.heap.size, j, none⟩) (Nat.le_refl _) _).setCell (p := ⟨w.heap.size, j, none⟩) (Nat.le_refl _) _
          exact h1.grown hgrow1 h1.size (fun j hj => by cases hj; omega)
        have HA1 := Lib.hid hnew
        have HA2 := Lib.hid hNX
        have HA3 := Lib.hid hEx
        rw [show len - (j + 1) + 1 = len - j by omega] at hown1
        have HA4 := Lib.hid hown1
        clear hnew hNX hEx hown1 hgrow1
        go_roundg j
        case measure => omega
        case rel => exact ⟨j, _, by go_num, by omega, HA1.out, HA4.out, HA2.out, HA3.out, Nat.le_refl _⟩
      · have hhas : Maps.has D (.int .i64 (F j)) = false := by rw [hxx.1]; exact decide_eq_false hn
        clear hxx
        go_wp2_with (first
          | (at_lookup; refine wpList_lookup_own_ok_int _ rfl _ _ 95 rfl 3 3 .i64 law3 Try.underlying95 Try.underlying3 (zero3 _) (w.heap.size + 1) _ D rfl (HM.out.setCell (by simp) _) _ _ rfl HKEY.out ?_; intro c hat hwc; clear hat hwc)
          | (at_mapUpdate; refine wpList_mapUpdate_own _ rfl _ _ _ 95 rfl 3 3 law3 Try.underlying95 _ (w.heap.size + 1) _ D rfl (by first | exact HM.out.setCell (by simp) _ | exact (HM.out.setCell (by simp) _).setCell (by simp) _) (by unfold maxLen; omega) _ _ _ rfl rfl HKEY.out _ [] (plainElem_int Try.underlying3 HWJ.out) ?_; intro w1 hown1 hgrow1)
          | go_in)
        have hnew : Blk w1 w.heap.size (OC (lst F len) j) 3 := by
          have hs := OC_step HJ.out
          rw [HG.out] at hs
          have hx : nxt (lst F len) (j + 1) (F j) = len := by
            have h1 := nxt_le (lst F len) (j + 1) (F j) (by have := HJ.out; omega)
            have h2 := HLL.out
            omega
          rw [hx] at hs
          have hb2 := HB.out.set j (.int .i64 len) hs
          refine (hgrow1.block w.heap.size (by have := HB.out.lt; simpa using this) (by simp)).trans ?_
          exact hb2
        have hNX : NX (D.put (.int .i64 (F j)) (.lit (.int .i64 j))) (lst F len) j := by
          have := NX.put HM.out.isMap HN.out HJ.out
          rwa [lst_get] at this
        have hEx : Ext w w1 := by
          have h1 : Below w.heap.size w (wr.setCell { block := w.heap.size, off := j } (Value.int IntKind.i64 ↑len)) := HE.out.setCell (p := ⟨w.heap.size, j, none⟩) (Nat.le_refl _) _
          exact h1.grown hgrow1 h1.size (fun j hj => by cases hj; omega)
        have HA1 := Lib.hid hnew
        have HA2 := Lib.hid hNX
        have HA3 := Lib.hid hEx
        rw [show len - (j + 1) + 1 = len - j by omega] at hown1
        have HA4 := Lib.hid hown1
        clear hnew hNX hEx hown1 hgrow1
        go_roundg j
        case measure => omega
        case rel => exact ⟨j, _, by go_num, by omega, HA1.out, HA4.out, HA2.out, HA3.out, Nat.le_refl _⟩
end Go.Proofs.Ytnjohjicmhobdaa.Bl
