/-
  Package metric: a board is a block of thirteen counters; what each function does to them.
  No condition.
-/
import Derived.Test.YtnpfikabcmngpaaDoorProg
import Derived.WalkKit
import Derived.BigRegion
import Derived.BigQuiet
import Derived.Test.YtnpfikabcmngpaaDoorSegK
import Derived.Test.YtnpfikabcmngpaaDoorOpen
import Derived.Test.YtnpfikabcmngpaaDoorStruct
import Derived.Lib.Hide
namespace Go.Proofs.YtnpfikabcmngpaaDoor.Met
open Go.RowKit Go.Seg Go.Open Go.Lib

def U (l : List Int) : Array Value := (l.map (Value.int .u64)).toArray
theorem U_size (l : List Int) : (U l).size = l.length := by simp [U]
theorem U_at (l : List Int) (k : Nat) (h : k < l.length) : (U l)[k]? = some (.int .u64 (l.getD k 0)) := by
  simp [U, h, List.getD_eq_getElem?_getD]
theorem U_set (l : List Int) (k : Nat) (n : Int) : (U l).setIfInBounds k (.int .u64 n) = U (l.set k n) := by
  unfold U
  rw [List.setIfInBounds_toArray, List.map_set]
/-- A board of these counters. -/
def BoardAt (w : World) (b : Nat) (l : List Int) : Prop := l.length = 13 ∧ Blk w b (U l) 66
theorem BoardAt.ext {w w' : World} {b : Nat} {l : List Int} (h : BoardAt w b l) (e : Ext w w') : BoardAt w' b l := ⟨h.1, h.2.ext e⟩
theorem BoardAt.lt {w : World} {b : Nat} {l : List Int} (h : BoardAt w b l) : b < w.heap.size := h.2.lt
theorem BoardAt.cell {w : World} {b : Nat} {l : List Int} (h : BoardAt w b l) (k : Nat) (hk : k < 13) : w.cell? ⟨b, k, none⟩ = some (.int .u64 (l.getD k 0)) := by
  rw [h.2.cells k, U_at l k (by rw [h.1]; exact hk)]
theorem BoardAt.other {w w' : World} {b b' : Nat} {l : List Int} (h : BoardAt w b l) (hc : Chg (· = b') w w') (hn : b ≠ b') : BoardAt w' b l := by
  refine ⟨h.1, ?_⟩
  have hl := h.2.lt
  have h2 := h.2
  unfold Blk at *
  rw [hc.block b hl (fun e => hn e)]; exact h2
theorem BoardAt.set {w : World} {b : Nat} {l : List Int} (h : BoardAt w b l) (k : Nat) (n : Int) : BoardAt (w.setCell ⟨b, k, none⟩ (.int .u64 n)) b (l.set k n) := ⟨by rw [List.length_set]; exact h.1, h.2.set k _ (U_set l k n)⟩

def wr (n : Int) : Int := IntKind.u64.wrap n
/-- A counter added to. -/
def addL (l : List Int) (kind n : Int) : List Int := if 0 ≤ kind ∧ kind < 13 then l.set kind.toNat (wr (l.getD kind.toNat 0 + n)) else l
def getL (l : List Int) (kind : Int) : Int := if 0 ≤ kind ∧ kind < 13 then l.getD kind.toNat 0 else 0
def u64 (n : Int) : Int := IntKind.u64.wrap n
def moveL (l : List Int) (old now : Int) : List Int := if old < now then addL l 8 (wr (u64 now - u64 old)) else addL l 9 (wr (u64 old - u64 now))
theorem addL_len (l : List Int) (kind n : Int) : (addL l kind n).length = l.length := by unfold addL; split <;> simp
theorem moveL_len (l : List Int) (a b : Int) : (moveL l a b).length = l.length := by unfold moveL; split <;> simp [addL_len]

theorem known_any (kind : Int) (w : World) : Calls Tryd.prog 33 #[.int .i64 kind] w fun e w' => e = .returned (.bool (decide (0 ≤ kind ∧ kind < 13))) ∧ w = w' := by
  by_cases h0 : 0 ≤ kind
  · by_cases h1 : kind < 13
    · have e : decide (0 ≤ kind ∧ kind < 13) = true := decide_eq_true ⟨h0, h1⟩
      rw [e]
      clear e
      have d0 : decide (0 ≤ kind) = true := decide_eq_true h0
      have d1 : decide (kind < 13) = true := decide_eq_true h1
      go_enter Tryd.func33, Tryd.ntmps33
      go_wp2_with fail
      go_ret
      exact ⟨rfl, rfl⟩
    · have e : decide (0 ≤ kind ∧ kind < 13) = false := decide_eq_false (fun h => h1 h.2)
      rw [e]
      clear e
      have d0 : decide (0 ≤ kind) = true := decide_eq_true h0
      have d1 : decide (kind < 13) = false := decide_eq_false h1
      go_enter Tryd.func33, Tryd.ntmps33
      go_wp2_with fail
      go_ret
      exact ⟨rfl, rfl⟩
  · have e : decide (0 ≤ kind ∧ kind < 13) = false := decide_eq_false (fun h => h0 h.1)
    rw [e]
    clear e
    have d0 : decide (0 ≤ kind) = false := decide_eq_false h0
    go_enter Tryd.func33, Tryd.ntmps33
    go_wp2_with fail
    go_ret
    exact ⟨rfl, rfl⟩
theorem known_yes (k : Nat) (hk : k < 13) (w : World) : Calls Tryd.prog 33 #[.int .i64 k] w fun e w' => e = .returned (.bool true) ∧ w = w' := by
  refine (known_any _ _).mono ?_
  rw [decide_eq_true (show 0 ≤ (k : Int) ∧ (k : Int) < 13 by omega)]
  exact fun e w' h => h
theorem known_no (kind : Int) (hk : ¬ (0 ≤ kind ∧ kind < 13)) (w : World) : Calls Tryd.prog 33 #[.int .i64 kind] w fun e w' => e = .returned (.bool false) ∧ w = w' := by
  refine (known_any _ _).mono ?_
  rw [decide_eq_false hk]
  exact fun e w' h => h

theorem New_any (w : World) : Calls Tryd.prog 8 #[] w fun e w' => e = .returned (.pointer (some ⟨w.heap.size, 0, none⟩)) ∧ BoardAt w' w.heap.size (List.replicate 13 0) ∧ Ext w w' := by
  go_enter Tryd.func8, Tryd.ntmps8
  go_wp2_with fail
  go_ret
  exact ⟨rfl, ⟨rfl, Blk.new _ _ _⟩, (Below.refl _ _).alloc (Nat.le_refl _) _⟩
theorem Get_nil (kind : Int) (w : World) : Calls Tryd.prog 16 #[.pointer none, .int .i64 kind] w fun e w' => e = .returned (.int .u64 0) ∧ w = w' := by
  go_enter Tryd.func16, Tryd.ntmps16
  go_wp2_with fail
  go_ret
  exact ⟨rfl, rfl⟩
theorem Get_any (b : Nat) (l : List Int) (kind : Int) (w : World) (h : BoardAt w b l) : Calls Tryd.prog 16 #[.pointer (some ⟨b, 0, none⟩), .int .i64 kind] w fun e w' => e = .returned (.int .u64 (getL l kind)) ∧ w = w' := by
  unfold getL
  by_cases hk : 0 ≤ kind ∧ kind < 13
  · rw [if_pos hk]
    obtain ⟨k, rfl⟩ : ∃ k : Nat, kind = k := ⟨kind.toNat, by omega⟩
    have hk' : k < 13 := by omega
    have hc := h.cell k hk'
    have b0 : (0 : Int) ≤ (k : Int) := by omega
    have b1 : (k : Int) < 13 := by omega
    rw [Int.toNat_natCast]
    clear h hk
    go_enter Tryd.func16, Tryd.ntmps16
    go_wp2_with fail
    refine (known_yes k hk' _).mono ?_
    rintro e w' ⟨rfl, rfl⟩
    go_wp2_with fail
    go_ret
    exact ⟨rfl, rfl⟩
  · rw [if_neg hk]
    have HK := Lib.hid hk
    clear hk h
    go_enter Tryd.func16, Tryd.ntmps16
    go_wp2_with fail
    refine (known_no kind HK.out _).mono ?_
    rintro e w' ⟨rfl, rfl⟩
    go_wp2_with fail
    go_ret
    exact ⟨rfl, rfl⟩
theorem Add_nil (kind n : Int) (w : World) : Calls Tryd.prog 12 #[.pointer none, .int .i64 kind, .int .u64 n] w fun e w' => e = .returned (.tuple #[]) ∧ w = w' := by
  go_enter Tryd.func12, Tryd.ntmps12
  go_wp2_with fail
  go_end0
  exact ⟨rfl, rfl⟩
theorem Add_any (b : Nat) (l : List Int) (kind n : Int) (w : World) (h : BoardAt w b l) : Calls Tryd.prog 12 #[.pointer (some ⟨b, 0, none⟩), .int .i64 kind, .int .u64 n] w fun e w' => e = .returned (.tuple #[]) ∧ BoardAt w' b (addL l kind n) ∧ Chg (· = b) w w' := by
  unfold addL
  by_cases hk : 0 ≤ kind ∧ kind < 13
  · rw [if_pos hk]
    obtain ⟨k, rfl⟩ : ∃ k : Nat, kind = k := ⟨kind.toNat, by omega⟩
    have hk' : k < 13 := by omega
    have hc := h.cell k hk'
    have hf := h.2.frozen k
    have b0 : (0 : Int) ≤ (k : Int) := by omega
    have b1 : (k : Int) < 13 := by omega
    rw [Int.toNat_natCast]
    have HB := Lib.hid h
    clear h hk
    go_enter Tryd.func12, Tryd.ntmps12
    go_wp2_with fail
    refine (known_yes k hk' _).mono ?_
    rintro e w' ⟨rfl, rfl⟩
    go_wp2_with fail
    refine wp_region_segsK [([5, 1, 1, 1, 2, 2], 0, 0), ([3, 1], 2, 11), ([1], 1, 0)] (by kernel_rfl) (by kernel_rfl) ?_
    apply segsK_pure
    · intro W
      simp only [runsT, runsF, rep, pick]
      go_wp2_with fail
      exact ⟨rfl, rfl⟩
    simp only [runsT, runsF, rep, left]
    apply segsK_look
    · simp only [runsT, runsF, rep, pick]
      go_wp2_with fail
      exact ⟨rfl, rfl⟩
    simp only [runsT, runsF, rep, left]
    apply segsK_op
    go_wp2_with fail
    refine ⟨fun h => (by cases h), ?_⟩
    apply segsK_nil
    go_wp2_with fail
    go_end0
    exact ⟨rfl, (HB.out.set k _).ext (Ext.drew _), (Chg.set w b k _).drew⟩
  · rw [if_neg hk]
    have HK := Lib.hid hk
    have HB := Lib.hid h
    clear hk h
    go_enter Tryd.func12, Tryd.ntmps12
    go_wp2_with fail
    refine (known_no kind HK.out _).mono ?_
    rintro e w' ⟨rfl, rfl⟩
    go_wp2_with fail
    go_end0
    exact ⟨rfl, HB.out, Chg.refl _⟩
theorem Move_nil (old now : Int) (w : World) : Calls Tryd.prog 10 #[.pointer none, .int .i64 old, .int .i64 now] w fun e w' => e = .returned (.tuple #[]) ∧ w = w' := by
  by_cases h : old < now
  · have d : decide (old < now) = true := decide_eq_true h
    clear h
    go_enter Tryd.func10, Tryd.ntmps10
    go_wp2_with fail
    refine (Add_nil _ _ _).mono ?_
    rintro e w' ⟨rfl, rfl⟩
    go_wp2_with fail
    go_end0
    exact ⟨rfl, rfl⟩
  · have d : decide (old < now) = false := decide_eq_false h
    clear h
    go_enter Tryd.func10, Tryd.ntmps10
    go_wp2_with fail
    refine (Add_nil _ _ _).mono ?_
    rintro e w' ⟨rfl, rfl⟩
    go_wp2_with fail
    go_end0
    exact ⟨rfl, rfl⟩
theorem Move_any (b : Nat) (l : List Int) (old now : Int) (w : World) (h : BoardAt w b l) : Calls Tryd.prog 10 #[.pointer (some ⟨b, 0, none⟩), .int .i64 old, .int .i64 now] w fun e w' => e = .returned (.tuple #[]) ∧ BoardAt w' b (moveL l old now) ∧ Chg (· = b) w w' := by
  unfold moveL
  have HB := Lib.hid h
  clear h
  by_cases h : old < now
  · rw [if_pos h]
    have d : decide (old < now) = true := decide_eq_true h
    clear h
    go_enter Tryd.func10, Tryd.ntmps10
    go_wp2_with fail
    refine (Add_any b l 8 _ _ HB.out).mono ?_
    rintro e w' ⟨rfl, hB, hC⟩
    have HR := Lib.hid (And.intro hB hC)
    clear hB hC
    go_wp2_with fail
    go_end0
    exact ⟨rfl, HR.out⟩
  · rw [if_neg h]
    have d : decide (old < now) = false := decide_eq_false h
    clear h
    go_enter Tryd.func10, Tryd.ntmps10
    go_wp2_with fail
    refine (Add_any b l 9 _ _ HB.out).mono ?_
    rintro e w' ⟨rfl, hB, hC⟩
    have HR := Lib.hid (And.intro hB hC)
    clear hB hC
    go_wp2_with fail
    go_end0
    exact ⟨rfl, HR.out⟩
def usedL (l : List Int) : Int := wr (getL l 8 - getL l 9)
theorem Used_nil (w : World) : Calls Tryd.prog 18 #[.pointer none] w fun e w' => e = .returned (.int .u64 0) ∧ w = w' := by
  go_enter Tryd.func18, Tryd.ntmps18
  go_wp2_with fail
  refine (Get_nil _ _).mono ?_
  rintro e w' ⟨rfl, rfl⟩
  go_wp2_with fail
  refine (Get_nil _ _).mono ?_
  rintro e w' ⟨rfl, rfl⟩
  go_wp2_with fail
  go_ret
  exact ⟨rfl, rfl⟩
theorem Used_any (b : Nat) (l : List Int) (w : World) (h : BoardAt w b l) : Calls Tryd.prog 18 #[.pointer (some ⟨b, 0, none⟩)] w fun e w' => e = .returned (.int .u64 (usedL l)) ∧ w = w' := by
  have HB := Lib.hid h
  clear h
  go_enter Tryd.func18, Tryd.ntmps18
  go_wp2_with fail
  refine (Get_any b l 8 _ HB.out).mono ?_
  rintro e w' ⟨rfl, rfl⟩
  go_wp2_with fail
  refine (Get_any b l 9 _ HB.out).mono ?_
  rintro e w' ⟨rfl, rfl⟩
  go_wp2_with fail
  go_ret
  exact ⟨rfl, rfl⟩
end Go.Proofs.YtnpfikabcmngpaaDoor.Met
