/-
  The document's answer for package metric: Add, Move, Names, Dec, Text.
-/
import Derived.Test.YtnpfikabcmngpaaDoorMetR
namespace Go.Proofs.YtnpfikabcmngpaaDoor.Met
open Go.RowKit Go.Seg Go.Open Go.Lib

theorem lit0_own (w : World) : Row.Own RU (w.alloc (.cells #[] 33)) w.heap.size (.slice (some ⟨w.heap.size, 0, none⟩) 0 0) 0 [] ∧ Ext w (w.alloc (.cells #[] 33)) :=
  ⟨⟨rfl, .inr ⟨w.heap.size, 0, #[], rfl, Nat.le_refl _, Array.getElem?_push_size, Nat.le_refl _, Nat.zero_le _, rfl, rfl⟩⟩, (Below.refl _ _).alloc (Nat.le_refl _) _⟩
set_option maxHeartbeats 1000000 in
theorem rAdd (v : Value) (l : List Int) (B0 : Nat) (kind n : Int) (w : World) (h : UU w B0 v l) (hl : l.length = 13) :
    Calls Tryd.prog 13 #[v, .int .i64 kind, .int .u64 n] w fun e w' => ∃ u, e = .returned u ∧ UU w' w.heap.size u (addL l kind n) ∧ Ext w w' := by
  obtain ⟨cap0, b0, rfl, _, _, _, _⟩ := UU.openU h hl
  have H := Lib.hid h
  have HL := Lib.hid (lit0_own w)
  clear h
  go_enter Tryd.func13, Tryd.ntmps13
  go_wp2_with (at_builtin; go_loud (refine Row.wpList_app2 RU _ rfl (.tmp 8) (.tmp 9) rfl _ _ 0 [] rfl HL.out.1 _ _ l.length (cellsU l) rfl (H.out.ext HL.out.2) (cellsU_one l) (by omega) HL.out.2.size ?_))
  intro a2 c2 w2 h2 g2
  have HE2 := Lib.hid (Row.ext_grown (R := RU) HL.out.2 HL.out.1 (Nat.le_refl _) g2)
  rw [← hl] at h2
  obtain ⟨cap, b, hv, hb, hbl, hf, hc⟩ := UU.openU (l := l) h2 hl
  obtain ⟨rfl, rfl⟩ : a2 = some ⟨b, 0, none⟩ ∧ c2 = cap := by simp at hv; exact ⟨hv.1, hv.2.2⟩
  have H2 := Lib.hid (show UU w2 w.heap.size (.slice (some ⟨b, 0, none⟩) l.length c2) l from h2)
  have HC := Lib.hid hc
  clear h2 g2 hc hv
  by_cases h0 : 0 ≤ kind
  · have d0 : decide (0 ≤ kind) = true := decide_eq_true h0
    obtain ⟨k, rfl⟩ : ∃ k : Nat, kind = k := ⟨kind.toNat, by omega⟩
    clear d0
    by_cases h1 : k < 13
    · have d1 : decide ((k : Int) < 13) = true := decide_eq_true (by omega)
      have d1' : decide (k < 13) = true := decide_eq_true h1
      have b1 : (k : Int) < 13 := by omega
      have x0 := HC.out _ (Ext.refl _) k h1
      have xf := hf k
      obtain ⟨y, hy⟩ : ∃ y, l.getD k 0 = y := ⟨_, rfl⟩
      have HY := Lib.hid hy
      rw [hy] at x0
      clear hy hf
      go_wp2_with fail
      go_ret
      have e : addL l (k : Int) n = l.set k (wr (y + n)) := by unfold addL; rw [if_pos (by omega), Int.toNat_natCast, HY.out]
      rw [e]
      have hT := H2.out.set k (wr (y + n))
      rw [hl] at hT
      exact ⟨_, rfl, hT, HE2.out.setCell hb _⟩
    · clear hf
      have d1 : decide ((k : Int) < 13) = false := decide_eq_false (by omega)
      have d1' : decide (k < 13) = false := decide_eq_false h1
      go_wp2_with fail
      go_ret
      have e : addL l (k : Int) n = l := by unfold addL; rw [if_neg (by omega)]
      rw [e]
      have hS := H2.out
      rw [hl] at hS
      exact ⟨_, rfl, hS, HE2.out⟩
  · have d0 : decide (0 ≤ kind) = false := decide_eq_false h0
    go_wp2_with fail
    go_ret
    have e : addL l kind n = l := by unfold addL; rw [if_neg (by omega)]
    rw [e]
    have hS := H2.out
    rw [hl] at hS
    exact ⟨_, rfl, hS, HE2.out⟩
theorem rMove (v : Value) (l : List Int) (B0 : Nat) (old now : Int) (w : World) (h : UU w B0 v l) (hl : l.length = 13) :
    Calls Tryd.prog 11 #[v, .int .i64 old, .int .i64 now] w fun e w' => ∃ u, e = .returned u ∧ UU w' w.heap.size u (moveL l old now) ∧ Ext w w' := by
  unfold moveL
  have H := Lib.hid h
  clear h
  by_cases h : old < now
  · rw [if_pos h]
    have d : decide (old < now) = true := decide_eq_true h
    clear h
    go_enter Tryd.func11, Tryd.ntmps11
    go_wp2_with fail
    refine (rAdd v l B0 8 _ _ H.out hl).mono ?_
    rintro e w' ⟨u, rfl, hU, hE⟩
    have HR := Lib.hid (And.intro hU hE)
    clear hU hE
    go_wp2_with fail
    go_ret
    exact ⟨_, rfl, HR.out⟩
  · rw [if_neg h]
    have d : decide (old < now) = false := decide_eq_false h
    clear h
    go_enter Tryd.func11, Tryd.ntmps11
    go_wp2_with fail
    refine (rAdd v l B0 9 _ _ H.out hl).mono ?_
    rintro e w' ⟨u, rfl, hU, hE⟩
    have HR := Lib.hid (And.intro hU hE)
    clear hU hE
    go_wp2_with fail
    go_ret
    exact ⟨_, rfl, HR.out⟩
theorem rNames (w : World) : Calls Tryd.prog 15 #[] w fun e w' => ∃ b, e = .returned (.slice (some ⟨b, 0, none⟩) 13 13) ∧ (∀ W, Ext w' W → ∀ k, k < 13 → W.cell? ⟨b, k, none⟩ = some (.string ⟨(nm k).toArray⟩)) ∧ Ext w w' := by
  go_enter Tryd.func15, Tryd.ntmps15
  go_wp2_with fail
  go_ret
  refine ⟨_, rfl, fun W hW k hk => ?_, (Below.refl _ _).alloc (Nat.le_refl _) _⟩
  have hB := (show Blk _ w.heap.size ((names.map fun l => Value.string ⟨l.toArray⟩).toArray) 9 from Blk.new w _ _).ext hW
  rw [hB.cells k]
  have : k < names.length := hk
  simp [nm, List.getD_eq_getElem?_getD, this]
end Go.Proofs.YtnpfikabcmngpaaDoor.Met
