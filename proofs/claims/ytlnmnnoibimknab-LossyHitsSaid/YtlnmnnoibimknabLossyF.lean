/-
  LossyHits: a slice of calls, as it comes in.
-/
import Derived.Test.YtlnmnnoibimknabLossyE
namespace Go.Proofs.Ytlnmnnoibimknab.Lo
open Go.RowKit Go.ChangeShapes Go.WideShapes Go.Deep Go.Open Rk Lossy

theorem top_of_wf {n : Int} (h : (Lit.int .i64 n).wf = true) : n ≤ 9223372036854775807 := by
  unfold Lit.wf at h
  simp only [Bool.and_eq_true, decide_eq_true_eq] at h
  exact h.2

set_option maxHeartbeats 1000000 in
theorem calls_of {w : World} {v : Value} {a : Option Addr} {len cap : Nat} (h : IsSl w v [.i .i64, .i .i64, .i .i64, .i .i64, .i .i64, .i .i64, .i .i64, .i .i64, .i .i64, .i .i64, .i .i64, .b, .i .i64] a len cap) :
    ∃ (b off : Nat) (F : Nat → C), (0 < len → a = some ⟨b, off, none⟩) ∧ (∀ W, Below w.heap.size w W → CallsAt W b off len F) ∧ ∀ i, i < len → (F i).tk ≤ 9223372036854775807 := by
  by_cases h0 : 0 < len
  · obtain ⟨b, off, ha, hc⟩ := h.cells h0
    have key : ∀ i, i < len → ∃ f : C, (w.cell? ⟨b, off + i * 13, none⟩ = some (.int .i64 f.cl) ∧ w.cell? ⟨b, off + i * 13 + 1, none⟩ = some (.int .i64 f.id) ∧ w.cell? ⟨b, off + i * 13 + 2, none⟩ = some (.int .i64 f.kd) ∧ w.cell? ⟨b, off + i * 13 + 3, none⟩ = some (.int .i64 f.ky) ∧ w.cell? ⟨b, off + i * 13 + 4, none⟩ = some (.int .i64 f.vl) ∧ w.cell? ⟨b, off + i * 13 + 5, none⟩ = some (.int .i64 f.co) ∧ w.cell? ⟨b, off + i * 13 + 6, none⟩ = some (.int .i64 f.tt) ∧ w.cell? ⟨b, off + i * 13 + 7, none⟩ = some (.int .i64 f.be) ∧ w.cell? ⟨b, off + i * 13 + 8, none⟩ = some (.int .i64 f.wh) ∧ w.cell? ⟨b, off + i * 13 + 9, none⟩ = some (.int .i64 f.en) ∧ w.cell? ⟨b, off + i * 13 + 10, none⟩ = some (.int .i64 f.tk) ∧ w.cell? ⟨b, off + i * 13 + 11, none⟩ = some (.bool f.ok) ∧ w.cell? ⟨b, off + i * 13 + 12, none⟩ = some (.int .i64 f.rv)) ∧ f.tk ≤ 9223372036854775807 := fun i hi => by
      obtain ⟨cs, hf, hcell⟩ := hc i hi
      obtain ⟨_, _, rfl, ⟨x0, rfl, w0⟩, hr0⟩ := fitsAll_cons hf
      obtain ⟨_, _, rfl, ⟨x1, rfl, w1⟩, hr1⟩ := fitsAll_cons hr0
      obtain ⟨_, _, rfl, ⟨x2, rfl, w2⟩, hr2⟩ := fitsAll_cons hr1
      obtain ⟨_, _, rfl, ⟨x3, rfl, w3⟩, hr3⟩ := fitsAll_cons hr2
      obtain ⟨_, _, rfl, ⟨x4, rfl, w4⟩, hr4⟩ := fitsAll_cons hr3
      obtain ⟨_, _, rfl, ⟨x5, rfl, w5⟩, hr5⟩ := fitsAll_cons hr4
      obtain ⟨_, _, rfl, ⟨x6, rfl, w6⟩, hr6⟩ := fitsAll_cons hr5
      obtain ⟨_, _, rfl, ⟨x7, rfl, w7⟩, hr7⟩ := fitsAll_cons hr6
      obtain ⟨_, _, rfl, ⟨x8, rfl, w8⟩, hr8⟩ := fitsAll_cons hr7
      obtain ⟨_, _, rfl, ⟨x9, rfl, w9⟩, hr9⟩ := fitsAll_cons hr8
      obtain ⟨_, _, rfl, ⟨x10, rfl, w10⟩, hr10⟩ := fitsAll_cons hr9
      obtain ⟨_, _, rfl, ⟨x11, rfl⟩, hr11⟩ := fitsAll_cons hr10
      obtain ⟨_, _, rfl, ⟨x12, rfl, w12⟩, hr12⟩ := fitsAll_cons hr11
      have h0 := hcell 0 (by simp)
      have h1 := hcell 1 (by simp)
      have h2 := hcell 2 (by simp)
      have h3 := hcell 3 (by simp)
      have h4 := hcell 4 (by simp)
      have h5 := hcell 5 (by simp)
      have h6 := hcell 6 (by simp)
      have h7 := hcell 7 (by simp)
      have h8 := hcell 8 (by simp)
      have h9 := hcell 9 (by simp)
      have h10 := hcell 10 (by simp)
      have h11 := hcell 11 (by simp)
      have h12 := hcell 12 (by simp)
      clear hcell
      simp at h0 h1 h2 h3 h4 h5 h6 h7 h8 h9 h10 h11 h12
      refine ⟨⟨x0, x1, x2, x3, x4, x5, x6, x7, x8, x9, x10, x11, x12⟩, ⟨h0, ?_, ?_, ?_, ?_, ?_, ?_, ?_, ?_, ?_, ?_, ?_, ?_⟩, top_of_wf w10⟩
      all_goals (rw [Nat.add_assoc]; assumption)
    haveI : Inhabited C := ⟨⟨0, 0, 0, 0, 0, 0, 0, 0, 0, 0, 0, false, 0⟩⟩
    obtain ⟨F, hF⟩ := choose_lt key
    have hlt : b < w.heap.size := World.block_lt_of_cell? w _ (hF 0 h0).1.1
    refine ⟨b, off, F, fun _ => ha, fun W hW i hi => ?_, fun i hi => (hF i hi).2⟩
    obtain ⟨g0, g1, g2, g3, g4, g5, g6, g7, g8, g9, g10, g11, g12⟩ := (hF i hi).1
    exact ⟨(hW.cell (p := ⟨b, off + i * 13, none⟩) hlt).trans g0, (hW.cell (p := ⟨b, off + i * 13 + 1, none⟩) hlt).trans g1, (hW.cell (p := ⟨b, off + i * 13 + 2, none⟩) hlt).trans g2, (hW.cell (p := ⟨b, off + i * 13 + 3, none⟩) hlt).trans g3, (hW.cell (p := ⟨b, off + i * 13 + 4, none⟩) hlt).trans g4, (hW.cell (p := ⟨b, off + i * 13 + 5, none⟩) hlt).trans g5, (hW.cell (p := ⟨b, off + i * 13 + 6, none⟩) hlt).trans g6, (hW.cell (p := ⟨b, off + i * 13 + 7, none⟩) hlt).trans g7, (hW.cell (p := ⟨b, off + i * 13 + 8, none⟩) hlt).trans g8, (hW.cell (p := ⟨b, off + i * 13 + 9, none⟩) hlt).trans g9, (hW.cell (p := ⟨b, off + i * 13 + 10, none⟩) hlt).trans g10, (hW.cell (p := ⟨b, off + i * 13 + 11, none⟩) hlt).trans g11, (hW.cell (p := ⟨b, off + i * 13 + 12, none⟩) hlt).trans g12⟩
  · exact ⟨0, 0, fun _ => ⟨0, 0, 0, 0, 0, 0, 0, 0, 0, 0, 0, false, 0⟩, fun h => absurd h h0, fun W hW i hi => absurd hi (by omega), fun i hi => absurd hi (by omega)⟩
end Go.Proofs.Ytlnmnnoibimknab.Lo
