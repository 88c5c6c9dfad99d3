/-
  The document's answer for package metric: rows of counters.
-/
import Derived.Test.YtnpfikabcmngpaaDoorMetT
import Derived.Test.YtnpfikabcmngpaaDoorRowK
namespace Go.Proofs.YtnpfikabcmngpaaDoor.Met
open Go.RowKit Go.Seg Go.Open Go.Lib

def RU : Row.Ty Tryd.prog := ⟨27, 33, .int .u64 0, 1, 8, Tryd.underlying27, by kernel_rfl, rfl, by decide, by decide⟩
def cellsU (l : List Int) : List Value := l.map (Value.int .u64)
theorem cellsU_one (l : List Int) : ∀ x ∈ cellsU l, x.oneCell' = true := by
  intro x hx
  simp only [cellsU, List.mem_map] at hx
  obtain ⟨n, _, rfl⟩ := hx
  rfl
/-- A row of counters of one's own. -/
def UU (w : World) (B : Nat) (v : Value) (l : List Int) : Prop := Row.Own RU w B v l.length (cellsU l)
theorem UU.ext {w w' : World} {B : Nat} {v : Value} {l : List Int} (h : UU w B v l) (e : Ext w w') : UU w' B v l := Row.Own.ext h e
theorem UU.base {w : World} {B B' : Nat} {v : Value} {l : List Int} (h : UU w B v l) (hB : B' ≤ B) : UU w B' v l := Row.Own.base h hB
theorem UU.openU {w : World} {B : Nat} {v : Value} {l : List Int} (h : UU w B v l) (hl : l.length = 13) : ∃ cap b, v = .slice (some ⟨b, 0, none⟩) 13 cap ∧ B ≤ b ∧ b < w.heap.size ∧ (∀ j, w.frozen? ⟨b, j, none⟩ = false) ∧
    ∀ W, Ext w W → ∀ j, j < 13 → W.cell? ⟨b, j, none⟩ = some (.int .u64 (l.getD j 0)) := by
  have h0 := h
  obtain ⟨a, cap, b, hv, _, _, ha, hB, hc⟩ := Row.Own.open' h
  have h13 : 0 < l.length := by omega
  obtain rfl := ha h13
  refine ⟨cap, b, by rw [hv, hl], (hB h13).1, (hB h13).2, ?_, fun W hW j hj => ?_⟩
  · rcases h0.2 with ⟨_, hn⟩ | ⟨g, cap', cur, hv', hb, hg, _⟩
    · omega
    · rw [hv] at hv'
      simp at hv'
      obtain ⟨rfl, _⟩ := hv'
      intro j
      simp [World.frozen?, hg]
  · have := hc W hW j (by rw [hl]; simpa [RU] using hj)
    rw [this]
    simp [cellsU, List.getD_eq_getElem?_getD, hl, hj]
theorem UU.set {w : World} {B b cap : Nat} {l : List Int} (h : UU w B (.slice (some ⟨b, 0, none⟩) l.length cap) l) (k : Nat) (n : Int) : UU (w.setCell ⟨b, k, none⟩ (.int .u64 n)) B (.slice (some ⟨b, 0, none⟩) l.length cap) (l.set k n) := by
  obtain ⟨hl, h⟩ := h
  rcases h with ⟨hv, _⟩ | ⟨g, cap', cur, hv, hb, hg, h1, h2, h3, h4⟩
  · simp at hv
  · simp at hv
    obtain ⟨rfl, rfl⟩ := hv
    refine ⟨by simp [cellsU, RU], .inr ⟨b, cap, cur.setIfInBounds k (.int .u64 n), by simp, hb, Blk.set hg k _ rfl, by simpa using h1, h2, by simpa using h3, ?_⟩⟩
    have h4' : cur.toList.take (l.length * 1) = cellsU l := h4
    show (cur.setIfInBounds k (.int .u64 n)).toList.take ((l.set k n).length * 1) = cellsU (l.set k n)
    rw [List.length_set, Array.toList_setIfInBounds, List.take_set, h4']
    simp [cellsU, List.map_set]
end Go.Proofs.YtnpfikabcmngpaaDoor.Met
