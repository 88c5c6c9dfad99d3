/-
  Package lock: who comes and who goes: each function comes to what the plain lock says.
  Fewer than 1,000,000 readers; no other condition.
-/
import Derived.Test.YtnjohjicmhobdaaBelSl
namespace Go.Proofs.Ytnjohjicmhobdaa.Lo1
open Go.RowKit Go.Seg Go.Open Go.Lib Go.Shelf Lk

def delAt (rs : List Int) (i : Nat) : List Int := rs.take i ++ rs.drop (i + 1)
theorem delete_any (B : Nat) (v : Value) (rs : List Int) (i : Nat) (w : World) (h : Ints w B v rs) (hl : rs.length ≤ 1000000) (hi : i < rs.length) :
    Calls Try.prog 60 #[v, .int .i64 i, .int .i64 ((i : Int) + 1)] w fun e w' => ∃ v', e = .returned v' ∧ Ints w' B v' (delAt rs i) ∧ Chg (fun k => v.ownBlock = some k) w w' := by
  have h0 := h
  obtain ⟨a, cap, b, rfl, h1, h2, h3, h4, h5⟩ := h0.openI
  obtain rfl := h3 (by omega)
  obtain ⟨hlen, hrow⟩ := h
  rcases hrow with ⟨hv, _⟩ | ⟨g, cap', cur, hv, hg, hh, hn, hm, hs, ht⟩
  · cases hv
  · obtain ⟨rfl, rfl⟩ : b = g ∧ cap = cap' := by simpa using hv
    have hfz : ∀ j, w.frozen? ⟨b, j, none⟩ = false := fun j => Blk.frozen (cs := cur) (E := 3) hh j
    have hmm := hm
    unfold maxLen at hmm
    have := Any.slices_Delete_int_cells Try.laysDelete b 0 rs.length cap i (i + 1) rs w (Nat.le_refl _) hn (by omega) (by omega) (by omega) (h5 w (Ext.refl _)) (fun j _ => hfz _)
    rw [show (((i + 1 : Nat)) : Int) = (i : Int) + 1 from by omega] at this
    refine this.mono ?_
    rintro e w' ⟨rfl, q, rfl⟩
    rw [Nat.mul_one] at ht hs
    rw [List.take_length]
    have hh' : (w.drewN q).heap[b]? = some (.cells cur 3 (0, 0)) := hh
    have hlL : ((rs.take i ++ rs.drop (i + 1) ++ List.replicate (i + 1 - i) 0).map (Value.int .i64)).length = rs.length := by simp; omega
    obtain ⟨c1, k1, k2⟩ := heap_setCells b 3 ((rs.take i ++ rs.drop (i + 1) ++ List.replicate (i + 1 - i) 0).map (Value.int .i64)) 0 _ cur hh' (by rw [hlL]; omega)
    have hc1 : c1.toList.length = cur.toList.length := by rw [k2]; exact over_length (by rw [hlL]; simp; omega)
    have hL : (delAt rs i).length = rs.length - (i + 1 - i) := by unfold delAt; simp; omega
    refine ⟨_, rfl, ?_, (chg_ext (ext_drewN w q) (chg_setCells b _ 0 _)).mono (fun k hk => by subst hk; rfl)⟩
    rw [← hL]
    refine ints_new (cur := c1) k1 hg (by omega) hm (by simp at hc1; omega) ?_
    rw [k2]
    unfold over
    rw [List.take_zero, List.nil_append, List.map_append, List.append_assoc]
    have e : (rs.take i ++ rs.drop (i + 1)).map (Value.int .i64) = ints (delAt rs i) := rfl
    rw [e, List.take_append_of_le_length (by unfold ints; simp), List.take_of_length_le (by unfold ints; simp)]

end Go.Proofs.Ytnjohjicmhobdaa.Lo1
