/-
  Belady: the last used one goes; the hits of a run: plain.
  No condition.
-/
import Derived.Test.YtnjohjicmhobdaaBelPlan
namespace Go.Proofs.Ytnjohjicmhobdaa.Bl
open Go.RowKit Go.Seg Go.Open Go.Lib Bel Rk TrUs

theorem Us.last {l : List Int} {i : Nat} {t : T (Int × Int) Bool} (h : Us l i t) (hz : 0 < t.sz) :
    ∃ y : Int, T.at (t.sz - 1) t = some (((nxt l i y : Int), y), true) ∧ Us l i (T.drop cuse ((nxt l i y : Int), y) t) ∧ (KS t).Perm (y :: KS (T.drop cuse ((nxt l i y : Int), y) t)) ∧
      (∀ x ∈ KS t, nxt l i x < nxt l i y ∨ (nxt l i x = nxt l i y ∧ x ≤ y)) := by
  have hlen := T.sz_toL t
  have hlt : t.toL.length - 1 < t.toL.length := by omega
  have hp : t.toL[t.toL.length - 1] ∈ t.toL := List.getElem_mem hlt
  obtain ⟨h1, h2⟩ := h.at_ _ hp
  have ey : t.toL[t.toL.length - 1] = (((nxt l i t.toL[t.toL.length - 1].1.2 : Int), t.toL[t.toL.length - 1].1.2), true) := Prod.ext (Prod.ext h2 rfl) h1
  refine ⟨t.toL[t.toL.length - 1].1.2, ?_, ?_, ?_, ?_⟩
  · rw [at_toL t _ (by omega), show (t.sz - 1).toNat = t.toL.length - 1 by omega, List.getElem?_eq_getElem hlt, ← ey]
  · refine ⟨up_drop cuse_lawful _ h.up, fun p hp' => ?_⟩
    rw [toL_drop cuse_lawful _ t h.up] at hp'
    exact h.at_ p (mem_del _ _ _ hp')
  · have hU : Us l i (T.drop cuse ((nxt l i t.toL[t.toL.length - 1].1.2 : Int), t.toL[t.toL.length - 1].1.2) t) := ⟨up_drop cuse_lawful _ h.up, fun p hp' => by
      rw [toL_drop cuse_lawful _ t h.up] at hp'
      exact h.at_ p (mem_del _ _ _ hp')⟩
    have hm : ∀ x, x ∈ KS (T.drop cuse ((nxt l i t.toL[t.toL.length - 1].1.2 : Int), t.toL[t.toL.length - 1].1.2) t) ↔ x ∈ KS t ∧ x ≠ t.toL[t.toL.length - 1].1.2 := fun x => by
      rw [hU.mem, h.mem, toL_drop cuse_lawful _ t h.up, mem_del_iff cuse_lawful h.up]
      refine and_congr_right fun _ => ?_
      constructor
      · intro hne e
        exact hne (by rw [e])
      · intro hne e
        exact hne (congrArg Prod.snd e)
    refine perm_of_mem _ _ h.nodup (List.nodup_cons.2 ⟨fun hc => ((hm _).1 hc).2 rfl, hU.nodup⟩) (fun x => ?_)
    rw [List.mem_cons, hm]
    by_cases e : x = t.toL[t.toL.length - 1].1.2
    · exact ⟨fun _ => .inl e, fun _ => by rw [e]; unfold KS; exact List.mem_map.2 ⟨_, hp, rfl⟩⟩
    · exact ⟨fun hx => .inr ⟨hx, e⟩, fun hx => hx.elim (fun q => absurd q e) (fun q => q.1)⟩
  · intro x hx
    have hxm := (h.mem x).1 hx
    obtain ⟨j, hj, hje⟩ := List.mem_iff_getElem.1 hxm
    by_cases e : j = t.toL.length - 1
    · subst e
      have : x = t.toL[t.toL.length - 1].1.2 := by rw [hje]
      rw [← this]
      exact .inr ⟨rfl, Int.le_refl _⟩
    · have hlt' := List.pairwise_iff_getElem.1 h.up j (t.toL.length - 1) hj hlt (by omega)
      rw [hje, cuse_neg] at hlt'
      dsimp only at hlt'
      rw [h2] at hlt'
      omega

/-- Behind a request: the last used one goes, of alike ones the greater. -/
def NextL (l : List Int) (r : Int) (i : Nat) (keys keys' : List Int) : Prop :=
  (((all l i keys).length : Int) ≤ r ∧ keys'.Perm (all l i keys)) ∨
  (r < ((all l i keys).length : Int) ∧ ∃ y, (all l i keys).Perm (y :: keys') ∧ ∀ x ∈ all l i keys, nxt l (i + 1) x < nxt l (i + 1) y ∨ (nxt l (i + 1) x = nxt l (i + 1) y ∧ x ≤ y))
theorem NextL.next {l : List Int} {r : Int} {i : Nat} {keys keys' : List Int} (h : NextL l r i keys keys') : Bel.Next l r i keys keys' := by
  rcases h with h | ⟨h1, y, h2, h3⟩
  · exact .inl h
  · exact .inr ⟨h1, y, h2, fun x hx => by rcases h3 x hx with h | ⟨h, _⟩ <;> omega⟩

/-- The first steps, and what was hit. -/
inductive Pre (l : List Int) (r : Int) : Nat → List Int → List Bool → Prop
  | nil : Pre l r 0 [] []
  | snoc (i : Nat) (keys keys' : List Int) (o : List Bool) (h : Pre l r i keys o) (hi : i < l.length) (hn : NextL l r i keys keys') : Pre l r (i + 1) keys' (o ++ [decide (l.getD i 0 ∈ keys)])
/-- How many. -/
def hits (o : List Bool) : Int := (o.countP id : Nat)
theorem hits_snoc (o : List Bool) (b : Bool) : hits (o ++ [b]) = hits o + (if b then 1 else 0) := by
  unfold hits
  rw [List.countP_append]
  cases b <;> simp
theorem Pre.run {l : List Int} {r : Int} {i : Nat} {keys : List Int} {o : List Bool} (p : Pre l r i keys o) : ∀ (d : Nat) (h : Int), Run l r d i keys h → Run l r (i + d) 0 [] (hits o + h) := by
  induction p with
  | nil => intro d h hr; simpa [hits] using hr
  | snoc i keys keys' o hp hi hn ih =>
    intro d h hr
    have := ih (d + 1) _ (Run.step d i keys keys' h hi hn.next hr)
    rw [hits_snoc, show i + 1 + d = i + (d + 1) by omega]
    by_cases hm : l.getD i 0 ∈ keys
    · rw [if_pos hm] at this
      rw [decide_eq_true hm, if_pos rfl, Int.add_assoc]
      exact this
    · rw [if_neg hm] at this
      rw [decide_eq_false hm, if_neg (by simp), Int.add_assoc]
      exact this
theorem Pre.len {l : List Int} {r : Int} {i : Nat} {keys : List Int} {o : List Bool} (p : Pre l r i keys o) : o.length = i := by
  induction p with
  | nil => rfl
  | snoc i keys keys' o hp hi hn ih => simp [ih]
theorem Pre.hits_eq {l : List Int} {r : Int} (hr : 0 ≤ r) {keys : List Int} {o : List Bool} (p : Pre l r l.length keys o) : hits o = B l r l.length 0 (fun _ => 0) := by
  have h := (p.run 0 0 (.done _ _)).eq List.nodup_nil (by simpa using hr)
  rw [Nat.add_zero, Int.add_zero] at h
  rw [h]
  exact B_congr l r _ _ _ _ (fun t _ => rfl)
/-- A step of the tree is a step of the keys. -/
theorem Us.next {l : List Int} {r : Int} {i : Nat} {t : T (Int × Int) Bool} (h : Us l i t) (hi : i < l.length) (t2 : T (Int × Int) Bool)
    (e2 : t2 = T.put cuse ((nxt l (i + 1) (l.getD i 0) : Int), l.getD i 0) true (T.drop cuse ((i : Int), l.getD i 0) t)) :
    (t2.sz ≤ r → NextL l r i (KS t) (KS t2)) ∧ (r < t2.sz → ∀ y : Int, (KS t2).Perm (y :: KS (T.drop cuse ((nxt l (i + 1) y : Int), y) t2)) → (∀ x ∈ KS t2, nxt l (i + 1) x < nxt l (i + 1) y ∨ (nxt l (i + 1) x = nxt l (i + 1) y ∧ x ≤ y)) → NextL l r i (KS t) (KS (T.drop cuse ((nxt l (i + 1) y : Int), y) t2))) := by
  obtain ⟨hU, hp⟩ := h.step hi
  rw [← e2] at hU hp
  have hl : ((all l i (KS t)).length : Int) = t2.sz := by rw [hp.length_eq, KS_len]
  refine ⟨fun hr => .inl ⟨by omega, hp.symm⟩, fun hr y hy hx => .inr ⟨by omega, y, hp.trans hy, fun x hxm => hx x (hp.mem_iff.1 hxm)⟩⟩
end Go.Proofs.Ytnjohjicmhobdaa.Bl
