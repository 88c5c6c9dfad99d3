/-
  Belady: what the tree of uses keeps, step by step: plain.
  No condition.
-/
import Derived.Test.YtnjohjicmhobdaaBelBest
import Derived.Test.YtnjohjicmhobdaaRankG
import Derived.Test.YtnjohjicmhobdaaBelAt
import Derived.Test.YtnjohjicmhobdaaBelNext
namespace Go.Proofs.Ytnjohjicmhobdaa.Bl
open Go.RowKit Go.Seg Go.Open Go.Lib Bel Rk TrUs

theorem cuse_neg (a b : Int × Int) : cuse a b < 0 ↔ a.1 < b.1 ∨ (a.1 = b.1 ∧ a.2 < b.2) := by
  unfold cuse orI cint
  repeat' split
  all_goals omega
theorem cuse_zero (a b : Int × Int) : cuse a b = 0 ↔ a = b := by
  rw [Prod.ext_iff]
  unfold cuse orI cint
  repeat' split
  all_goals omega
theorem cuse_pos (a b : Int × Int) : 0 < cuse a b ↔ b.1 < a.1 ∨ (a.1 = b.1 ∧ b.2 < a.2) := by
  unfold cuse orI cint
  repeat' split
  all_goals omega
theorem cuse_lawful : Lawful cuse where
  eq := cuse_zero
  swap a b := by rw [cuse_neg, cuse_pos]; omega
  trans a b d := by rw [cuse_neg, cuse_neg, cuse_neg]; omega

section
variable {α β : Type} {c : α → α → Int}
theorem look_of_mem (hc : Lawful c) {k : α} {v : β} : ∀ {l : List (α × β)}, Up c l → (k, v) ∈ l → Rk.look c k l = some v
  | [], _, h => by cases h
  | x :: l, hu, h => by
    obtain ⟨h1, h2⟩ := List.pairwise_cons.1 hu
    simp only [Rk.look]
    rcases List.mem_cons.1 h with rfl | hm
    · rw [if_pos ((hc.eq k k).2 rfl)]
    · have hlt : c x.1 k < 0 := h1 _ hm
      have hne : c k x.1 ≠ 0 := fun e => by
        have := (hc.eq _ _).1 e
        subst this
        have := (hc.eq x.1 x.1).2 rfl
        omega
      rw [if_neg hne]
      exact look_of_mem hc h2 hm
theorem mem_del_iff (hc : Lawful c) {k : α} {y : α × β} : ∀ {l : List (α × β)}, Up c l → (y ∈ del c k l ↔ y ∈ l ∧ y.1 ≠ k)
  | [], _ => by simp [del]
  | x :: l, hu => by
    obtain ⟨h1, h2⟩ := List.pairwise_cons.1 hu
    simp only [del]
    by_cases e : c k x.1 = 0
    · rw [if_pos e]
      have ek := (hc.eq _ _).1 e
      subst ek
      constructor
      · intro h
        refine ⟨List.mem_cons_of_mem _ h, fun q => ?_⟩
        have := h1 _ h
        rw [q] at this
        omega
      · rintro ⟨h, hne⟩
        rcases List.mem_cons.1 h with rfl | h
        · exact absurd rfl hne
        · exact h
    · rw [if_neg e]
      have ih := mem_del_iff hc (k := k) (y := y) h2
      have hx : x.1 ≠ k := fun q => e ((hc.eq _ _).2 q.symm)
      rw [List.mem_cons, List.mem_cons, ih]
      constructor
      · rintro (rfl | ⟨h, hn⟩)
        · exact ⟨.inl rfl, hx⟩
        · exact ⟨.inr h, hn⟩
      · rintro ⟨rfl | h, hn⟩
        · exact .inl rfl
        · exact .inr ⟨h, hn⟩
theorem mem_ins_iff (hc : Lawful c) {k : α} {v : β} {y : α × β} : ∀ {l : List (α × β)}, Up c l → (y ∈ ins c k v l ↔ y = (k, v) ∨ (y ∈ l ∧ y.1 ≠ k))
  | [], _ => by simp [ins]
  | x :: l, hu => by
    obtain ⟨h1, h2⟩ := List.pairwise_cons.1 hu
    simp only [ins]
    by_cases e1 : c k x.1 < 0
    · rw [if_pos e1]
      have hall : ∀ z ∈ x :: l, z.1 ≠ k := by
        intro z hz q
        rcases List.mem_cons.1 hz with rfl | hz
        · rw [q] at e1
          have := (hc.eq k k).2 rfl
          omega
        · have h3 := hc.trans _ _ _ e1 (h1 _ hz)
          rw [q] at h3
          have := (hc.eq k k).2 rfl
          omega
      rw [List.mem_cons]
      exact ⟨fun h => h.imp id (fun h => ⟨h, hall _ h⟩), fun h => h.imp id (fun h => h.1)⟩
    · rw [if_neg e1]
      by_cases e2 : c k x.1 > 0
      · rw [if_pos e2, List.mem_cons, List.mem_cons, mem_ins_iff hc h2]
        have hx : x.1 ≠ k := fun q => by
          have := (hc.eq k x.1).2 q.symm
          omega
        constructor
        · rintro (rfl | rfl | ⟨h, hn⟩)
          · exact .inr ⟨.inl rfl, hx⟩
          · exact .inl rfl
          · exact .inr ⟨.inr h, hn⟩
        · rintro (rfl | ⟨rfl | h, hn⟩)
          · exact .inr (.inl rfl)
          · exact .inl rfl
          · exact .inr (.inr ⟨h, hn⟩)
      · rw [if_neg e2]
        have ek := (hc.eq _ _).1 (by omega : c k x.1 = 0)
        subst ek
        rw [List.mem_cons, List.mem_cons]
        constructor
        · rintro (rfl | h)
          · exact .inl rfl
          · refine .inr ⟨.inr h, fun q => ?_⟩
            have := h1 _ h
            rw [q] at this
            omega
        · rintro (rfl | ⟨rfl | h, hn⟩)
          · exact .inl rfl
          · exact absurd rfl hn
          · exact .inr h
end

theorem perm_of_mem : ∀ (a b : List Int), a.Nodup → b.Nodup → (∀ x, x ∈ a ↔ x ∈ b) → a.Perm b
  | [], b, _, _, h => by
    have : b = [] := List.eq_nil_iff_forall_not_mem.2 (fun x hx => by have := (h x).2 hx; simp at this)
    rw [this]
  | x :: a, b, ha, hb, h => by
    obtain ⟨hx, ha⟩ := List.nodup_cons.1 ha
    have hp := List.perm_cons_erase ((h x).1 (by simp))
    refine List.Perm.trans (List.Perm.cons x (perm_of_mem a (b.erase x) ha (hb.erase x) (fun y => ?_))) hp.symm
    rw [hb.mem_erase_iff, ← h y, List.mem_cons]
    constructor
    · intro hy
      exact ⟨fun e => hx (e ▸ hy), .inr hy⟩
    · rintro ⟨hne, rfl | hy⟩
      · exact absurd rfl hne
      · exact hy

/-- The keys that are kept. -/
def KS (t : T (Int × Int) Bool) : List Int := t.toL.map fun p => p.1.2
/-- The tree holds each kept key by its next use. -/
structure Us (l : List Int) (i : Nat) (t : T (Int × Int) Bool) : Prop where
  up : Up cuse t.toL
  at_ : ∀ p ∈ t.toL, p.2 = true ∧ p.1.1 = (nxt l i p.1.2 : Int)
theorem Us.nil (l : List Int) (i : Nat) : Us l i .nil := ⟨List.Pairwise.nil, fun _ h => by cases h⟩
theorem KS_len (t : T (Int × Int) Bool) : ((KS t).length : Int) = t.sz := by unfold KS; rw [List.length_map, T.sz_toL]
theorem Us.mem {l : List Int} {i : Nat} {t : T (Int × Int) Bool} (h : Us l i t) (k : Int) : k ∈ KS t ↔ (((nxt l i k : Int), k), true) ∈ t.toL := by
  unfold KS
  rw [List.mem_map]
  constructor
  · rintro ⟨p, hp, rfl⟩
    obtain ⟨h1, h2⟩ := h.at_ p hp
    rw [← h2, ← h1]
    exact hp
  · intro hp
    exact ⟨_, hp, rfl⟩
theorem Us.nodup {l : List Int} {i : Nat} {t : T (Int × Int) Bool} (h : Us l i t) : (KS t).Nodup := by
  unfold KS List.Nodup
  rw [List.pairwise_map]
  refine List.Pairwise.imp_of_mem ?_ h.up
  intro p q hp hq hlt e
  have h1 := (h.at_ p hp).2
  have h2 := (h.at_ q hq).2
  rw [e] at h1
  rw [cuse_neg] at hlt
  omega
theorem Us.get {l : List Int} {i : Nat} {t : T (Int × Int) Bool} (h : Us l i t) (hi : i < l.length) : (T.get cuse ((i : Int), l.getD i 0) t).isSome = decide (l.getD i 0 ∈ KS t) := by
  rw [get_toL cuse_lawful _ _ h.up]
  have hn : nxt l i (l.getD i 0) = i := by rw [getD_eq hi, nxt_step hi, if_pos rfl]
  by_cases hm : l.getD i 0 ∈ KS t
  · have := (h.mem _).1 hm
    rw [hn] at this
    rw [look_of_mem cuse_lawful h.up this]
    rw [decide_eq_true hm]
    rfl
  · rw [look_none_of cuse_lawful _ _ (fun p hp e => hm (by unfold KS; exact List.mem_map.2 ⟨p, hp, by rw [e]⟩))]
    rw [decide_eq_false hm]
    rfl
/-- Behind a request: its key has its next use. -/
theorem Us.step {l : List Int} {i : Nat} {t : T (Int × Int) Bool} (h : Us l i t) (hi : i < l.length) :
    Us l (i + 1) (T.put cuse ((nxt l (i + 1) (l.getD i 0) : Int), l.getD i 0) true (T.drop cuse ((i : Int), l.getD i 0) t)) ∧
    (all l i (KS t)).Perm (KS (T.put cuse ((nxt l (i + 1) (l.getD i 0) : Int), l.getD i 0) true (T.drop cuse ((i : Int), l.getD i 0) t))) := by
  have hn : nxt l i (l.getD i 0) = i := by rw [getD_eq hi, nxt_step hi, if_pos rfl]
  have hd := toL_drop cuse_lawful ((i : Int), l.getD i 0) t h.up
  have hu1 : Up cuse (T.drop cuse ((i : Int), l.getD i 0) t).toL := up_drop cuse_lawful _ h.up
  have hp := toL_put cuse_lawful ((nxt l (i + 1) (l.getD i 0) : Int), l.getD i 0) true _ hu1
  have hu2 := up_put cuse_lawful ((nxt l (i + 1) (l.getD i 0) : Int), l.getD i 0) true hu1
  have hother : ∀ k, k ≠ l.getD i 0 → nxt l i k = nxt l (i + 1) k := fun k hk => by
    rw [nxt_step hi, if_neg (fun e => hk (by rw [getD_eq hi, e]))]
  have hmem : ∀ p, p ∈ (T.put cuse ((nxt l (i + 1) (l.getD i 0) : Int), l.getD i 0) true (T.drop cuse ((i : Int), l.getD i 0) t)).toL ↔ p = (((nxt l (i + 1) (l.getD i 0) : Int), l.getD i 0), true) ∨ (p ∈ t.toL ∧ p.1.2 ≠ l.getD i 0) := by
    intro p
    rw [hp, mem_ins_iff cuse_lawful hu1, hd, mem_del_iff cuse_lawful h.up]
    constructor
    · rintro (h1 | ⟨⟨h1, h2⟩, h3⟩)
      · exact .inl h1
      · refine .inr ⟨h1, fun e => h2 ?_⟩
        have := (h.at_ p h1).2
        rw [e, hn] at this
        exact Prod.ext this e
    · rintro (h1 | ⟨h1, h2⟩)
      · exact .inl h1
      · exact .inr ⟨⟨h1, fun e => h2 (by rw [e])⟩, fun e => h2 (by rw [e])⟩
  have hU : Us l (i + 1) (T.put cuse ((nxt l (i + 1) (l.getD i 0) : Int), l.getD i 0) true (T.drop cuse ((i : Int), l.getD i 0) t)) := ⟨hu2, fun p hp' => by
    rcases (hmem p).1 hp' with rfl | ⟨h1, h2⟩
    · exact ⟨rfl, rfl⟩
    · obtain ⟨a, b⟩ := h.at_ p h1
      exact ⟨a, by rw [b, hother _ h2]⟩⟩
  refine ⟨hU, perm_of_mem _ _ (all_nodup l i h.nodup) hU.nodup (fun x => ?_)⟩
  have e1 : x ∈ KS (T.put cuse ((nxt l (i + 1) (l.getD i 0) : Int), l.getD i 0) true (T.drop cuse ((i : Int), l.getD i 0) t)) ↔ x = l.getD i 0 ∨ x ∈ KS t := by
    unfold KS
    rw [List.mem_map, List.mem_map]
    constructor
    · rintro ⟨p, hp', rfl⟩
      rcases (hmem p).1 hp' with rfl | ⟨h1, _⟩
      · exact .inl rfl
      · exact .inr ⟨p, h1, rfl⟩
    · rintro (rfl | ⟨p, h1, rfl⟩)
      · exact ⟨_, (hmem _).2 (.inl rfl), rfl⟩
      · by_cases e : p.1.2 = l.getD i 0
        · exact ⟨_, (hmem _).2 (.inl rfl), e.symm⟩
        · exact ⟨p, (hmem p).2 (.inr ⟨h1, e⟩), rfl⟩
  rw [e1]
  unfold all
  split
  · rename_i hm
    exact ⟨.inr, fun h => h.elim (fun e => e ▸ hm) id⟩
  · rw [List.mem_cons]
end Go.Proofs.Ytnjohjicmhobdaa.Bl
