/-
  Histories: what a right history keeps when its calls are put in order; that the program answers; the walk of HistCounts.
  At most 60 calls (the law's own guard); no other condition.
-/
import Derived.Test.YtbjkpiobfiebhaaHsM
namespace Go.Proofs.Ytbjkpiobfiebhaa.Hs
open Go.RowKit Go.Seg Go.Open Go.Lib Go.Arr Go.Stab Go.Row

theorem apart_symm {x y : C} (h : apart x y = true) : apart y x = true := by
  unfold apart alike at *
  simp only [Bool.and_eq_true, Bool.not_eq_true', Bool.or_eq_false_iff, Bool.and_eq_false_iff, beq_eq_false_iff_ne, decide_eq_false_iff_not, Bool.or_eq_true, bne_iff_ne] at *
  obtain ⟨⟨h1, h2⟩, h3⟩ := h
  refine ⟨⟨fun e => h1 e.symm, ?_⟩, ?_⟩
  · rcases h2 with h2 | h2
    · by_cases h4 : 0 ≤ y.at_
      · exact .inr (fun e => h2 (by omega))
      · exact .inl h4
    · exact .inr (fun e => h2 e.symm)
  · rcases h3 with h3 | h3 | h3
    · exact .inl (fun e => h3 e.symm)
    · exact .inr (.inr h3)
    · exact .inr (.inl h3)
theorem right_iff (T : List C) : RightP T ↔ (∀ x ∈ T, opR x = true ∧ timed x = true) ∧ T.Pairwise (fun d x => apart x d = true) := by
  constructor
  · intro h
    refine ⟨fun x hx => ?_, ?_⟩
    · obtain ⟨S, R, e⟩ := List.append_of_mem hx
      have := h S x R e
      exact ⟨this.1, this.2.1⟩
    · rw [List.pairwise_iff_getElem]
      intro i j hi hj hij
      obtain ⟨S, x, R, e, hS⟩ := split_at T j hj
      have h1 := (h S x R e).2.2
      rw [List.any_eq_false] at h1
      subst e
      have e1 : (S ++ x :: R)[j] = x := by simp [← hS]
      have e2 : (S ++ x :: R)[i] = S[i]'(by omega) := List.getElem_append_left (by omega)
      rw [e1, e2]
      have := h1 (S[i]'(by omega)) (List.getElem_mem _)
      simpa using this
  · rintro ⟨h1, h2⟩ S x R rfl
    refine ⟨(h1 x (by simp)).1, (h1 x (by simp)).2, ?_⟩
    rw [List.any_eq_false]
    intro d hd
    have := (List.pairwise_append.1 h2).2.2 d hd x (by simp)
    simp [this]
/-- One behind the other, as they counted. -/
def Then' (y x : C) : Prop := y.at_ < x.at_ ∧ ahead x y = false
theorem counts_ok {T : List C} (h : RightP T) {L : List (C × Nat)} (hd : Done (fun x => x.at_) (sel (fun x => decide (0 ≤ x.at_)) T) L) : (L.map Prod.fst).Pairwise Then' ∧ RightP (L.map Prod.fst) := by
  have hp : (L.map Prod.fst).Perm (T.filter fun x => decide (0 ≤ x.at_)) := by
    have := hd.1.map Prod.fst
    rwa [sel_map] at this
  obtain ⟨h1, h2⟩ := (right_iff T).1 h
  have hm : ∀ x ∈ L.map Prod.fst, (opR x = true ∧ timed x = true) ∧ 0 ≤ x.at_ := fun x hx => by
    have := List.mem_filter.1 (hp.mem_iff.1 hx)
    exact ⟨h1 x this.1, of_decide_eq_true this.2⟩
  have ha : (L.map Prod.fst).Pairwise (fun d x => apart x d = true) := (hp.pairwise_iff (fun h => apart_symm h)).2 (h2.filter _)
  refine ⟨?_, (right_iff _).2 ⟨fun x hx => (hm x hx).1, ha⟩⟩
  have hs : (L.map Prod.fst).Pairwise (fun y x => y.at_ ≤ x.at_) := by
    rw [List.pairwise_map]
    exact hd.2.imp (fun h => by unfold Lt at h; dsimp only at h; omega)
  refine (List.Pairwise.and_mem.1 (ha.and hs)).imp ?_
  rintro y x ⟨hy, hx, h3, h4⟩
  have hy' := hm y hy
  have hx' := hm x hx
  have h5 : y.at_ < x.at_ := by
    rcases Int.lt_or_eq_of_le h4 with h6 | h6
    · exact h6
    · exfalso
      unfold apart alike at h3
      simp [h6, hx'.2] at h3
  refine ⟨h5, ?_⟩
  have t1 := hx'.1.2
  have t2 := hy'.1.2
  unfold timed at t1 t2
  unfold ahead
  split at t1
  · cases t1
  split at t1
  · omega
  split at t2
  · cases t2
  split at t2
  · omega
  simp only [Bool.and_eq_true, Bool.or_eq_true, decide_eq_true_eq] at t1 t2
  simp only [Bool.and_eq_false_iff, decide_eq_false_iff_not]
  omega
theorem swaps_zero {l : List C} (h : l.Pairwise Then') : swaps l = 0 := by
  induction l with
  | nil => rfl
  | cons x l ih =>
    obtain ⟨h1, h2⟩ := List.pairwise_cons.1 h
    simp only [swaps, ih h2, Nat.add_zero]
    rw [List.countP_eq_zero]
    intro y hy
    rw [(h1 y hy).2]
    decide

/-- The two calls by which the program shows that it answers. -/
def c0 : C := ⟨0, 0, 0, 0, 0, 0, 0, 0, 1, 4, 0, false, 0⟩
def c1 : C := ⟨0, 1, 0, 0, 0, 0, 0, 5, 6, -1, 0, false, 0⟩
theorem right_two : RightP [c0, c1] := by
  rw [right_iff]
  refine ⟨fun x hx => ?_, ?_⟩
  · simp only [List.mem_cons, List.not_mem_nil, or_false] at hx
    rcases hx with rfl | rfl <;> decide
  · refine List.pairwise_cons.2 ⟨fun x hx => ?_, List.pairwise_singleton _ _⟩
    simp only [List.mem_cons, List.not_mem_nil, or_false] at hx
    subst hx
    decide
theorem two_new (w : World) (hz1 : Blk ((w.alloc (.cells ZC 29)).alloc (.cells ZC 29)) w.heap.size ZC 29) (x y : C) : ∃ W1 W2, (Instr.storeAt 29 (.pointer (some ⟨w.heap.size, 0, none⟩)) (CV x)).run Try.prog ((w.alloc (.cells ZC 29)).alloc (.cells ZC 29)) = .ok () W1 ∧
    (Instr.storeAt 29 (.pointer (some ⟨w.heap.size + 1, 0, none⟩)) (CV y)).run Try.prog W1 = .ok () W2 ∧ Blk W2 w.heap.size (enc x).toArray 29 ∧ Blk W2 (w.heap.size + 1) (enc y).toArray 29 ∧ Ext w W2 := by
  have hz2 : Blk ((w.alloc (.cells ZC 29)).alloc (.cells ZC 29)) (w.heap.size + 1) ZC 29 := blk_at (by simp)
  obtain ⟨W1, r1, b1, c1⟩ := struct_store (P := Try.prog) (enc x).toArray hz1 (by kernel_rfl) rfl (by simp [enc, Value.oneCell'])
  have hz2' := Prg.blk_chg1 hz2 c1 (by omega)
  obtain ⟨W2, r2, b2, c2⟩ := struct_store (P := Try.prog) (enc y).toArray hz2' (by kernel_rfl) rfl (by simp [enc, Value.oneCell'])
  have b1' := Prg.blk_chg1 b1 c2 (by omega)
  refine ⟨W1, W2, run_storeA (size_ct _) rfl r1, run_storeA (size_ct _) rfl r2, b1', b2, ?_⟩
  exact below_chg (below_chg ((ext_alloc _ _).trans (ext_alloc _ _)) c1 (fun i hi => by omega)) c2 (fun i hi => by omega)
theorem vc_two {W : World} {g : Nat} (x y : C) (h : Blk W g (enc x ++ enc y).toArray 29) : VC W (some ⟨g, 0, none⟩) 2 g 0 [x, y] := by
  refine ⟨rfl, fun _ => rfl, fun W' hW i hi j hj => ?_⟩
  rw [Blk.cells (h.ext hW)]
  match i, hi with
  | 0, _ => simp [List.getElem?_append_left (show j < (enc x).length by rw [enc_len]; exact hj)]
  | 1, _ =>
    simp only [Nat.zero_add, Nat.one_mul, List.getElem?_toArray]
    rw [List.getElem?_append_right (by rw [enc_len]; omega), enc_len, Nat.add_sub_cancel_left]
    rfl
set_option maxRecDepth 100000 in
set_option maxHeartbeats 4000000 in
theorem awake_any (w : World) : Calls Try.prog 7 #[] w fun e w' => e = .returned (.bool true) ∧ Ext w w' := by
  obtain ⟨W1, W2, s1, s2, b1, b2, hE⟩ := two_new w ((Blk.new _ _ _).al _) c0 c1
  have HB := Lib.hid (And.intro b1 (And.intro b2 hE))
  have l1 := (at1_blk b1).ld W2 (Ext.refl _)
  have l2 := (at1_blk b2).ld W2 (Ext.refl _)
  unfold CV c0 enc ZC at s1
  unfold CV c1 enc at s2
  clear b1 b2 hE
  go_enter Try.func7, Try.ntmps7
  go_wp2_with (first | refine Arr.wpList_stA rfl _ _ _ rfl rfl s1 ?_ | refine Arr.wpList_stA rfl _ _ _ rfl rfl s2 ?_ | refine Arr.wpList_ldA rfl _ _ rfl _ l1 ?_ | refine Arr.wpList_ldA rfl _ _ rfl _ l2 ?_)
  refine (ahead_any c0 c1 _).mono ?_
  rintro e w3 ⟨rfl, hE3⟩
  have HE3 := Lib.hid hE3
  have l3 := (at1_blk (HB.out.1.ext hE3)).ld w3 (Ext.refl _)
  have l4 := (at1_blk (HB.out.2.1.ext hE3)).ld w3 (Ext.refl _)
  have a1 : ahead c0 c1 = true := by decide
  clear hE3 l1 l2 s1 s2
  go_wp2_with (first | refine Arr.wpList_ldA rfl _ _ rfl _ l3 ?_ | refine Arr.wpList_ldA rfl _ _ rfl _ l4 ?_)
  refine (ahead_any c1 c0 _).mono ?_
  rintro e w4 ⟨rfl, hE4⟩
  have HE4 := Lib.hid (HE3.out.trans hE4)
  have l5 := (at1_blk (HB.out.1.ext HE4.out)).ld w4 (Ext.refl _)
  have l6 := (at1_blk (HB.out.2.1.ext HE4.out)).ld w4 (Ext.refl _)
  have a2 : ahead c1 c0 = false := by decide
  clear hE4 l3 l4 a1
  unfold CV at l5 l6
  go_wp2_with (first | refine Arr.wpList_ldA rfl _ _ rfl _ l5 ?_ | refine Arr.wpList_ldA rfl _ _ rfl _ l6 ?_)
  refine (Right_any [c0, c1] _ 2 2 w4.heap.size 0 _ (vc_two c0 c1 (Blk.new _ _ _)) (by omega) (by omega)).mono ?_
  rintro e w5 ⟨⟨r, rfl, hr⟩, hE5⟩
  obtain rfl := hr.2 right_two
  have HE5 := Lib.hid ((ext_alloc _ _).trans hE5)
  clear hE5 hr a2
  go_wp2_with fail
  go_ret
  exact ⟨rfl, HB.out.2.2.trans (HE4.out.trans HE5.out)⟩
end Go.Proofs.Ytbjkpiobfiebhaa.Hs
