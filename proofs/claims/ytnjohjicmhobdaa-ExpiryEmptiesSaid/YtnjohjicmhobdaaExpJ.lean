/-
  The document's answer for layer 20: Put; how many buckets; the same rows?
  Fewer than 1,000,000 hashes; ends as an index takes them; no other condition.
-/
import Derived.Test.YtnjohjicmhobdaaExpI
namespace Go.Proofs.Ytnjohjicmhobdaa.Exi
open Go.RowKit Go.Shelf Go.Seg Go.Open Go.Lib Rk Ex
attribute [local go_sem] Oper.semAt_some

theorem insX_app (x : Int × Int) : ∀ (p q : List (Int × Int)), (∀ y ∈ p, ¬ Lt2 x y) → insX x (p ++ q) = p ++ insX x q
  | [], q, _ => rfl
  | y :: p, q, h => by
    rw [List.cons_append, insX, if_neg (h y (by simp)), insX_app x p q (fun z hz => h z (List.mem_cons_of_mem _ hz)), List.cons_append]
theorem insX_len (x : Int × Int) : ∀ (l : List (Int × Int)), (insX x l).length = l.length + 1
  | [] => rfl
  | y :: l => by
    simp only [insX]
    split
    · simp
    · simp [insX_len x l]
/-- Put's loop: what it has written down, whether the new one is among it. -/
def PutI (x : Int × Int) (r : List (Int × Int)) (n : Nat) (L : List (Int × Int)) (dn : Bool) : Prop :=
  (dn = false → L = r.take n ∧ ∀ y ∈ r.take n, ¬ Lt2 x y) ∧ (dn = true → L ++ r.drop n = insX x r)
theorem PutI.zero (x : Int × Int) (r : List (Int × Int)) : PutI x r 0 [] false := ⟨fun _ => ⟨rfl, fun y h => by simp at h⟩, fun h => by cases h⟩
theorem PutI.len {x : Int × Int} {r : List (Int × Int)} {n : Nat} {L : List (Int × Int)} {dn : Bool} (h : PutI x r n L dn) (hn : n ≤ r.length) : L.length ≤ n + 1 ∧ (dn = false → L.length = n) := by
  cases dn with
  | false =>
    have := (h.1 rfl).1
    rw [this, List.length_take]
    omega
  | true =>
    have := congrArg List.length (h.2 rfl)
    rw [List.length_append, List.length_drop, insX_len] at this
    exact ⟨by omega, fun h => by cases h⟩
theorem PutI.now {x : Int × Int} {r : List (Int × Int)} {n : Nat} {L : List (Int × Int)} (h : PutI x r n L false) (hn : n < r.length) (hx : Lt2 x r[n]) : PutI x r (n + 1) (L ++ [x, r[n]]) true := by
  obtain ⟨rfl, h2⟩ := h.1 rfl
  clear h
  refine ⟨fun h => (by cases h), fun _ => ?_⟩
  conv => rhs; rw [← List.take_append_drop n r]
  rw [insX_app x _ _ h2, List.drop_eq_getElem_cons hn]
  simp [insX, hx]
theorem PutI.not {x : Int × Int} {r : List (Int × Int)} {n : Nat} {L : List (Int × Int)} {dn : Bool} (h : PutI x r n L dn) (hn : n < r.length) (hx : dn = false → ¬ Lt2 x r[n]) : PutI x r (n + 1) (L ++ [r[n]]) dn := by
  refine ⟨fun hd => ?_, fun hd => ?_⟩
  · obtain ⟨rfl, h2⟩ := h.1 hd
    refine ⟨(take_snoc hn).symm, fun y hy => ?_⟩
    rw [take_snoc hn, List.mem_append, List.mem_singleton] at hy
    rcases hy with hy | rfl
    · exact h2 y hy
    · exact hx hd
  · have := h.2 hd
    rw [List.drop_eq_getElem_cons hn] at this
    rw [← this]
    simp
theorem PutI.last {x : Int × Int} {r : List (Int × Int)} {L : List (Int × Int)} (h : PutI x r r.length L false) : L ++ [x] = insX x r := by
  obtain ⟨rfl, h2⟩ := h.1 rfl
  rw [List.take_length] at h2 ⊢
  have := insX_app x r [] h2
  rw [List.append_nil] at this
  rw [this]
  rfl
theorem PutI.done {x : Int × Int} {r : List (Int × Int)} {L : List (Int × Int)} (h : PutI x r r.length L true) : L = insX x r := by
  have := h.2 rfl
  rwa [List.drop_length, List.append_nil] at this

set_option maxRecDepth 100000 in
set_option maxHeartbeats 4000000 in
theorem rPut (u : Value) (B : Nat) (l : List (Int × Int)) (k e : Int) (w : World) (h : RowE w B u l) (hl : l.length < 999999) (he : Ends l) :
    Calls Try.prog 35 #[u, .int .u64 k, .int .i64 e] w fun v w' => ∃ u', v = .returned u' ∧ RowE w' w.heap.size u' (refPut l k e) ∧ Ext w w' := by
  obtain ⟨a0, cap0, rfl⟩ := h.val
  have HRow := Lib.hid h
  have HEn := Lib.hid he
  clear h he
  go_enter Try.func35, Try.ntmps35
  go_wp2_with fail
  refine (rDrop _ B l k _ HRow.out (by omega)).mono ?_
  rintro ee w1 ⟨u1, rfl, hR1, hE1⟩
  have hlr := List.length_filter_le (fun x : Int × Int => decide (x.1 ≠ k)) l
  obtain ⟨a, cap, b, F, rfl, ha, hF, hc⟩ := hR1.openR
  have hz1 := hE1.size
  have HEr : Hid (Ends (rest l k)) := Lib.hid (fun x hx => HEn.out x ((List.mem_filter.1 hx).1))
  have HR1 := Lib.hid hR1
  have HE1 := Lib.hid hE1
  have HA := Lib.hid ha
  have HC := Lib.hid hc
  have HF := Lib.hid hF
  have HPut : Hid (refPut l k e = if e < 1 ∨ e > 1099511627776 then rest l k else insX (k, e) (rest l k)) := Lib.hid rfl
  change (rest l k).length ≤ l.length at hlr
  clear hR1 hE1 ha hc hF HEn
  generalize rest l k = r at *
  by_cases hb : e < 1 ∨ e > 1099511627776
  · rcases hb with hb | hb
    · have d1 : decide (e < 1) = true := decide_eq_true hb
      have HP : Hid (refPut l k e = r) := Lib.hid (by rw [HPut.out, if_pos (.inl hb)])
      go_wp2_with fail
      go_ret
      rw [HP.out]
      exact ⟨_, rfl, HR1.out, HE1.out⟩
    · have d1 : decide (e < 1) = false := decide_eq_false (by omega)
      have d2 : decide (e > 1099511627776) = true := decide_eq_true hb
      have HP : Hid (refPut l k e = r) := Lib.hid (by rw [HPut.out, if_pos (.inr hb)])
      go_wp2_with fail
      go_ret
      rw [HP.out]
      exact ⟨_, rfl, HR1.out, HE1.out⟩
  have d1 : decide (e < 1) = false := decide_eq_false (by omega)
  have d2 : decide (e > 1099511627776) = false := decide_eq_false (by omega)
  have HP : Hid (refPut l k e = insX (k, e) r) := Lib.hid (by rw [HPut.out, if_neg hb])
  have HB := Lib.hid (show 1 ≤ e ∧ e ≤ 1099511627776 by omega)
  clear hb HPut
  go_wp2_with fail
  go_loopg [9, 10, 11, 12, 13] r.length (fun g v dv i _ _ wr => ∃ (n : Nat) (L : List (Int × Int)) (dn : Bool), i = .int .i64 n ∧ n ≤ r.length ∧ dv = .bool dn ∧ Hid (PutI (k, e) r n L dn) ∧ RowE wr w1.heap.size v L ∧ Ext w1 wr ∧ r.length - n ≤ g)
  case atStart => exact ⟨0, [], false, rfl, Nat.zero_le _, rfl, Lib.hid (PutI.zero _ _), RowE.nil _ _, Ext.refl _, Nat.le_refl _⟩
  case round =>
    obtain ⟨n, L, dn, rfl, hn, rfl, HI, hown, hE, hg⟩ := hrel
    have HOwn := Lib.hid hown
    have HE := Lib.hid hE
    obtain ⟨hLn, hLn'⟩ := HI.out.len hn
    obtain ⟨av, cv, rfl⟩ := hown.val
    clear hown hE
    by_cases hik : n < r.length
    · obtain rfl := HA.out (by omega)
      have HBF := Lib.hid (show 1 ≤ (F n).2 ∧ (F n).2 ≤ 1099511627776 from HEr.out (F n) (by rw [HF.out n hik]; exact List.getElem_mem _))
      have HFn := Lib.hid (HF.out n hik)
      go_wp2_with fail
      refine wp_region_segsK [([1, 1, 4, 4], 0, 0), ([0, 1, 1, 3], 3, 7), ([1, 2], 1, 0), ([2], 0, 0)] (by kernel_rfl) (by kernel_rfl) ?_
      apply segsK_pure
      · intro W
        simp only [runsT, runsF, rep, pick]
        go_wp2_with fail
        exact ⟨rfl, rfl⟩
      simp only [runsT, runsF, rep, left]
      apply segsK_class
      · intro W hW
        obtain ⟨x0, x1⟩ := HC.out _ (HE.out.trans ((Ext.drew _).trans hW)) n hik
        simp only [runsT, runsF, rep, pick]
        go_wp2_with fail
        exact ⟨rfl, rfl⟩
      simp only [runsT, runsF, rep, left]
      go_wp2_with fail
      refine (rBucket _ HB.out.1 HB.out.2 _).mono ?_
      rintro e9 w9 ⟨rfl, rfl⟩
      go_wp2_with fail
      refine ⟨fun _ => Ext.refl _, ?_⟩
      apply segsK_op
      go_wp2_with fail
      refine (rBucket _ HBF.out.1 HBF.out.2 _).mono ?_
      rintro e9 w9 ⟨rfl, rfl⟩
      go_wp2_with fail
      refine ⟨fun h => (by cases h), ?_⟩
      apply segsK_pure
      · intro W
        simp only [runsT, runsF, rep, pick]
        go_wp2_with fail
        exact ⟨rfl, rfl⟩
      simp only [runsT, runsF, rep, left]
      apply segsK_nil
      have HO9 := Lib.hid (HOwn.out.ext (Ext.drew wr))
      have HE9 := Lib.hid (HE.out.trans (Ext.drew wr))
      generalize wr.drew = w9 at *
      clear HOwn HE
      have hNot : (dn = false → ¬ Lt2 (k, e) r[n]) → Hid (PutI (k, e) r (n + 1) (L ++ [F n]) dn) := fun hx => Lib.hid (by rw [HFn.out]; exact HI.out.not hik hx)
      have HNot := Lib.hid hNot
      clear hNot
      have x0 := (HC.out w9 HE9.out n hik).1
      have x1 := (HC.out w9 HE9.out n hik).2
      cases dn with
      | true =>
        have HI2 := HNot.out (fun h => by cases h)
        go_wp2_with (at_builtin; refine appE rfl _ _ rfl w1.heap.size _ L rfl HO9.out (F n) rfl (by omega) HE9.out rfl ?_)
        intro a1 c1 w2 hO1 hE1
        have HO2 := Lib.hid hO1
        have HE2 := Lib.hid hE1
        clear hO1 hE1
        go_wp2_with fail
        go_roundg (r.length - (n + 1))
        case measure => omega
        case rel => exact ⟨n + 1, _, _, by go_num, by omega, rfl, HI2, HO2.out, HE2.out, Nat.le_refl _⟩
      | false =>
        by_cases g1 : bkt e < bkt (F n).2
        · have d3 : decide (bkt e < bkt (F n).2) = true := decide_eq_true g1
          have HI2 : Hid (PutI (k, e) r (n + 1) (L ++ [(k, e), F n]) true) := Lib.hid (by rw [HFn.out]; exact HI.out.now hik (by rw [← HFn.out]; exact .inl g1))
          clear g1
          go_wp2_with (at_builtin; refine appE rfl _ _ rfl w1.heap.size _ L rfl HO9.out (k, e) rfl (by omega) HE9.out rfl ?_)
          intro a0 c0 w0 hO0 hE0
          have HO0 := Lib.hid hO0
          have HE0 := Lib.hid hE0
          have y0 := (HC.out w0 HE0.out n hik).1
          have y1 := (HC.out w0 HE0.out n hik).2
          clear hO0 hE0 x0 x1
          go_wp2_with (at_builtin; refine appE rfl _ _ rfl w1.heap.size _ (L ++ [(k, e)]) rfl HO0.out (F n) rfl (by simp; omega) HE0.out rfl ?_)
          intro a1 c1 w2 hO1 hE1
          have HO2 := Lib.hid hO1
          have HE2 := Lib.hid hE1
          clear hO1 hE1
          go_wp2_with fail
          go_roundg (r.length - (n + 1))
          case measure => omega
          case rel => exact ⟨n + 1, _, _, by go_num, by omega, rfl, HI2, HO2.out, HE2.out, Nat.le_refl _⟩
        · have d3 : decide (bkt e < bkt (F n).2) = false := decide_eq_false g1
          by_cases g2 : bkt e = bkt (F n).2
          · have d4 : (bkt e == bkt (F n).2) = true := beq_iff_eq.2 g2
            by_cases g3 : k < (F n).1
            · have d5 : decide (k < (F n).1) = true := decide_eq_true g3
              have HI2 : Hid (PutI (k, e) r (n + 1) (L ++ [(k, e), F n]) true) := Lib.hid (by rw [HFn.out]; exact HI.out.now hik (by rw [← HFn.out]; exact .inr ⟨g2, g3⟩))
              clear g1 g2 g3
              go_wp2_with (at_builtin; refine appE rfl _ _ rfl w1.heap.size _ L rfl HO9.out (k, e) rfl (by omega) HE9.out rfl ?_)
              intro a0 c0 w0 hO0 hE0
              have HO0 := Lib.hid hO0
              have HE0 := Lib.hid hE0
              have y0 := (HC.out w0 HE0.out n hik).1
              have y1 := (HC.out w0 HE0.out n hik).2
              clear hO0 hE0 x0 x1
              go_wp2_with (at_builtin; refine appE rfl _ _ rfl w1.heap.size _ (L ++ [(k, e)]) rfl HO0.out (F n) rfl (by simp; omega) HE0.out rfl ?_)
              intro a1 c1 w2 hO1 hE1
              have HO2 := Lib.hid hO1
              have HE2 := Lib.hid hE1
              clear hO1 hE1
              go_wp2_with fail
              go_roundg (r.length - (n + 1))
              case measure => omega
              case rel => exact ⟨n + 1, _, _, by go_num, by omega, rfl, HI2, HO2.out, HE2.out, Nat.le_refl _⟩
            · have d5 : decide (k < (F n).1) = false := decide_eq_false g3
              have HI2 := HNot.out (fun _ h => by rw [← HFn.out] at h; rcases h with h | h; exact g1 h; exact g3 h.2)
              clear g1 g2 g3
              go_wp2_with (at_builtin; refine appE rfl _ _ rfl w1.heap.size _ L rfl HO9.out (F n) rfl (by omega) HE9.out rfl ?_)
              intro a1 c1 w2 hO1 hE1
              have HO2 := Lib.hid hO1
              have HE2 := Lib.hid hE1
              clear hO1 hE1
              go_wp2_with fail
              go_roundg (r.length - (n + 1))
              case measure => omega
              case rel => exact ⟨n + 1, _, _, by go_num, by omega, rfl, HI2, HO2.out, HE2.out, Nat.le_refl _⟩
          · have d4 : (bkt e == bkt (F n).2) = false := beq_eq_false_iff_ne.2 g2
            have HI2 := HNot.out (fun _ h => by rw [← HFn.out] at h; rcases h with h | h; exact g1 h; exact g2 h.1)
            clear g1 g2
            go_wp2_with (at_builtin; refine appE rfl _ _ rfl w1.heap.size _ L rfl HO9.out (F n) rfl (by omega) HE9.out rfl ?_)
            intro a1 c1 w2 hO1 hE1
            have HO2 := Lib.hid hO1
            have HE2 := Lib.hid hE1
            clear hO1 hE1
            go_wp2_with fail
            go_roundg (r.length - (n + 1))
            case measure => omega
            case rel => exact ⟨n + 1, _, _, by go_num, by omega, rfl, HI2, HO2.out, HE2.out, Nat.le_refl _⟩
    · obtain rfl : n = r.length := by omega
      have hdn : decide ((r.length : Int) < (r.length : Int)) = false := decide_eq_false (by omega)
      clear hik
      cases dn with
      | true =>
        go_wp2_with fail
        go_ret
        rw [HP.out, ← HI.out.done]
        exact ⟨_, rfl, HOwn.out.base HE1.out.size, HE1.out.trans HE.out⟩
      | false =>
        go_wp2_with (at_builtin; refine appE rfl _ _ rfl w1.heap.size _ L rfl HOwn.out (k, e) rfl (by omega) HE.out rfl ?_)
        intro a1 c1 w2 hO1 hE1
        have HO1 := Lib.hid hO1
        have HE2 := Lib.hid hE1
        clear hO1 hE1
        go_wp2_with fail
        go_ret
        rw [HP.out, ← HI.out.last]
        exact ⟨_, rfl, HO1.out.base HE1.out.size, HE1.out.trans HE2.out⟩

theorem nb_snoc2 (y x : Int × Int) : ∀ (l : List (Int × Int)) (p : Option Int), nb p (l ++ [y] ++ [x]) = nb p (l ++ [y]) + (if bkt y.2 = bkt x.2 then 0 else 1)
  | [], p => by
    simp only [List.nil_append, List.cons_append, nb, Option.some.injEq]
    omega
  | z :: l, p => by
    have := nb_snoc2 y x l (some (bkt z.2))
    simp only [List.cons_append, nb]
    rw [this]
    omega
theorem nb_step {l : List (Int × Int)} {n : Nat} (h : n + 1 < l.length) : nb none (l.take (n + 1 + 1)) = nb none (l.take (n + 1)) + (if bkt l[n].2 = bkt l[n + 1].2 then 0 else 1) := by
  rw [take_snoc h, take_snoc (show n < l.length by omega)]
  exact nb_snoc2 _ _ _ _
end Go.Proofs.Ytnjohjicmhobdaa.Exi
