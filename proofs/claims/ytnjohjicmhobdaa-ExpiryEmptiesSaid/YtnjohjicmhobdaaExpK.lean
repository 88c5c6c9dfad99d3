/-
  The document's answer for layer 20: how many buckets; the same rows?; a row's first ones.
  Fewer than 1,000,000 hashes; ends as an index takes them; no other condition.
-/
import Derived.Test.YtnjohjicmhobdaaExpJ
namespace Go.Proofs.Ytnjohjicmhobdaa.Exi
open Go.RowKit Go.Shelf Go.Seg Go.Open Go.Lib Rk Ex
attribute [local go_sem] Oper.semAt_some

theorem nb_one {l : List (Int × Int)} (h : 0 < l.length) : nb none (l.take 1) = 1 := by
  match l, h with
  | x :: l, _ => simp [nb]
theorem nb_bound : ∀ (l : List (Int × Int)) (p : Option Int), 0 ≤ nb p l ∧ nb p l ≤ l.length
  | [], _ => by simp [nb]
  | x :: l, p => by
    have := nb_bound l (some (bkt x.2))
    simp only [nb, List.length_cons]
    split <;> omega
set_option maxRecDepth 100000 in
theorem rBuckets (u : Value) (B : Nat) (l : List (Int × Int)) (w : World) (h : RowE w B u l) (hl : l.length ≤ 1000000) (he : Ends l) :
    Calls Try.prog 42 #[u] w fun e w' => e = .returned (.int .i64 (nb none l)) ∧ Ext w w' := by
  obtain ⟨a, cap, b, F, rfl, ha, hF, hc⟩ := h.openR
  have HA := Lib.hid ha
  have HC := Lib.hid hc
  have HF := Lib.hid hF
  have HEn : Hid (∀ i, i < l.length → 1 ≤ (F i).2 ∧ (F i).2 ≤ 1099511627776) := Lib.hid (fun i hi => he _ (by rw [hF i hi]; exact List.getElem_mem _))
  clear ha hc hF h he
  go_enter Try.func42, Try.ntmps42
  go_wp2_with fail
  go_loopg [3, 4] l.length (fun g c i wr => ∃ (n : Nat) (m : Int), i = .int .i64 n ∧ n ≤ l.length ∧ c = .int .i64 m ∧ Hid (nb none (l.take n) = m) ∧ 0 ≤ m ∧ m ≤ n ∧ Ext w wr ∧ l.length - n ≤ g)
  case atStart => exact ⟨0, 0, rfl, Nat.zero_le _, rfl, Lib.hid rfl, by omega, by omega, Ext.refl _, Nat.le_refl _⟩
  case round =>
    obtain ⟨n, m, rfl, hn, rfl, HM, hm0, hm1, hE, hg⟩ := hrel
    have HE := Lib.hid hE
    clear hE
    by_cases hik : n < l.length
    · obtain rfl := HA.out (by omega)
      cases n with
      | zero =>
        have E : Hid (nb none (l.take 1) = m + 1) := Lib.hid (by rw [nb_one hik]; have := HM.out; simp [nb] at this; omega)
        go_wp2_with fail
        refine wp_region_segsK [([8, 2, 4, 4], 0, 0), ([1, 1, 1, 3], 3, 15), ([1, 2], 1, 0), ([2], 0, 0)] (by kernel_rfl) (by kernel_rfl) ?_
        apply segsK_pure
        · intro W
          simp only [runsT, runsF, rep, pick]
          go_wp2_with fail
          exact ⟨rfl, rfl⟩
        simp only [runsT, runsF, rep, left]
        apply segsK_class
        · intro W hW
          simp only [runsT, runsF, rep, pick]
          go_wp2_with fail
          exact ⟨rfl, rfl⟩
        simp only [runsT, runsF, rep, left]
        go_wp2_with fail
        refine ⟨fun _ => Ext.refl _, ?_⟩
        apply segsK_op
        go_wp2_with fail
        refine ⟨fun h => (by cases h), ?_⟩
        apply segsK_pure
        · intro W
          simp only [runsT, runsF, rep, pick]
          go_wp2_with fail
          exact ⟨rfl, rfl⟩
        simp only [runsT, runsF, rep, left]
        apply segsK_nil
        go_wp2_with fail
        go_roundg (l.length - 1)
        case measure => omega
        case rel => exact ⟨1, m + 1, by go_num, by omega, rfl, E, by omega, by omega, HE.out.trans (Ext.drew _), Nat.le_refl _⟩
      | succ n =>
        have HB0 := Lib.hid (HEn.out n (by omega))
        have HB1 := Lib.hid (HEn.out (n + 1) hik)
        by_cases g : bkt (F n).2 = bkt (F (n + 1)).2
        · have d : (bkt (F n).2 != bkt (F (n + 1)).2) = false := by simp [g]
          have E : Hid (nb none (l.take (n + 1 + 1)) = m) := Lib.hid (by rw [nb_step hik, HM.out, ← HF.out n (by omega), ← HF.out (n + 1) hik, if_pos g]; omega)
          clear g
          go_wp2_with fail
          refine wp_region_segsK [([8, 2, 4, 4], 0, 0), ([1, 1, 1, 3], 3, 15), ([1, 2], 1, 0), ([2], 0, 0)] (by kernel_rfl) (by kernel_rfl) ?_
          apply segsK_pure
          · intro W
            simp only [runsT, runsF, rep, pick]
            go_wp2_with fail
            exact ⟨rfl, rfl⟩
          simp only [runsT, runsF, rep, left]
          apply segsK_class
          · intro W hW
            have x0 := (HC.out _ (HE.out.trans ((Ext.drew _).trans hW)) n (by omega)).2
            have x1 := (HC.out _ (HE.out.trans ((Ext.drew _).trans hW)) (n + 1) hik).2
            simp only [runsT, runsF, rep, pick]
            go_wp2_with fail
            exact ⟨rfl, rfl⟩
          simp only [runsT, runsF, rep, left]
          go_wp2_with fail
          refine (rBucket _ HB0.out.1 HB0.out.2 _).mono ?_
          rintro e9 w9 ⟨rfl, rfl⟩
          go_wp2_with fail
          refine ⟨fun _ => Ext.refl _, ?_⟩
          apply segsK_op
          go_wp2_with fail
          refine (rBucket _ HB1.out.1 HB1.out.2 _).mono ?_
          rintro e9 w9 ⟨rfl, rfl⟩
          go_wp2_with fail
          refine ⟨fun h => (by cases h), ?_⟩
          apply segsK_pure
          · intro W
            simp only [runsT, runsF, rep, pick]
            go_wp2_with fail
            exact ⟨rfl, rfl⟩
          simp only [runsT, runsF, rep, left]
          apply segsK_nil
          go_wp2_with fail
          go_roundg (l.length - (n + 1 + 1))
          case measure => omega
          case rel => exact ⟨n + 1 + 1, m, by go_num, by omega, rfl, E, by omega, by omega, HE.out.trans (Ext.drew _), Nat.le_refl _⟩
        · have d : (bkt (F n).2 != bkt (F (n + 1)).2) = true := by simp [g]
          have E : Hid (nb none (l.take (n + 1 + 1)) = m + 1) := Lib.hid (by rw [nb_step hik, HM.out, ← HF.out n (by omega), ← HF.out (n + 1) hik, if_neg g])
          clear g
          go_wp2_with fail
          refine wp_region_segsK [([8, 2, 4, 4], 0, 0), ([1, 1, 1, 3], 3, 15), ([1, 2], 1, 0), ([2], 0, 0)] (by kernel_rfl) (by kernel_rfl) ?_
          apply segsK_pure
          · intro W
            simp only [runsT, runsF, rep, pick]
            go_wp2_with fail
            exact ⟨rfl, rfl⟩
          simp only [runsT, runsF, rep, left]
          apply segsK_class
          · intro W hW
            have x0 := (HC.out _ (HE.out.trans ((Ext.drew _).trans hW)) n (by omega)).2
            have x1 := (HC.out _ (HE.out.trans ((Ext.drew _).trans hW)) (n + 1) hik).2
            simp only [runsT, runsF, rep, pick]
            go_wp2_with fail
            exact ⟨rfl, rfl⟩
          simp only [runsT, runsF, rep, left]
          go_wp2_with fail
          refine (rBucket _ HB0.out.1 HB0.out.2 _).mono ?_
          rintro e9 w9 ⟨rfl, rfl⟩
          go_wp2_with fail
          refine ⟨fun _ => Ext.refl _, ?_⟩
          apply segsK_op
          go_wp2_with fail
          refine (rBucket _ HB1.out.1 HB1.out.2 _).mono ?_
          rintro e9 w9 ⟨rfl, rfl⟩
          go_wp2_with fail
          refine ⟨fun h => (by cases h), ?_⟩
          apply segsK_pure
          · intro W
            simp only [runsT, runsF, rep, pick]
            go_wp2_with fail
            exact ⟨rfl, rfl⟩
          simp only [runsT, runsF, rep, left]
          apply segsK_nil
          go_wp2_with fail
          go_roundg (l.length - (n + 1 + 1))
          case measure => omega
          case rel => exact ⟨n + 1 + 1, m + 1, by go_num, by omega, rfl, E, by omega, by omega, HE.out.trans (Ext.drew _), Nat.le_refl _⟩
    · obtain rfl : n = l.length := by omega
      have hdn : decide ((l.length : Int) < (l.length : Int)) = false := decide_eq_false (by omega)
      have e : nb none l = m := by have := HM.out; rwa [List.take_length] at this
      have E := Lib.hid e
      clear hik e
      go_wp2_with fail
      go_ret
      rw [E.out]
      exact ⟨rfl, HE.out⟩

set_option maxRecDepth 100000 in
theorem rSame (u v : Value) (B B' : Nat) (l k : List (Int × Int)) (w : World) (h : RowE w B u l) (h' : RowE w B' v k) (hl : l.length ≤ 1000000) (hl' : k.length ≤ 1000000) :
    Calls Try.prog 45 #[u, v] w fun e w' => e = .returned (.bool (decide (l = k))) ∧ Ext w w' := by
  obtain ⟨a, cap, b, F, rfl, ha, hF, hc⟩ := h.openR
  obtain ⟨a2, cap2, b2, G, rfl, ha2, hG, hc2⟩ := h'.openR
  have HA := Lib.hid ha
  have HC := Lib.hid hc
  have HF := Lib.hid hF
  have HA2 := Lib.hid ha2
  have HC2 := Lib.hid hc2
  have HG := Lib.hid hG
  clear ha hc hF h ha2 hc2 hG h'
  by_cases hlen : l.length = k.length
  · have d0 : ((l.length : Int) != (k.length : Int)) = false := by simp [hlen]
    have HL := Lib.hid hlen
    clear hlen
    go_enter Try.func45, Try.ntmps45
    go_wp2_with fail
    go_loopg [5] l.length (fun g i wr => ∃ n : Nat, i = .int .i64 n ∧ n ≤ l.length ∧ Hid (∀ j, j < n → F j = G j) ∧ Ext w wr ∧ l.length - n ≤ g)
    case atStart => exact ⟨0, rfl, Nat.zero_le _, Lib.hid (fun j h => absurd h (by omega)), Ext.refl _, Nat.le_refl _⟩
    case round =>
      obtain ⟨n, rfl, hn, HN, hE, hg⟩ := hrel
      have HE := Lib.hid hE
      clear hE
      by_cases hik : n < l.length
      · obtain rfl := HA.out (by omega)
        have hik2 : n < k.length := by rw [← HL.out]; exact hik
        obtain rfl := HA2.out (by omega)
        by_cases g1 : (F n).1 = (G n).1
        · have G1 := Lib.hid g1.symm
          clear g1
          by_cases g2 : (F n).2 = (G n).2
          · have G2 := Lib.hid g2.symm
            clear g2
            have E : Hid (∀ j, j < n + 1 → F j = G j) := Lib.hid (fun j h => by
              by_cases e : j = n
              · subst e; exact Prod.ext G1.out.symm G2.out.symm
              · exact HN.out j (by omega))
            go_wp2_with fail
            refine wp_region_segsK [([3, 1, 3, 2], 0, 0), ([2, 1], 2, 8), ([1], 1, 0)] (by kernel_rfl) (by kernel_rfl) ?_
            apply segsK_pure
            · intro W
              simp only [runsT, runsF, rep, pick]
              go_wp2_with fail
              exact ⟨rfl, rfl⟩
            simp only [runsT, runsF, rep, left]
            apply segsK_look
            · obtain ⟨x0, x1⟩ := HC.out _ (HE.out.trans (Ext.drew _)) n hik
              obtain ⟨y0, y1⟩ := HC2.out _ (HE.out.trans (Ext.drew _)) n hik2
              rw [G1.out] at y0
              rw [G2.out] at y1
              simp only [runsT, runsF, rep, pick]
              go_wp2_with fail
              exact ⟨rfl, rfl⟩
            simp only [runsT, runsF, rep, left]
            apply segsK_op
            go_wp2_with fail
            refine ⟨fun h => (by cases h), ?_⟩
            apply segsK_nil
            go_wp2_with fail
            go_roundg (l.length - (n + 1))
            case measure => omega
            case rel => exact ⟨n + 1, by go_num, by omega, E, HE.out.trans (Ext.drew _), Nat.le_refl _⟩
          · have d : ((F n).2 == (G n).2) = false := beq_eq_false_iff_ne.2 g2
            have E : Hid (decide (l = k) = false) := Lib.hid (decide_eq_false (fun e => g2 (by rw [HF.out n hik, HG.out n hik2]; subst e; rfl)))
            go_wp2_with fail
            refine wp_region_segsK [([3, 1, 3, 2], 0, 0), ([2, 1], 2, 8), ([1], 1, 0)] (by kernel_rfl) (by kernel_rfl) ?_
            apply segsK_pure
            · intro W
              simp only [runsT, runsF, rep, pick]
              go_wp2_with fail
              exact ⟨rfl, rfl⟩
            simp only [runsT, runsF, rep, left]
            apply segsK_look
            · obtain ⟨x0, x1⟩ := HC.out _ (HE.out.trans (Ext.drew _)) n hik
              obtain ⟨y0, y1⟩ := HC2.out _ (HE.out.trans (Ext.drew _)) n hik2
              rw [G1.out] at y0
              simp only [runsT, runsF, rep, pick]
              go_wp2_with fail
              exact ⟨rfl, rfl⟩
            simp only [runsT, runsF, rep, left]
            apply segsK_op
            go_wp2_with fail
            refine ⟨fun h => (by cases h), ?_⟩
            apply segsK_nil
            go_wp2_with fail
            go_ret
            rw [E.out]
            exact ⟨rfl, HE.out.trans (Ext.drew _)⟩
        · have d : ((F n).1 == (G n).1) = false := beq_eq_false_iff_ne.2 g1
          have E : Hid (decide (l = k) = false) := Lib.hid (decide_eq_false (fun e => g1 (by rw [HF.out n hik, HG.out n hik2]; subst e; rfl)))
          go_wp2_with fail
          refine wp_region_segsK [([3, 1, 3, 2], 0, 0), ([2, 1], 2, 8), ([1], 1, 0)] (by kernel_rfl) (by kernel_rfl) ?_
          apply segsK_pure
          · intro W
            simp only [runsT, runsF, rep, pick]
            go_wp2_with fail
            exact ⟨rfl, rfl⟩
          simp only [runsT, runsF, rep, left]
          apply segsK_look
          · obtain ⟨x0, x1⟩ := HC.out _ (HE.out.trans (Ext.drew _)) n hik
            obtain ⟨y0, y1⟩ := HC2.out _ (HE.out.trans (Ext.drew _)) n hik2
            simp only [runsT, runsF, rep, pick]
            go_wp2_with fail
            exact ⟨rfl, rfl⟩
          simp only [runsT, runsF, rep, left]
          apply segsK_op
          go_wp2_with fail
          refine ⟨fun h => (by cases h), ?_⟩
          apply segsK_nil
          go_wp2_with fail
          go_ret
          rw [E.out]
          exact ⟨rfl, HE.out.trans (Ext.drew _)⟩
      · obtain rfl : n = l.length := by omega
        have hdn : decide ((l.length : Int) < (l.length : Int)) = false := decide_eq_false (by omega)
        have E : Hid (decide (l = k) = true) := Lib.hid (decide_eq_true (List.ext_getElem HL.out (fun j h1 h2 => by rw [← HF.out j h1, ← HG.out j h2]; exact HN.out j h1)))
        clear hik
        go_wp2_with fail
        go_ret
        rw [E.out]
        exact ⟨rfl, HE.out⟩
  · have d0 : ((l.length : Int) != (k.length : Int)) = true := by simp; omega
    have E : Hid (decide (l = k) = false) := Lib.hid (decide_eq_false (fun e => hlen (by rw [e])))
    clear hlen
    go_enter Try.func45, Try.ntmps45
    go_wp2_with fail
    go_ret
    rw [E.out]
    exact ⟨rfl, Ext.refl _⟩

/-- The first ones of a row. -/
theorem RowE.cut {w : World} {B : Nat} {a : Option Addr} {n cap : Nat} {l : List (Int × Int)} (h : RowE w B (.slice a n cap) l) {m : Nat} (hm : m ≤ l.length) : RowE w B (.slice a m cap) (l.take m) := by
  obtain ⟨h1, h2⟩ := h
  have hle : (l.take m).length = m := by rw [List.length_take]; omega
  have hc : cellsE (l.take m) = (cellsE l).take (m * 2) := by
    have e : ∀ p q : List (Int × Int), cellsE (p ++ q) = cellsE p ++ cellsE q := fun p q => by simp [cellsE, cells2]
    have el : ∀ p : List (Int × Int), (cellsE p).length = p.length * 2 := fun p => by
      induction p with
      | nil => rfl
      | cons x p ih => simp [cellsE, cells2] at ih ⊢; omega
    have h3 : (cellsE (l.take m)).length = m * 2 := by rw [el, hle]
    rw [show cellsE l = cellsE (l.take m) ++ cellsE (l.drop m) from by rw [← e, List.take_append_drop], List.take_append_of_le_length (Nat.le_of_eq h3.symm), List.take_of_length_le (Nat.le_of_eq h3)]
  unfold RowE
  rw [hle, hc]
  rcases h2 with ⟨hv, hn⟩ | ⟨g, c, cur, hv, hB, hh, g1, g2, g3, g4⟩
  · have hl0 : l.length = 0 := hn
    obtain rfl : m = 0 := by omega
    cases hv
    exact Row.Own.nil _ _
  · cases hv
    have g4' : cur.toList.take (l.length * 2) = cellsE l := g4
    refine ⟨?_, .inr ⟨g, cap, cur, rfl, hB, hh, by omega, g2, g3, ?_⟩⟩
    · rw [← g4', List.length_take, List.length_take]
      have hsz : cur.size = cap * 2 := g3
      have hs : RE.size = 2 := rfl
      have hgl : cur.toList.length = cap * 2 := hsz
      rw [hs, hgl]
      omega
    · show cur.toList.take (m * 2) = _
      rw [← g4', List.take_take]
      congr 1
      omega
theorem RowE.cap {w : World} {B : Nat} {a : Option Addr} {n cap : Nat} {l : List (Int × Int)} (h : RowE w B (.slice a n cap) l) : n ≤ cap := by
  rcases h.2 with ⟨hv, _⟩ | ⟨g, c, cur, hv, _, _, h1, _⟩
  · cases hv; exact Nat.le_refl _
  · cases hv; exact h1
end Go.Proofs.Ytnjohjicmhobdaa.Exi
