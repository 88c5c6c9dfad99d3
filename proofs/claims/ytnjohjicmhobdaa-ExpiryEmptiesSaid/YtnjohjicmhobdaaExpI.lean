/-
  The document's answer for layer 20: when a bucket is due; what ends when; the rows that are due.
  Fewer than 1,000,000 hashes; ends as an index takes them; no other condition.
-/
import Derived.Test.YtnjohjicmhobdaaExpH
namespace Go.Proofs.Ytnjohjicmhobdaa.Exi
open Go.RowKit Go.Shelf Go.Seg Go.Open Go.Lib Rk Ex
attribute [local go_sem] Oper.semAt_some

theorem rOver (e now : Int) (w : World) : Calls Try.prog 49 #[.int .i64 e, .int .i64 now] w fun v w' => v = .returned (.bool (decide (0 < e ∧ e ≤ now))) ∧ w = w' := by
  by_cases h1 : 0 < e
  · have d : decide (e > 0) = true := decide_eq_true h1
    by_cases h2 : e ≤ now
    · have d2 : decide (now ≥ e) = true := decide_eq_true h2
      have E : decide (0 < e ∧ e ≤ now) = true := decide_eq_true ⟨h1, h2⟩
      rw [E]
      clear h1 h2 E
      go_enter Try.func49, Try.ntmps49
      go_wp2_with fail
      go_ret
      exact ⟨rfl, rfl⟩
    · have d2 : decide (now ≥ e) = false := decide_eq_false h2
      have E : decide (0 < e ∧ e ≤ now) = false := decide_eq_false (fun h => h2 h.2)
      rw [E]
      clear h1 h2 E
      go_enter Try.func49, Try.ntmps49
      go_wp2_with fail
      go_ret
      exact ⟨rfl, rfl⟩
  · have d : decide (e > 0) = false := decide_eq_false h1
    have E : decide (0 < e ∧ e ≤ now) = false := decide_eq_false (fun h => h1 h.1)
    rw [E]
    clear h1 E
    go_enter Try.func49, Try.ntmps49
    go_wp2_with fail
    go_ret
    exact ⟨rfl, rfl⟩
theorem rBucket (e : Int) (h1 : 1 ≤ e) (h2 : e ≤ 1099511627776) (w : World) : Calls Try.prog 90 #[.int .i64 e] w fun v w' => v = .returned (.int .i64 (bkt e)) ∧ w = w' := by
  have d : decide (e < 1) = false := decide_eq_false (by omega)
  have hq : e.tdiv 4 = e / 4 := Int.tdiv_eq_ediv_of_nonneg (by omega)
  go_enter Try.func90, Try.ntmps90
  go_wp2_with fail
  go_ret
  exact ⟨rfl, rfl⟩
/-- An end of a bucket that speaks against its being due. -/
def late (n now : Int) (j : Nat) : Prop := 0 < 4 * n + (j : Int) ∧ 4 * n + (j : Int) ≤ 1099511627776 ∧ ¬ (4 * n + (j : Int) ≤ now)
theorem dueB_late {n now : Int} (h1 : 0 ≤ n) (h2 : n ≤ 274877906944) {j : Nat} (hj : j < 4) (h : late n now j) : dueB now n = false := by
  unfold late at h
  unfold dueB
  split <;> refine decide_eq_false ?_ <;> omega
theorem dueB_none {n now : Int} (h1 : 0 ≤ n) (h2 : n ≤ 274877906944) (h : ∀ j, j < 4 → ¬ late n now j) : dueB now n = true := by
  have h0 := h 0 (by omega)
  have h3 := h 3 (by omega)
  unfold late at h0 h3
  unfold dueB
  split <;> refine decide_eq_true ?_ <;> omega
set_option maxRecDepth 100000 in
theorem rDue19 (n now : Int) (h1 : 0 ≤ n) (h2 : n ≤ 274877906944) (w : World) : Calls Try.prog 94 #[.int .i64 n, .int .i64 now] w fun v w' => v = .returned (.bool (dueB now n)) ∧ w = w' := by
  have d1 : decide (n < 0) = false := decide_eq_false (by omega)
  have d2 : decide (n > 274877906944) = false := decide_eq_false (by omega)
  go_enter Try.func94, Try.ntmps94
  go_wp2_with fail
  go_loopg [5, 6] 4 (fun g i m wr => ∃ k : Nat, i = .int .i64 k ∧ k ≤ 4 ∧ wr = w ∧ Hid (∀ j, j < k → ¬ late n now j) ∧ 4 - k ≤ g)
  case atStart => exact ⟨0, rfl, by omega, rfl, Lib.hid (fun j h => absurd h (by omega)), Nat.le_refl _⟩
  case round =>
    obtain ⟨k, rfl, hk, rfl, HN, hg⟩ := hrel
    by_cases hik : k < 4
    · by_cases g1 : 0 < 4 * n + (k : Int)
      · have f1 : decide (4 * n + (k : Int) > 0) = true := decide_eq_true g1
        by_cases g2 : 4 * n + (k : Int) ≤ 1099511627776
        · have f2 : decide (4 * n + (k : Int) ≤ 1099511627776) = true := decide_eq_true g2
          by_cases g3 : 4 * n + (k : Int) ≤ now
          · have f3 := Lib.hid (show decide (0 < 4 * n + (k : Int) ∧ 4 * n + (k : Int) ≤ now) = true from decide_eq_true ⟨g1, g3⟩)
            have E : Hid (∀ j, j < k + 1 → ¬ late n now j) := Lib.hid (fun j h hl => by
              by_cases e : j = k
              · subst e; exact hl.2.2 g3
              · exact HN.out j (by omega) hl)
            go_wp2_with fail
            refine (rOver _ now _).mono ?_
            rw [f3.out]
            rintro e w' ⟨rfl, rfl⟩
            go_wp2_with fail
            go_roundg (4 - (k + 1))
            case measure => omega
            case rel => exact ⟨k + 1, by go_num, by omega, rfl, E, Nat.le_refl _⟩
          · have f3 := Lib.hid (show decide (0 < 4 * n + (k : Int) ∧ 4 * n + (k : Int) ≤ now) = false from decide_eq_false (fun h => g3 h.2))
            have E := Lib.hid (dueB_late h1 h2 hik ⟨g1, g2, g3⟩)
            go_wp2_with fail
            refine (rOver _ now _).mono ?_
            rw [f3.out]
            rintro e w' ⟨rfl, rfl⟩
            go_wp2_with fail
            go_ret
            rw [E.out]
            exact ⟨rfl, rfl⟩
        · have f2 : decide (4 * n + (k : Int) ≤ 1099511627776) = false := decide_eq_false g2
          have E : Hid (∀ j, j < k + 1 → ¬ late n now j) := Lib.hid (fun j h hl => by
            by_cases e : j = k
            · subst e; exact g2 hl.2.1
            · exact HN.out j (by omega) hl)
          go_wp2_with fail
          go_roundg (4 - (k + 1))
          case measure => omega
          case rel => exact ⟨k + 1, by go_num, by omega, rfl, E, Nat.le_refl _⟩
      · have f1 : decide (4 * n + (k : Int) > 0) = false := decide_eq_false g1
        have E : Hid (∀ j, j < k + 1 → ¬ late n now j) := Lib.hid (fun j h hl => by
          by_cases e : j = k
          · subst e; exact g1 hl.1
          · exact HN.out j (by omega) hl)
        go_wp2_with fail
        go_roundg (4 - (k + 1))
        case measure => omega
        case rel => exact ⟨k + 1, by go_num, by omega, rfl, E, Nat.le_refl _⟩
    · obtain rfl : k = 4 := by omega
      have E := Lib.hid (dueB_none h1 h2 HN.out)
      go_wp2_with fail
      go_ret
      rw [E.out]
      exact ⟨rfl, rfl⟩

theorem endOf_none {l : List (Int × Int)} {k : Int} (h : ∀ x ∈ l, x.1 ≠ k) : endOf l k = 0 := by
  unfold endOf
  rw [List.find?_eq_none.2 (fun x hx => by simpa using h x hx)]
theorem endOf_hit {l : List (Int × Int)} {k : Int} {n : Nat} (hn : n < l.length) (h : ∀ j (hj : j < l.length), j < n → l[j].1 ≠ k) (hk : l[n].1 = k) : endOf l k = l[n].2 := by
  have e : l.find? (fun x => decide (x.1 = k)) = some l[n] := by
    rw [List.find?_eq_some_iff_getElem]
    exact ⟨by simpa using hk, n, hn, rfl, fun j hj => by simpa using h j (by omega) hj⟩
  unfold endOf
  rw [e]
set_option maxRecDepth 100000 in
theorem rEnd (u : Value) (B : Nat) (l : List (Int × Int)) (k : Int) (w : World) (h : RowE w B u l) (hl : l.length ≤ 1000000) :
    Calls Try.prog 44 #[u, .int .u64 k] w fun e w' => e = .returned (.int .i64 (endOf l k)) ∧ w = w' := by
  obtain ⟨a, cap, b, F, rfl, ha, hF, hc⟩ := h.openR
  have HA := Lib.hid ha
  have HC := Lib.hid (hc w (Ext.refl _))
  have HF := Lib.hid hF
  clear ha hc hF h
  go_enter Try.func44, Try.ntmps44
  go_wp2_with fail
  go_loopg [5] l.length (fun g i wr => ∃ n : Nat, i = .int .i64 n ∧ n ≤ l.length ∧ wr = w ∧ Hid (∀ j (hj : j < l.length), j < n → l[j].1 ≠ k) ∧ l.length - n ≤ g)
  case atStart => exact ⟨0, rfl, Nat.zero_le _, rfl, Lib.hid (fun j _ h => absurd h (by omega)), Nat.le_refl _⟩
  case round =>
    obtain ⟨n, rfl, hn, rfl, HN, hg⟩ := hrel
    by_cases hik : n < l.length
    · obtain rfl := HA.out (by omega)
      obtain ⟨x0, x1⟩ := HC.out n hik
      by_cases hk : (F n).1 = k
      · have d : ((F n).1 == k) = true := by simp [hk]
        have E : Hid (endOf l k = (F n).2) := Lib.hid (by rw [HF.out n hik] at hk ⊢; exact endOf_hit hik HN.out hk)
        clear hk
        go_wp2_with fail
        go_ret
        rw [E.out]
        exact ⟨rfl, rfl⟩
      · have d : ((F n).1 == k) = false := by simp [hk]
        have E : Hid (∀ j (hj : j < l.length), j < n + 1 → l[j].1 ≠ k) := Lib.hid (fun j hj h => by
          by_cases e : j = n
          · subst e; rw [← HF.out j hj]; exact hk
          · exact HN.out j hj (by omega))
        clear hk
        go_wp2_with fail
        go_roundg (l.length - (n + 1))
        case measure => omega
        case rel => exact ⟨n + 1, by go_num, by omega, rfl, E, Nat.le_refl _⟩
    · obtain rfl : n = l.length := by omega
      have hdn : decide ((l.length : Int) < (l.length : Int)) = false := decide_eq_false (by omega)
      have E : Hid (endOf l k = 0) := Lib.hid (endOf_none (fun x hx => by
        obtain ⟨j, hj, rfl⟩ := List.mem_iff_getElem.1 hx
        exact HN.out j hj hj))
      clear hik
      go_wp2_with fail
      go_ret
      rw [E.out]
      exact ⟨rfl, rfl⟩

theorem dueL_snoc (now : Int) (l : List (Int × Int)) (x : Int × Int) : dueL now (l ++ [x]) = if dueB now (bkt x.2) = true then dueL now l ++ [x] else dueL now l := by
  unfold dueL
  rw [List.filter_append]
  by_cases h : dueB now (bkt x.2) = true <;> simp [h]
/-- The ends of a row are such as an index takes. -/
def Ends (l : List (Int × Int)) : Prop := ∀ x ∈ l, 1 ≤ x.2 ∧ x.2 ≤ 1099511627776
theorem bkt_le {e : Int} (h1 : 1 ≤ e) (h2 : e ≤ 1099511627776) : 0 ≤ bkt e ∧ bkt e ≤ 274877906944 := by unfold bkt; omega
set_option maxRecDepth 100000 in
theorem rDue (u : Value) (B : Nat) (l : List (Int × Int)) (now : Int) (w : World) (h : RowE w B u l) (hl : l.length ≤ 1000000) (he : Ends l) :
    Calls Try.prog 39 #[u, .int .i64 now] w fun e w' => ∃ u', e = .returned u' ∧ RowE w' w.heap.size u' (dueL now l) ∧ Ext w w' := by
  obtain ⟨a, cap, b, F, rfl, ha, hF, hc⟩ := h.openR
  have HA := Lib.hid ha
  have HC := Lib.hid hc
  have HF := Lib.hid hF
  have HEn := Lib.hid he
  clear ha hc hF h he
  go_enter Try.func39, Try.ntmps39
  go_wp2_with fail
  go_loopg [5, 6] l.length (fun g v i wr => ∃ (n : Nat) (L : List (Int × Int)), i = .int .i64 n ∧ n ≤ l.length ∧ Hid (dueL now (l.take n) = L) ∧ RowE wr w.heap.size v L ∧ Ext w wr ∧ l.length - n ≤ g)
  case atStart => exact ⟨0, [], rfl, Nat.zero_le _, Lib.hid rfl, RowE.nil _ _, Ext.refl _, Nat.le_refl _⟩
  case round =>
    obtain ⟨n, L, rfl, hn, HL, hown, hE, hg⟩ := hrel
    have HOwn := Lib.hid hown
    have HE := Lib.hid hE
    have hLn : L.length ≤ n := by
      rw [← HL.out]
      have := List.length_filter_le (fun x : Int × Int => dueB now (bkt x.2)) (l.take n)
      rw [List.length_take] at this
      unfold dueL
      omega
    obtain ⟨av, cv, rfl⟩ := hown.val
    clear hown hE
    by_cases hik : n < l.length
    · obtain rfl := HA.out (by omega)
      obtain ⟨x0, x1⟩ := HC.out _ HE.out n hik
      have he := HEn.out (F n) (by rw [HF.out n hik]; exact List.getElem_mem _)
      have HB := Lib.hid (And.intro he (bkt_le he.1 he.2))
      clear he
      by_cases hk : dueB now (bkt (F n).2) = true
      · have E : Hid (dueL now (l.take (n + 1)) = L ++ [F n]) := Lib.hid (by rw [take_snoc hik, dueL_snoc, ← HF.out n hik, if_pos hk, HL.out])
        have HK := Lib.hid hk
        clear hk
        go_wp2_with fail
        refine (rBucket _ HB.out.1.1 HB.out.1.2 _).mono ?_
        rintro e w' ⟨rfl, rfl⟩
        go_wp2_with fail
        refine (rDue19 _ now HB.out.2.1 HB.out.2.2 _).mono ?_
        rw [HK.out]
        rintro e w' ⟨rfl, rfl⟩
        go_wp2_with (at_builtin; refine appE rfl _ _ rfl w.heap.size _ L rfl HOwn.out (F n) rfl (by omega) HE.out rfl ?_)
        intro a1 c1 w1 hO1 hE1
        have HO1 := Lib.hid hO1
        have HE1 := Lib.hid hE1
        clear hO1 hE1
        go_wp2_with fail
        go_roundg (l.length - (n + 1))
        case measure => omega
        case rel => exact ⟨n + 1, L ++ [F n], by go_num, by omega, E, HO1.out, HE1.out, Nat.le_refl _⟩
      · have E : Hid (dueL now (l.take (n + 1)) = L) := Lib.hid (by rw [take_snoc hik, dueL_snoc, ← HF.out n hik, if_neg hk, HL.out])
        have HK := Lib.hid (show dueB now (bkt (F n).2) = false by simpa using hk)
        clear hk
        go_wp2_with fail
        refine (rBucket _ HB.out.1.1 HB.out.1.2 _).mono ?_
        rintro e w' ⟨rfl, rfl⟩
        go_wp2_with fail
        refine (rDue19 _ now HB.out.2.1 HB.out.2.2 _).mono ?_
        rw [HK.out]
        rintro e w' ⟨rfl, rfl⟩
        go_wp2_with fail
        go_roundg (l.length - (n + 1))
        case measure => omega
        case rel => exact ⟨n + 1, L, by go_num, by omega, E, HOwn.out, HE.out, Nat.le_refl _⟩
    · obtain rfl : n = l.length := by omega
      have hdn : decide ((l.length : Int) < (l.length : Int)) = false := decide_eq_false (by omega)
      have e : dueL now l = L := by have := HL.out; rwa [List.take_length] at this
      have E := Lib.hid e
      clear hik e
      go_wp2_with fail
      go_ret
      rw [E.out]
      exact ⟨_, rfl, HOwn.out, HE.out⟩
end Go.Proofs.Ytnjohjicmhobdaa.Exi
