/-
  An index of ends: a hash gets an end: the walk of Put.
  Fewer than 1,000,000 hashes; no other condition.
-/
import Derived.Test.YtnjohjicmhobdaaExpD
namespace Go.Proofs.Ytnjohjicmhobdaa.Exi
open Go.RowKit Go.Seg Go.Open Go.Lib Rk Ex

theorem none_any (W : World) : Calls Try.prog 83 #[] W fun e w' => ∃ q, e = .returned (.pointer q) ∧ TrUI.isTree w' q .nil ∧ Ext W w' := by
  go_enter Try.func83, Try.ntmps83
  go_wp2_with fail
  refine (TrUI.New_any _).mono ?_
  rintro e w' ⟨q, rfl, hq, hE⟩
  go_wp2_with fail
  go_ret
  exact ⟨q, rfl, hq, hE⟩
theorem rest_len (y : List (Int × Int)) (h : Int) : (rest y h).length ≤ y.length := List.length_filter_le _ _

set_option maxRecDepth 100000 in
set_option maxHeartbeats 4000000 in
theorem Put_any (b : Nat) (y : List (Int × Int)) (h e : Int) (w : World) (hI : Idx w b y) (hl : y.length < 1000000) :
    Calls Try.prog 34 #[.pointer (some ⟨b, 0, none⟩), .int .u64 h, .int .i64 e] w fun v w' => v = .returned (.tuple #[]) ∧ Idx w' b (refPut y h e) ∧ Chg (· = b) w w' := by
  have HI0 := Lib.hid hI
  have hrl := rest_len y h
  clear hI
  by_cases h1 : e < 1
  · have d1 : decide (e < 1) = true := decide_eq_true h1
    have hp : refPut y h e = rest y h := by unfold refPut; rw [if_pos (.inl h1)]
    rw [hp]
    clear hp
    go_enter Try.func34, Try.ntmps34
    go_wp2_with fail
    refine (Drop_any b y h _ HI0.out (by omega)).mono ?_
    rintro v w1 ⟨rfl, hI1, hC1⟩
    go_wp2_with fail
    refine bodyPost_ret (results_none rfl _ _ _) rfl ?_
    exact ⟨rfl, hI1, hC1⟩
  have d1 : decide (e < 1) = false := decide_eq_false h1
  by_cases h2 : 1099511627776 < e
  · have d2 : decide (1099511627776 < e) = true := decide_eq_true h2
    have hp : refPut y h e = rest y h := by unfold refPut; rw [if_pos (.inr h2)]
    rw [hp]
    clear hp
    go_enter Try.func34, Try.ntmps34
    go_wp2_with fail
    refine (Drop_any b y h _ HI0.out (by omega)).mono ?_
    rintro v w1 ⟨rfl, hI1, hC1⟩
    go_wp2_with fail
    refine bodyPost_ret (results_none rfl _ _ _) rfl ?_
    exact ⟨rfl, hI1, hC1⟩
  have d2 : decide (1099511627776 < e) = false := decide_eq_false h2
  have hp : refPut y h e = insX (h, e) (rest y h) := by unfold refPut; rw [if_neg (by omega)]
  rw [hp]
  clear hp
  go_enter Try.func34, Try.ntmps34
  go_wp2_with fail
  refine (Drop_any b y h _ HI0.out (by omega)).mono ?_
  rintro v w1 ⟨rfl, hI1, hC1⟩
  obtain ⟨te, tp, tt, hA, hInv, hy⟩ := hI1
  have HC1 := Lib.hid hC1
  have HY := Lib.hid hy
  have hlen := ordL_len hInv
  rw [hy] at hlen
  obtain ⟨hs1, hs2⟩ := hInv.small
  have hg : T.get cint h te = none := by
    cases hg : T.get cint h te with
    | none => rfl
    | some v =>
      have := (mem_ordL hInv _).2 ((get_iff hInv.ue _ _).1 hg)
      rw [hy, mem_rest] at this
      exact absurd rfl this.2
  have HG := Lib.hid hg
  have HInv := Lib.hid hInv
  have HA1 := Lib.hid hA
  obtain ⟨q1, q2, hB, hq1, _⟩ := hA
  have b0 := hB.cell (i := 0) rfl
  have HQ1 := Lib.hid hq1
  clear hB hq1 hC1 hy hInv hg
  go_wp2_with fail
  refine (TrUI.Put_any h e te _ _ HQ1.out (by omega)).mono ?_
  rintro v w2 ⟨q3, rfl, hq3, hE2⟩
  have HA2 := Lib.hid (HA1.out.ext hE2)
  have HQ3 := Lib.hid hq3
  have HC2 := Lib.hid (show Chg (· = b) w w2 from HC1.out.trans (Chg.of_below hE2))
  obtain ⟨_, _, hB, _⟩ := HA2.out
  have c0 := hB.cell (i := 0) rfl
  have f0 := hB.frozen 0
  clear hB hq3 hE2 b0
  go_wp2_with fail
  obtain ⟨W3, hW3⟩ : ∃ W, w2.setCell ⟨b, 0, none⟩ (.pointer q3) = W := ⟨_, rfl⟩
  have HA3 : Hid (IndexAt W3 b (T.put cint h e te) tp tt) := Lib.hid (by rw [← hW3]; exact HA2.out.setEnds HQ3.out)
  have HC3 : Hid (Chg (· = b) w W3) := Lib.hid (by rw [← hW3]; exact HC2.out.trans (Chg.set _ _ _ _))
  rw [hW3]
  clear hW3 c0 f0
  refine (Bucket_any e (by omega) (by omega) _).mono ?_
  rintro v w' ⟨rfl, rfl⟩
  obtain ⟨q4, q5, hB, _, hq5, hqt⟩ := HA3.out
  have b1 := hB.cell (i := 1) rfl
  have HQ5 := Lib.hid hq5
  have HQT := Lib.hid hqt
  clear hB hq5 hqt
  cases hp : T.get cint (bkt e) tp with
  | none =>
    have HP := Lib.hid hp
    clear hp
    go_wp2_with fail
    refine (TrBk.Get_any (bkt e) tp _ _ HQ5.out (by omega)).mono ?_
    rintro v w4 ⟨he, hE4⟩
    rw [HP.out] at he
    obtain rfl := he
    have HE4 := Lib.hid hE4
    clear hE4 b1
    go_wp2_with fail
    refine (none_any _).mono ?_
    rintro v w5 ⟨q6, rfl, hq6, hE5⟩
    obtain ⟨t0, ht0⟩ : ∃ t0, (T.nil : T Int Int) = t0 := ⟨_, rfl⟩
    have hq6' : TrUI.isTree w5 q6 t0 := by rw [← ht0]; exact hq6
    have hsz0 : t0.sz ≤ 1000000 := by rw [← ht0]; simp [T.sz]
    have HT0 : Hid ((∃ p, T.get cint (bkt e) tp = some p ∧ t0 = tt (bkt e)) ∨ (T.get cint (bkt e) tp = none ∧ t0 = .nil)) := Lib.hid (.inr ⟨HP.out, ht0.symm⟩)
    have HA5 := Lib.hid ((HA3.out.ext HE4.out).ext hE5)
    have HC5 := Lib.hid (show Chg (· = b) w w5 from (HC3.out.trans (Chg.of_below HE4.out)).trans (Chg.of_below hE5))
    have HQ6 := Lib.hid hq6'
    clear hq6 hq6' hE5 ht0
    obtain ⟨q7, q7', hB, _, hq7, hqt⟩ := HA5.out
    have HB5 := Lib.hid hB
    have HQ7 := Lib.hid hq7
    have HQT5 := Lib.hid hqt
    clear hB hq7 hqt
    go_wp2_with fail
    refine wp_region_segsK [([4, 1, 4, 5], 0, 0), ([1, 5], 3, 10), ([1, 3], 1, 0), ([2, 1], 0, 0), ([1], 1, 0)] (by kernel_rfl) (by kernel_rfl) ?_
    apply segsK_pure
    · intro W
      simp only [runsT, runsF, rep, pick]
      go_wp2_with fail
      exact ⟨rfl, rfl⟩
    simp only [runsT, runsF, rep, left]
    apply segsK_class
    · intro W hW
      have x1 := (HB5.out.ext hW.of_drew).cell (i := 1) rfl
      simp only [runsT, runsF, rep, pick]
      go_wp2_with fail
      exact ⟨rfl, rfl⟩
    simp only [runsT, runsF, rep, left]
    go_wp2_with fail
    refine (TrUI.Put_any h e t0 _ _ (HQ6.out.ext (Ext.drew _)) (by omega)).mono ?_
    rintro v w7 ⟨q8, rfl, hq8, hE7⟩
    have HQ8 := Lib.hid hq8
    have HE7 := Lib.hid ((Ext.drew _).trans hE7)
    clear hq8
    go_wp2_with fail
    refine ⟨fun _ => hE7, ?_⟩
    apply segsK_op
    go_wp2_with fail
    refine (TrBk.Put_any (bkt e) q8 tp _ _ (HQ7.out.ext HE7.out) (by omega)).mono ?_
    rintro v w8 ⟨q9, rfl, hq9, hE8⟩
    have HA8 := Lib.hid ((HA5.out.ext HE7.out).ext hE8)
    have HC8 := Lib.hid (show Chg (· = b) w w8 from (HC5.out.trans (Chg.of_below HE7.out)).trans (Chg.of_below hE8))
    have HQ9 := Lib.hid hq9
    have HQT8 : Hid (∀ x ∈ (T.put cint (bkt e) q8 tp).toL, TrUI.isTree w8 x.2 (upd tt (bkt e) (T.put cint h e t0) x.1)) := Lib.hid (fun x hx => by
      rcases (mem_put HInv.out.up _ _ _).1 hx with rfl | ⟨hx, hne⟩
      · rw [upd_self]; exact HQ8.out.ext hE8
      · rw [upd_other _ _ hne]; exact ((HQT5.out x hx).ext HE7.out).ext hE8)
    obtain ⟨_, _, hB8, _⟩ := HA8.out
    have c1 := hB8.cell (i := 1) rfl
    have f1 := hB8.frozen 1
    clear hB8 hq9 hE8
    go_wp2_with fail
    refine ⟨fun h => (by cases h), ?_⟩
    apply segsK_pure
    · intro W
      simp only [runsT, runsF, rep, pick]
      go_wp2_with fail
      exact ⟨rfl, rfl⟩
    simp only [runsT, runsF, rep, left]
    apply segsK_op
    go_wp2_with fail
    refine ⟨fun h => (by cases h), ?_⟩
    apply segsK_nil
    go_wp2_with fail
    go_end0
    have hInv' := HInv.out.put HG.out (by omega : 1 ≤ e) (by omega) t0 HT0.out q8
    exact ⟨rfl, Idx.mk' (HA8.out.setBks HQ9.out HQT8.out) hInv' (by rw [ordL_put HInv.out h e HG.out hInv', HY.out]), HC8.out.trans (Chg.set _ _ _ _)⟩
  | some p =>
    have HP := Lib.hid hp
    have hpm := (get_iff HInv.out.up _ _).1 hp
    have hsz0 : (tt (bkt e)).sz ≤ 1000000 := by have hs3 : (tt (bkt e)).sz ≤ te.sz := hs2 _ hpm; omega
    have HPM := Lib.hid hpm
    clear hp hpm
    go_wp2_with fail
    refine (TrBk.Get_any (bkt e) tp _ _ HQ5.out (by omega)).mono ?_
    rintro v w5 ⟨he, hE4⟩
    rw [HP.out] at he
    obtain rfl := he
    obtain ⟨t0, ht0⟩ : ∃ t0, tt (bkt e) = t0 := ⟨_, rfl⟩
    have hq6' : TrUI.isTree w5 p t0 := by rw [← ht0]; exact (HQT.out _ HPM.out).ext hE4
    rw [ht0] at hsz0
    have HT0 : Hid ((∃ p, T.get cint (bkt e) tp = some p ∧ t0 = tt (bkt e)) ∨ (T.get cint (bkt e) tp = none ∧ t0 = .nil)) := Lib.hid (.inl ⟨p, HP.out, ht0.symm⟩)
    have HA5 := Lib.hid (HA3.out.ext hE4)
    have HC5 := Lib.hid (show Chg (· = b) w w5 from HC3.out.trans (Chg.of_below hE4))
    have HQ6 := Lib.hid hq6'
    clear hq6' hE4 ht0 b1
    obtain ⟨q7, q7', hB, _, hq7, hqt⟩ := HA5.out
    have HB5 := Lib.hid hB
    have HQ7 := Lib.hid hq7
    have HQT5 := Lib.hid hqt
    clear hB hq7 hqt
    go_wp2_with fail
    refine wp_region_segsK [([4, 1, 4, 5], 0, 0), ([1, 5], 3, 10), ([1, 3], 1, 0), ([2, 1], 0, 0), ([1], 1, 0)] (by kernel_rfl) (by kernel_rfl) ?_
    apply segsK_pure
    · intro W
      simp only [runsT, runsF, rep, pick]
      go_wp2_with fail
      exact ⟨rfl, rfl⟩
    simp only [runsT, runsF, rep, left]
    apply segsK_class
    · intro W hW
      have x1 := (HB5.out.ext hW.of_drew).cell (i := 1) rfl
      simp only [runsT, runsF, rep, pick]
      go_wp2_with fail
      exact ⟨rfl, rfl⟩
    simp only [runsT, runsF, rep, left]
    go_wp2_with fail
    refine (TrUI.Put_any h e t0 _ _ (HQ6.out.ext (Ext.drew _)) (by omega)).mono ?_
    rintro v w7 ⟨q8, rfl, hq8, hE7⟩
    have HQ8 := Lib.hid hq8
    have HE7 := Lib.hid ((Ext.drew _).trans hE7)
    clear hq8
    go_wp2_with fail
    refine ⟨fun _ => hE7, ?_⟩
    apply segsK_op
    go_wp2_with fail
    refine (TrBk.Put_any (bkt e) q8 tp _ _ (HQ7.out.ext HE7.out) (by omega)).mono ?_
    rintro v w8 ⟨q9, rfl, hq9, hE8⟩
    have HA8 := Lib.hid ((HA5.out.ext HE7.out).ext hE8)
    have HC8 := Lib.hid (show Chg (· = b) w w8 from (HC5.out.trans (Chg.of_below HE7.out)).trans (Chg.of_below hE8))
    have HQ9 := Lib.hid hq9
    have HQT8 : Hid (∀ x ∈ (T.put cint (bkt e) q8 tp).toL, TrUI.isTree w8 x.2 (upd tt (bkt e) (T.put cint h e t0) x.1)) := Lib.hid (fun x hx => by
      rcases (mem_put HInv.out.up _ _ _).1 hx with rfl | ⟨hx, hne⟩
      · rw [upd_self]; exact HQ8.out.ext hE8
      · rw [upd_other _ _ hne]; exact ((HQT5.out x hx).ext HE7.out).ext hE8)
    obtain ⟨_, _, hB8, _⟩ := HA8.out
    have c1 := hB8.cell (i := 1) rfl
    have f1 := hB8.frozen 1
    clear hB8 hq9 hE8
    go_wp2_with fail
    refine ⟨fun h => (by cases h), ?_⟩
    apply segsK_pure
    · intro W
      simp only [runsT, runsF, rep, pick]
      go_wp2_with fail
      exact ⟨rfl, rfl⟩
    simp only [runsT, runsF, rep, left]
    apply segsK_op
    go_wp2_with fail
    refine ⟨fun h => (by cases h), ?_⟩
    apply segsK_nil
    go_wp2_with fail
    go_end0
    have hInv' := HInv.out.put HG.out (by omega : 1 ≤ e) (by omega) t0 HT0.out q8
    exact ⟨rfl, Idx.mk' (HA8.out.setBks HQ9.out HQT8.out) hInv' (by rw [ordL_put HInv.out h e HG.out hInv', HY.out]), HC8.out.trans (Chg.set _ _ _ _)⟩
theorem Put_nil (h e : Int) (w : World) : Calls Try.prog 34 #[.pointer none, .int .u64 h, .int .i64 e] w fun v w' => v = .returned (.tuple #[]) ∧ w = w' := by
  go_enter Try.func34, Try.ntmps34
  go_wp2_with fail
  refine (Drop_nil _ _).mono ?_
  rintro e w' ⟨rfl, rfl⟩
  go_wp2_with fail
  refine bodyPost_ret (results_none rfl _ _ _) rfl ?_
  exact ⟨rfl, rfl⟩
end Go.Proofs.Ytnjohjicmhobdaa.Exi
