/-
  An index of ends: hashes that come and go: the walks of Drop and Put.
  Fewer than 1,000,000 hashes; no other condition.
-/
import Derived.Test.YtnjohjicmhobdaaExpC
namespace Go.Proofs.Ytnjohjicmhobdaa.Exi
open Go.RowKit Go.Seg Go.Open Go.Lib Rk Ex

theorem isNil_of_sz {t : T Int Int} (h : t.sz = 0) : t.toL = [] := by
  have := t.sz_toL
  exact List.eq_nil_of_length_eq_zero (by omega)
theorem Idx.mk' {w : World} {b : Nat} {te : T Int Int} {tp : T Int (Option Addr)} {tt : Int → T Int Int} {y : List (Int × Int)} (h : IndexAt w b te tp tt) (hi : Inv te tp tt) (e : ordL tp.toL tt = y) : Idx w b y := ⟨te, tp, tt, h, hi, e⟩

set_option maxRecDepth 100000 in
set_option maxHeartbeats 4000000 in
theorem Drop_any (b : Nat) (y : List (Int × Int)) (h : Int) (w : World) (hI : Idx w b y) (hl : y.length ≤ 1000000) :
    Calls Try.prog 37 #[.pointer (some ⟨b, 0, none⟩), .int .u64 h] w fun e w' => e = .returned (.bool (decide (endOf y h ≠ 0))) ∧ Idx w' b (rest y h) ∧ Chg (· = b) w w' := by
  have HI0 := Lib.hid hI
  obtain ⟨te, tp, tt, hA, hInv, hy⟩ := hI
  have HY := Lib.hid hy
  have hend := endOf_eq hInv h
  have hlen := ordL_len hInv
  obtain ⟨hs1, hs2⟩ := hInv.small
  rw [hy] at hend hlen
  have HInv := Lib.hid hInv
  have HAt := Lib.hid hA
  clear hy hInv hA
  cases hg : T.get cint h te with
  | none =>
    rw [hg] at hend
    have hr : rest y h = y := rest_none (fun x hx e1 => by
      rw [← HY.out] at hx
      have := (get_iff HInv.out.ue h x.2).2 (by rw [← e1]; exact (mem_ordL HInv.out x).1 hx)
      rw [hg] at this
      cases this)
    have HEnd := Lib.hid hend
    rw [hr, hend]
    clear hg hend hr
    go_enter Try.func37, Try.ntmps37
    go_wp2_with fail
    refine (End_any b y h _ HI0.out hl).mono ?_
    rw [HEnd.out]
    rintro e w' ⟨rfl, hE⟩
    go_wp2_with fail
    go_ret
    exact ⟨rfl, HI0.out.ext hE, Chg.of_below hE⟩
  | some v =>
    rw [hg] at hend
    obtain ⟨hv1, hv2, p, hp, hin⟩ := HInv.out.there hg
    have hvend : endOf y h = v := by rw [hend]; rfl
    have HEnd := Lib.hid hvend
    have hpm := (get_iff HInv.out.up _ _).1 hp
    have hsp := hs2 _ hpm
    have hdec : decide (endOf y h ≠ 0) = true := decide_eq_true (by rw [hvend]; omega)
    rw [hdec]
    have dv : (v == 0) = false := beq_eq_false_iff_ne.2 (by omega)
    have HP := Lib.hid hp
    have HPM := Lib.hid hpm
    have HG := Lib.hid hg
    obtain ⟨t', ht'⟩ : ∃ t', T.drop cint h (tt (bkt v)) = t' := ⟨_, rfl⟩
    have HT' := Lib.hid ht'
    have hszd := T.sz_drop_le cint h (tt (bkt v))
    rw [ht'] at hszd
    have hnn := t'.sz_nn
    clear hg hend hp hpm hdec hvend ht' hin
    go_enter Try.func37, Try.ntmps37
    go_wp2_with fail
    refine (End_any b y h _ HI0.out hl).mono ?_
    rw [HEnd.out]
    rintro e w1 ⟨rfl, hE1⟩
    have HE1 := Lib.hid hE1
    have HA1 := Lib.hid (HAt.out.ext hE1)
    obtain ⟨q1, q2, hB, hq1, hq2, hqt⟩ := HA1.out
    have b0 := hB.cell (i := 0) rfl
    have HQ1 := Lib.hid hq1
    clear hB hq1 hq2 hqt hE1
    go_wp2_with fail
    refine (TrUI.Drop_any h te _ _ HQ1.out (by omega)).mono ?_
    rintro e w2 ⟨q3, rfl, hq3, hE2⟩
    have HA2 := Lib.hid (HA1.out.ext hE2)
    have HQ3 := Lib.hid hq3
    have HC2 := Lib.hid (show Chg (· = b) w w2 from Chg.of_below (HE1.out.trans hE2))
    obtain ⟨q1', q2', hB, _⟩ := HA2.out
    have c0 := hB.cell (i := 0) rfl
    have f0 := hB.frozen 0
    clear hB hq3 hE2 b0
    go_wp2_with fail
    obtain ⟨W3, hW3⟩ : ∃ W, w2.setCell ⟨b, 0, none⟩ (.pointer q3) = W := ⟨_, rfl⟩
    have HA3 : Hid (IndexAt W3 b (T.drop cint h te) tp tt) := Lib.hid (by rw [← hW3]; exact HA2.out.setEnds HQ3.out)
    have HC3 : Hid (Chg (· = b) w W3) := Lib.hid (by rw [← hW3]; exact HC2.out.trans (Chg.set _ _ _ _))
    rw [hW3]
    clear hW3 c0 f0
    refine (Bucket_any v hv1 hv2 _).mono ?_
    rintro e w' ⟨rfl, rfl⟩
    obtain ⟨q4, q5, hB, _, hq5, hqt⟩ := HA3.out
    have b1 := hB.cell (i := 1) rfl
    have HQ5 := Lib.hid hq5
    have HQT := Lib.hid hqt
    clear hB hq5 hqt
    go_wp2_with fail
    refine (TrBk.Get_any (bkt v) tp _ _ HQ5.out (by omega)).mono ?_
    rintro e w4 ⟨he, hE4⟩
    rw [HP.out] at he
    obtain rfl := he
    have HA4 := Lib.hid (HA3.out.ext hE4)
    have HC4 := Lib.hid (show Chg (· = b) w w4 from HC3.out.trans (Chg.of_below hE4))
    have HTP := Lib.hid ((HQT.out _ HPM.out).ext hE4)
    clear hE4 b1
    go_wp2_with fail
    refine (TrUI.Drop_any h (tt (bkt v)) _ _ HTP.out (by omega)).mono ?_
    rw [HT'.out]
    rintro e w5 ⟨q6, rfl, hq6, hE5⟩
    have HA5 := Lib.hid (HA4.out.ext hE5)
    have HC5 := Lib.hid (show Chg (· = b) w w5 from HC4.out.trans (Chg.of_below hE5))
    have HQ6 := Lib.hid hq6
    clear hq6 hE5
    go_wp2_with fail
    refine (TrUI.Len_any t' _ _ HQ6.out).mono ?_
    rintro e w' ⟨rfl, rfl⟩
    obtain ⟨q7, q8, hB, _, hq8, hqt⟩ := HA5.out
    have b1 := hB.cell (i := 1) rfl
    have HQ8 := Lib.hid hq8
    have HQT5 := Lib.hid hqt
    clear hB hq8 hqt
    by_cases hz : t'.sz = 0
    · have dz : (t'.sz == 0) = true := by simp [hz]
      have HInv' := Lib.hid (HInv.out.dropLast HG.out (by rw [HT'.out]; exact isNil_of_sz hz))
      have HRest := Lib.hid (ordL_drop HInv.out h HInv'.out)
      clear hz
      go_wp2_with fail
      refine (TrBk.Drop_any (bkt v) tp _ _ HQ8.out (by omega)).mono ?_
      rintro e w6 ⟨q9, rfl, hq9, hE6⟩
      have HA6 := Lib.hid (HA5.out.ext hE6)
      have HC6 := Lib.hid (show Chg (· = b) w w6 from HC5.out.trans (Chg.of_below hE6))
      have HQ9 := Lib.hid hq9
      have HQT6 := Lib.hid (fun x hx => (HQT5.out x hx).ext hE6)
      obtain ⟨_, _, hB, _⟩ := HA6.out
      have c1 := hB.cell (i := 1) rfl
      have f1 := hB.frozen 1
      clear hB hq9 hE6 b1
      go_wp2_with fail
      go_ret
      exact ⟨rfl, Idx.mk' (HA6.out.setBks HQ9.out (fun x hx => HQT6.out x ((mem_drop HInv.out.up _ _).1 hx).1)) HInv'.out (by rw [HRest.out, HY.out]), HC6.out.trans (Chg.set _ _ _ _)⟩
    · have dz : (t'.sz == 0) = false := beq_eq_false_iff_ne.2 hz
      have HInv' : ∀ q, Hid (Inv (T.drop cint h te) (T.put cint (bkt v) q tp) (upd tt (bkt v) t')) := fun q => Lib.hid (by
        rw [← HT'.out]
        refine HInv.out.dropOne HG.out (fun hn => hz ?_) q
        rw [HT'.out] at hn
        rw [← T.sz_toL, hn]; rfl)
      have HInv' := Lib.hid HInv'
      clear hz
      go_wp2_with fail
      refine (TrBk.Put_any (bkt v) q6 tp _ _ HQ8.out (by omega)).mono ?_
      rintro e w6 ⟨q9, rfl, hq9, hE6⟩
      have HA6 := Lib.hid (HA5.out.ext hE6)
      have HC6 := Lib.hid (show Chg (· = b) w w6 from HC5.out.trans (Chg.of_below hE6))
      have HQ9 := Lib.hid hq9
      have HQT6 : Hid (∀ x ∈ (T.put cint (bkt v) q6 tp).toL, TrUI.isTree w6 x.2 (upd tt (bkt v) t' x.1)) := Lib.hid (fun x hx => by
        rcases (mem_put HInv.out.up _ _ _).1 hx with rfl | ⟨hx, hne⟩
        · rw [upd_self]; exact HQ6.out.ext hE6
        · rw [upd_other _ _ hne]; exact (HQT5.out x hx).ext hE6)
      obtain ⟨_, _, hB, _⟩ := HA6.out
      have c1 := hB.cell (i := 1) rfl
      have f1 := hB.frozen 1
      clear hB hq9 hE6 b1
      go_wp2_with fail
      go_ret
      exact ⟨rfl, Idx.mk' (HA6.out.setBks HQ9.out HQT6.out) (HInv'.out q6).out (by rw [ordL_drop HInv.out h (HInv'.out q6).out, HY.out]), HC6.out.trans (Chg.set _ _ _ _)⟩
theorem Drop_nil (h : Int) (w : World) : Calls Try.prog 37 #[.pointer none, .int .u64 h] w fun e w' => e = .returned (.bool false) ∧ w = w' := by
  go_enter Try.func37, Try.ntmps37
  go_wp2_with fail
  refine (End_nil _ _).mono ?_
  rintro e w' ⟨rfl, rfl⟩
  go_wp2_with fail
  go_ret
  exact ⟨rfl, rfl⟩
end Go.Proofs.Ytnjohjicmhobdaa.Exi
