/-
  FateStays: the walk of the law, out of the contracts of package fate.
  At most 60 notes (the law's own guard); no other condition.
-/
import Derived.Test.YtlnmnnoibimknaaFate
namespace Go.Proofs.Ytlnmnnoibimknaa.Fa
open Go.RowKit Go.Seg Go.Open Rk TrII

theorem ofT_put (t : T Int Int) (hu : Up cint t.toL) (id k : Int) : ofT (T.put cint id k t) id = k := by
  have hup : Up cint (T.put cint id k t).toL := by rw [toL_put cint_lawful id k t hu]; exact up_ins cint_lawful id k _ hu
  unfold ofT
  rw [get_toL cint_lawful id _ hup, toL_put cint_lawful id k t hu, look_ins_self cint_lawful]
  rfl

/-- What holds of a book at any time: its keys rise, its fates are known, and the counters tell how many there are. -/
structure Inv (t : T Int Int) (c : C6) : Prop where
  up : Up cint t.toL
  vals : ∀ x ∈ t.toL, 1 ≤ x.2 ∧ x.2 ≤ 5
  sum : c.c1 + c.c2 + c.c3 + c.c4 + c.c5 = t.sz
  c0 : c.c0 = 0
  nn : 0 ≤ c.c1 ∧ 0 ≤ c.c2 ∧ 0 ≤ c.c3 ∧ 0 ≤ c.c4 ∧ 0 ≤ c.c5

theorem Inv.nil : Inv .nil ⟨0, 0, 0, 0, 0, 0⟩ := ⟨List.Pairwise.nil, fun _ h => by simp [T.toL] at h, rfl, rfl, by decide⟩

theorem Inv.small {t : T Int Int} {c : C6} (h : Inv t c) (hs : t.sz < 1000000) : c.small := by
  have h1 := h.sum
  have h2 := h.c0
  have h3 := h.nn
  unfold C6.small
  omega

theorem known_le {k : Int} (h : known k = true) : 1 ≤ k ∧ k ≤ 5 := by
  unfold known at h
  simp only [Bool.and_eq_true, decide_eq_true_eq] at h
  exact h

theorem Inv.absent {t : T Int Int} {c : C6} (h : Inv t c) {id : Int} (ho : ofT t id = 0) : Rk.look cint id t.toL = none := by
  cases hl : Rk.look cint id t.toL with
  | none => rfl
  | some v =>
    obtain ⟨k', hk⟩ := look_mem id v _ hl
    have := h.vals _ hk
    unfold ofT at ho
    rw [get_toL cint_lawful id t h.up, hl] at ho
    simp at ho
    simp at this
    omega

theorem Inv.put {t : T Int Int} {c : C6} (h : Inv t c) {id k : Int} (hk : known k = true) (ho : ofT t id = 0) : Inv (T.put cint id k t) (c.bump k) ∧ (T.put cint id k t).sz = t.sz + 1 := by
  have hl := toL_put cint_lawful id k t h.up
  have ha := h.absent ho
  have hsz : (T.put cint id k t).sz = t.sz + 1 := by
    rw [← T.sz_toL, ← T.sz_toL, hl, length_ins id k _ ha]; omega
  obtain ⟨k1, k5⟩ := known_le hk
  have hs := h.sum
  have hn := h.nn
  have h0 := h.c0
  refine ⟨⟨by rw [hl]; exact up_ins cint_lawful id k _ h.up, ?_, ?_, ?_, ?_⟩, hsz⟩
  · intro x hx
    rw [hl] at hx
    rcases mem_ins cint_lawful id k _ x hx with rfl | hx
    · exact ⟨k1, k5⟩
    · exact h.vals x hx
  all_goals
    have hk' : k = 1 ∨ k = 2 ∨ k = 3 ∨ k = 4 ∨ k = 5 := by omega
    rcases hk' with rfl | rfl | rfl | rfl | rfl
    all_goals
      simp [C6.bump]
      omega

/-- The counters added up. -/
def upTo (c : C6) : Nat → Int
  | 0 => 0
  | n + 1 => upTo c n + cntC c n

theorem upTo_six (c : C6) : upTo c 6 = c.c1 + c.c2 + c.c3 + c.c4 + c.c5 := by
  have h0 : known 0 = false := by decide
  have h1 : known 1 = true := by decide
  have h2 : known 2 = true := by decide
  have h3 : known 3 = true := by decide
  have h4 : known 4 = true := by decide
  have h5 : known 5 = true := by decide
  simp [upTo, cntC, C6.get, h0, h1, h2, h3, h4, h5]

theorem cntC_le {c : C6} (h : c.small) (k : Int) : 0 ≤ cntC c k ∧ cntC c k < 1000000 := by
  unfold C6.small at h
  unfold cntC C6.get
  repeat' split
  all_goals omega

theorem upTo_le {c : C6} (h : c.small) : ∀ n : Nat, 0 ≤ upTo c n ∧ upTo c n ≤ n * 1000000
  | 0 => by simp [upTo]
  | n + 1 => by
    have := upTo_le h n
    have := cntC_le h n
    simp only [upTo]
    omega

theorem awake_any (w : World) : Calls Try.prog 17 #[] w fun e w' => e = .returned (.bool true) ∧ Ext w w' := by
  have k4 : known 4 = true := by decide
  have o1 : ofT .nil 4 = 0 := rfl
  have o2 : ofT (T.put cint 4 4 .nil) 4 = 4 := by decide
  have s1 : (T.nil : T Int Int).sz < 1000000 := by simp [T.sz]
  have s2 : (T.put cint 4 4 (T.nil : T Int Int)).sz < 1000000 := by decide
  have sm : (⟨0, 0, 0, 0, 0, 0⟩ : C6).small := by unfold C6.small; decide
  have nz : ofT (T.put cint 4 4 .nil) 4 ≠ 0 := by decide
  have K4 := Lib.hid k4
  have O1 := Lib.hid o1
  have S1 := Lib.hid s1
  have S2 := Lib.hid s2
  have SM := Lib.hid sm
  have NZ := Lib.hid nz
  clear k4 o1 s1 s2 sm nz
  generalize hT : T.put cint 4 4 (T.nil : T Int Int) = T1 at *
  have HT := Lib.hid hT
  clear hT
  go_enter Try.func17, Try.ntmps17
  go_wp2_with fail
  refine (New_book _).mono ?_
  rintro e w1 ⟨b, rfl, hb, hB, hE⟩
  go_wp2_with fail
  refine (Note_yes _ _ _ _ _ _ hB S1.out SM.out K4.out O1.out).mono ?_
  rintro e w2 ⟨rfl, hB2, hC⟩
  rw [HT.out] at hB2
  go_wp2_with fail
  refine (Note_no _ _ _ _ _ _ hB2 S2.out (.inr NZ.out)).mono ?_
  rintro e w3 ⟨rfl, hE3⟩
  go_wp2_with fail
  refine (Of_any _ _ _ _ _ (hB2.ext hE3) S2.out).mono ?_
  rintro e w4 ⟨rfl, hE4⟩
  go_wp2_with fail
  go_ret
  have h1 : Below w.heap.size w w2 := below_chg hE hC (fun i hi => by rw [hi]; exact hb)
  exact ⟨rfl, below_ext (below_ext h1 hE3) hE4⟩

set_option maxRecDepth 100000 in
set_option maxHeartbeats 2000000 in
theorem stays_walk (a : Option Addr) (len cap : Nat) (b off : Nat) (F : Nat → Int × Int) (w : World) (ha : 0 < len → a = some ⟨b, off, none⟩) (hl : len ≤ maxLen)
    (hF : ∀ W, Below w.heap.size w W → ∀ i, i < len → W.cell? ⟨b, off + i * 2, none⟩ = some (.int .i64 (F i).1) ∧ W.cell? ⟨b, off + i * 2 + 1, none⟩ = some (.int .i64 (F i).2)) :
    Calls Try.prog 4 #[.slice a len cap] w fun e w' => e = .returned (.bool true) ∧ Below w.heap.size w w' := by
  have HA := Lib.hid ha
  have HF := Lib.hid hF
  clear ha hF
  unfold maxLen at hl
  by_cases h60 : (60 : Int) < (len : Int)
  · go_enter Try.func4, Try.ntmps4
    go_wp2_with fail
    refine (awake_any _).mono ?_
    rintro e w1 ⟨rfl, hE⟩
    go_wp2_with fail
    go_ret
    exact ⟨rfl, hE⟩
  · have h60' : len ≤ 60 := by omega
    have hd60 : decide ((60 : Int) < (len : Int)) = false := decide_eq_false h60
    clear h60
    go_enter Try.func4, Try.ntmps4
    go_wp2_with fail
    refine (New_book _).mono ?_
    rintro e w1 ⟨bk, rfl, hbk, hB, hE⟩
    have HB := Lib.hid hB
    have HE := Lib.hid hE
    clear hB hE
    go_wp2_with fail
    go_loopg [4] len (fun g i wr => ∃ (k : Nat) (t : T Int Int) (c : C6), i = .int .i64 k ∧ k ≤ len ∧ Book wr bk t c ∧ Inv t c ∧ t.sz ≤ k ∧ Below w.heap.size w wr ∧ len - k ≤ g)
    case atStart => exact ⟨0, .nil, _, rfl, Nat.zero_le _, HB.out, Inv.nil, by simp [T.sz], HE.out, Nat.le_refl _⟩
    case round =>
      obtain ⟨k, t, c, rfl, hk, hBk, hI, hsz, hBel, hg⟩ := hrel
      have HB := Lib.hid hBk
      have HI := Lib.hid hI
      have HE := Lib.hid hBel
      have hz := t.sz_nn
      clear hBk hI hBel
      by_cases hik : k < len
      · have HK := Lib.hid (fun W (h : Below w.heap.size w W) => HF.out W h k hik)
        obtain rfl := HA.out (by omega)
        obtain ⟨x0, x1⟩ := HK.out _ HE.out
        have hs := hsz
        by_cases hyes : known (F k).2 = true ∧ ofT t (F k).1 = 0
        · obtain ⟨hkn, ho⟩ := hyes
          obtain ⟨hI', hsz'⟩ := HI.out.put hkn ho
          have hp := ofT_put t HI.out.up (F k).1 (F k).2
          have HS := Lib.hid (HI.out.small (by omega))
          have HKN := Lib.hid hkn
          have HO := Lib.hid ho
          have HI' := Lib.hid hI'
          have hb0 : (ofT t (F k).1 == 0) = true := beq_iff_eq.2 ho
          have HP := Lib.hid hp
          have HSZ := Lib.hid hsz'
          clear hI' ho hp hsz'
          go_wp2_with fail
          refine (Of_any _ _ _ _ _ HB.out (by omega)).mono ?_
          rintro e w2 ⟨rfl, hE2⟩
          have HB2 := Lib.hid (HB.out.ext hE2)
          have HE2 := Lib.hid (below_ext HE.out hE2)
          clear hE2
          go_wp2_with fail
          refine (Len_any' _ _ _ _ HB2.out).mono ?_
          rintro e w' ⟨rfl, rfl⟩
          clear x0 x1
          go_wp2_with fail
          refine wp_region_segs 11 [([11, 2], true), ([0, 1], true)] (by kernel_rfl) (by kernel_rfl) ?_
          apply segs_cons
          · intro W hW
            obtain ⟨x0, x1⟩ := HK.out _ (below_ext HE2.out hW.of_drew)
            simp only [runsT, runsF, rep, pick]
            go_wp2_with fail
            exact ⟨rfl, rfl⟩
          simp only [runsT, runsF, rep, left]
          go_wp2_with fail
          refine (Note_yes _ _ _ _ _ _ (HB2.out.ext (Ext.drew _)) (by omega) HS.out HKN.out HO.out).mono ?_
          rintro e w3 ⟨rfl, hB3, hC3⟩
          have HB3 := Lib.hid hB3
          have HE3 := Lib.hid (below_chg (below_ext HE2.out (Ext.drew _)) hC3 (fun i hi => by rw [hi]; exact hbk))
          clear hB3 hC3
          go_wp2_with fail
          refine ⟨fun h => (by cases h), ?_⟩
          apply segs_cons
          · intro W hW
            exact ⟨rfl, rfl⟩
          simp only [runsT, runsF, rep, left]
          go_wp2_with fail
          refine ⟨fun h => (by cases h), ?_⟩
          apply segs_nil
          go_wp2_with fail
          refine wp_region_segs 51 [([9, 42], false), ([11, 1, 5, 24], false), ([13, 1, 1, 9], false), ([3, 1, 1, 4], false), ([4], false)] (by kernel_rfl) (by kernel_rfl) ?_
          apply segs_cons
          · intro W hW
            obtain ⟨x0, x1⟩ := HK.out _ (below_ext HE3.out hW.of_drew)
            simp only [runsT, runsF, rep, pick]
            go_wp2_with fail
            exact ⟨rfl, rfl⟩
          simp only [runsT, runsF, rep, left]
          go_wp2_with fail
          refine (known_any _ _).mono ?_
          rintro e w' ⟨rfl, rfl⟩
          go_wp2_with fail
          refine ⟨fun _ => Ext.refl _, ?_⟩
          apply segs_cons
          · intro W hW
            obtain ⟨x0, x1⟩ := HK.out _ (below_ext HE3.out hW.of_drew)
            simp only [runsT, runsF, rep, pick]
            go_wp2_with fail
            exact ⟨rfl, rfl⟩
          simp only [runsT, runsF, rep, left]
          go_wp2_with fail
          refine (Of_any _ _ _ _ _ (HB3.out.ext (Ext.drew _)) (by have := HSZ.out; omega)).mono ?_
          rintro e w4 ⟨rfl, hE4⟩
          rw [HP.out]
          have HB4 := Lib.hid ((HB3.out.ext (Ext.drew _)).ext hE4)
          have HE4 := Lib.hid (below_ext (below_ext HE3.out (Ext.drew _)) hE4)
          go_wp2_with fail
          refine ⟨fun _ => hE4, ?_⟩
          apply segs_cons
          · intro W hW
            obtain ⟨x0, x1⟩ := HK.out _ (below_ext HE4.out hW)
            simp only [runsT, runsF, rep, pick]
            go_wp2_with fail
            exact ⟨rfl, rfl⟩
          simp only [runsT, runsF, rep, left]
          go_wp2_with fail
          refine ⟨fun _ => Ext.refl _, ?_⟩
          apply segs_cons
          · intro W hW
            simp only [runsT, runsF, rep, pick]
            go_wp2_with fail
            exact ⟨rfl, rfl⟩
          simp only [runsT, runsF, rep, left]
          go_wp2_with fail
          refine ⟨fun _ => Ext.refl _, ?_⟩
          apply segs_cons
          · intro W hW
            simp only [runsT, runsF, rep, pick]
            go_wp2_with fail
            exact ⟨rfl, rfl⟩
          simp only [runsT, runsF, rep, left]
          go_wp2_with fail
          go_roundg (len - (k + 1))
          case measure => omega
          case rel => exact ⟨k + 1, _, _, by go_num, by omega, HB4.out, HI'.out, by rw [HSZ.out]; omega, HE4.out, Nat.le_refl _⟩
        · have hno : known (F k).2 = false ∨ ofT t (F k).1 ≠ 0 := by
            by_cases h1 : known (F k).2 = true
            · exact .inr (fun h2 => hyes ⟨h1, h2⟩)
            · exact .inl (by simpa using h1)
          have HN := Lib.hid hno
          have HS := Lib.hid (HI.out.small (by omega))
          have n1 : (ofT t (F k).1 != ofT t (F k).1) = false := by simp
          have n2 : (t.sz != t.sz) = false := by simp
          have HNe := Lib.hid (And.intro n1 n2)
          clear hyes hno n1 n2
          go_wp2_with fail
          refine (Of_any _ _ _ _ _ HB.out (by omega)).mono ?_
          rintro e w2 ⟨rfl, hE2⟩
          have HB2 := Lib.hid (HB.out.ext hE2)
          have HE2 := Lib.hid (below_ext HE.out hE2)
          clear hE2
          go_wp2_with fail
          refine (Len_any' _ _ _ _ HB2.out).mono ?_
          rintro e w' ⟨rfl, rfl⟩
          clear x0 x1
          go_wp2_with fail
          refine wp_region_segs 13 [([11, 2], false), ([1], false)] (by kernel_rfl) (by kernel_rfl) ?_
          apply segs_cons
          · intro W hW
            obtain ⟨x0, x1⟩ := HK.out _ (below_ext HE2.out hW.of_drew)
            simp only [runsT, runsF, rep, pick]
            go_wp2_with fail
            exact ⟨rfl, rfl⟩
          simp only [runsT, runsF, rep, left]
          go_wp2_with fail
          refine (Note_no _ _ _ _ _ _ (HB2.out.ext (Ext.drew _)) (by omega) HN.out).mono ?_
          rintro e w3 ⟨rfl, hE3⟩
          have HB3 := Lib.hid ((HB2.out.ext (Ext.drew _)).ext hE3)
          have HE3 := Lib.hid (below_ext (below_ext HE2.out (Ext.drew _)) hE3)
          go_wp2_with fail
          refine ⟨fun _ => hE3, ?_⟩
          apply segs_cons
          · intro W hW
            simp only [runsT, runsF, rep, pick]
            go_wp2_with fail
            exact ⟨rfl, rfl⟩
          simp only [runsT, runsF, rep, left]
          go_wp2_with fail
          by_cases ho : ofT t (F k).1 = 0
          · have hkn : known (F k).2 = false := HN.out.resolve_right (by rw [ho]; simp)
            have HKN := Lib.hid hkn
            have hb0 : (ofT t (F k).1 == 0) = true := beq_iff_eq.2 ho
            clear ho
            obtain ⟨n1, n2⟩ := HNe.out
            refine wp_region_segs 51 [([9, 42], false), ([11, 1, 5, 24], false), ([13, 1, 1, 9], false), ([3, 1, 1, 4], false), ([4], false)] (by kernel_rfl) (by kernel_rfl) ?_
            apply segs_cons
            · intro W hW
              obtain ⟨x0, x1⟩ := HK.out _ (below_ext HE3.out hW.of_drew)
              simp only [runsT, runsF, rep, pick]
              go_wp2_with fail
              exact ⟨rfl, rfl⟩
            simp only [runsT, runsF, rep, left]
            go_wp2_with fail
            refine (known_any _ _).mono ?_
            rintro e w' ⟨rfl, rfl⟩
            go_wp2_with fail
            refine ⟨fun _ => Ext.refl _, ?_⟩
            apply segs_cons
            · intro W hW
              obtain ⟨x0, x1⟩ := HK.out _ (below_ext HE3.out hW.of_drew)
              simp only [runsT, runsF, rep, pick]
              go_wp2_with fail
              exact ⟨rfl, rfl⟩
            simp only [runsT, runsF, rep, left]
            go_wp2_with fail
            refine ⟨fun _ => Ext.refl _, ?_⟩
            apply segs_cons
            · intro W hW
              obtain ⟨x0, x1⟩ := HK.out _ (below_ext HE3.out hW.of_drew)
              simp only [runsT, runsF, rep, pick]
              go_wp2_with fail
              exact ⟨rfl, rfl⟩
            simp only [runsT, runsF, rep, left]
            go_wp2_with fail
            refine (Of_any _ _ _ _ _ (HB3.out.ext (Ext.drew _)) (by omega)).mono ?_
            rintro e w4 ⟨rfl, hE4⟩
            have HB4 := Lib.hid ((HB3.out.ext (Ext.drew _)).ext hE4)
            have HE4 := Lib.hid (below_ext (below_ext HE3.out (Ext.drew _)) hE4)
            go_wp2_with fail
            refine ⟨fun _ => hE4, ?_⟩
            apply segs_cons
            · intro W hW
              simp only [runsT, runsF, rep, pick]
              go_wp2_with fail
              exact ⟨rfl, rfl⟩
            simp only [runsT, runsF, rep, left]
            go_wp2_with fail
            refine (Len_any' _ _ _ _ HB4.out).mono ?_
            rintro e w' ⟨rfl, rfl⟩
            go_wp2_with fail
            refine ⟨fun _ => Ext.refl _, ?_⟩
            apply segs_cons
            · intro W hW
              simp only [runsT, runsF, rep, pick]
              go_wp2_with fail
              exact ⟨rfl, rfl⟩
            simp only [runsT, runsF, rep, left]
            go_wp2_with fail
            go_roundg (len - (k + 1))
            case measure => omega
            case rel => exact ⟨k + 1, _, _, by go_num, by omega, HB4.out, HI.out, by omega, HE4.out, Nat.le_refl _⟩
          · have hb0 : (ofT t (F k).1 == 0) = false := beq_eq_false_iff_ne.2 ho
            clear ho
            obtain ⟨n1, n2⟩ := HNe.out
            refine wp_region_segs 51 [([9, 42], false), ([11, 1, 5, 24], false), ([13, 1, 1, 9], false), ([3, 1, 1, 4], false), ([4], false)] (by kernel_rfl) (by kernel_rfl) ?_
            apply segs_cons
            · intro W hW
              obtain ⟨x0, x1⟩ := HK.out _ (below_ext HE3.out hW.of_drew)
              simp only [runsT, runsF, rep, pick]
              go_wp2_with fail
              exact ⟨rfl, rfl⟩
            simp only [runsT, runsF, rep, left]
            go_wp2_with fail
            refine ⟨fun _ => Ext.refl _, ?_⟩
            apply segs_cons
            · intro W hW
              obtain ⟨x0, x1⟩ := HK.out _ (below_ext HE3.out hW.of_drew)
              simp only [runsT, runsF, rep, pick]
              go_wp2_with fail
              exact ⟨rfl, rfl⟩
            simp only [runsT, runsF, rep, left]
            go_wp2_with fail
            refine ⟨fun _ => Ext.refl _, ?_⟩
            apply segs_cons
            · intro W hW
              obtain ⟨x0, x1⟩ := HK.out _ (below_ext HE3.out hW.of_drew)
              simp only [runsT, runsF, rep, pick]
              go_wp2_with fail
              exact ⟨rfl, rfl⟩
            simp only [runsT, runsF, rep, left]
            go_wp2_with fail
            refine (Of_any _ _ _ _ _ (HB3.out.ext (Ext.drew _)) (by omega)).mono ?_
            rintro e w4 ⟨rfl, hE4⟩
            have HB4 := Lib.hid ((HB3.out.ext (Ext.drew _)).ext hE4)
            have HE4 := Lib.hid (below_ext (below_ext HE3.out (Ext.drew _)) hE4)
            go_wp2_with fail
            refine ⟨fun _ => hE4, ?_⟩
            apply segs_cons
            · intro W hW
              simp only [runsT, runsF, rep, pick]
              go_wp2_with fail
              exact ⟨rfl, rfl⟩
            simp only [runsT, runsF, rep, left]
            go_wp2_with fail
            refine (Len_any' _ _ _ _ HB4.out).mono ?_
            rintro e w' ⟨rfl, rfl⟩
            go_wp2_with fail
            refine ⟨fun _ => Ext.refl _, ?_⟩
            apply segs_cons
            · intro W hW
              simp only [runsT, runsF, rep, pick]
              go_wp2_with fail
              exact ⟨rfl, rfl⟩
            simp only [runsT, runsF, rep, left]
            go_wp2_with fail
            go_roundg (len - (k + 1))
            case measure => omega
            case rel => exact ⟨k + 1, _, _, by go_num, by omega, HB4.out, HI.out, by omega, HE4.out, Nat.le_refl _⟩
      · obtain rfl : k = len := by omega
        clear hik
        have HS := Lib.hid (HI.out.small (by omega))
        have hdk : decide ((k : Int) < (k : Int)) = false := decide_eq_false (by omega)
        go_wp2_with fail
        go_loop [8, 9] (fun s j => ∃ i : Nat, i ≤ 6 ∧ j = .int .i64 i ∧ s = .int .i64 (upTo c i)) (fun _ j => 6 - (intOf j).toNat)
        case atStart => exact ⟨0, by omega, rfl, rfl⟩
        case round =>
          obtain ⟨i, hi, rfl, hs⟩ := hrel
          by_cases hi6 : i < 6
          · subst hs
            have u1 := upTo_le HS.out i
            have u2 := cntC_le HS.out i
            go_wp2_with fail
            refine (Count_any _ _ _ _ _ HB.out).mono ?_
            rintro e w' ⟨rfl, rfl⟩
            go_wp2_with fail
            go_round
            case rel => exact ⟨i + 1, by omega, by go_num, rfl⟩
            case measure => simp [intOf]; omega
          · obtain rfl : i = 6 := by omega
            rw [upTo_six, HI.out.sum] at hs
            subst hs
            clear hi6
            go_wp2_with fail
            refine (Len_any' _ _ _ _ HB.out).mono ?_
            rintro e w' ⟨rfl, rfl⟩
            go_wp2_with fail
            refine (Note_nil _ _ _).mono ?_
            rintro e w' ⟨rfl, rfl⟩
            go_wp2_with fail
            refine (Of_nil _ _).mono ?_
            rintro e w' ⟨rfl, rfl⟩
            go_wp2_with fail
            refine (Count_nil _ _).mono ?_
            rintro e w' ⟨rfl, rfl⟩
            go_wp2_with fail
            refine (BLen_nil _).mono ?_
            rintro e w' ⟨rfl, rfl⟩
            go_wp2_with fail
            refine (awake_any _).mono ?_
            rintro e w2 ⟨rfl, hE2⟩
            go_wp2_with fail
            go_ret
            exact ⟨rfl, below_ext HE.out hE2⟩
end Go.Proofs.Ytlnmnnoibimknaa.Fa
