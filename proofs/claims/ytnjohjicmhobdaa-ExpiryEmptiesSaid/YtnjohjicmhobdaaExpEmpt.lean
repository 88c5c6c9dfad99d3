/-
  ExpiryEmpties: the walk of the law, out of the contracts of package expiry.
  At most 40 hashes (the law's own guard); no other condition.
-/
import Derived.Test.YtnjohjicmhobdaaExpM
namespace Go.Proofs.Ytnjohjicmhobdaa.Exi
open Go.RowKit Go.Shelf Go.Seg Go.Open Go.Lib Rk Ex
attribute [local go_sem] Oper.semAt_some

theorem due_over {e now : Int} (h1 : 1 ≤ e) (h2 : e ≤ 1099511627776) (hd : dueB now (bkt e) = true) : 0 < e ∧ e ≤ now := by
  unfold dueB bkt at hd
  split at hd <;> simp at hd <;> omega
theorem over_due {e now : Int} (h1 : 1 ≤ e) (h2 : e ≤ 1099511627776) (h : e ≤ now - 4) : dueB now (bkt e) = true := by
  unfold dueB bkt
  split <;> simp <;> omega
theorem endOf_mem {y : List (Int × Int)} {k : Int} (h : endOf y k ≠ 0) : ∃ x ∈ y, x.2 = endOf y k := by
  unfold endOf at h ⊢
  cases hf : y.find? (fun x => decide (x.1 = k)) with
  | none => rw [hf] at h; exact absurd rfl h
  | some z => exact ⟨z, List.mem_of_find?_eq_some hf, rfl⟩
/-- Where nothing is due, nothing has ended four ticks ago. -/
theorem gone {y : List (Int × Int)} {now k : Int} (he : Ends y) (hd : dueL now y = []) : decide (endOf y k > 0) = false ∨ (decide (endOf y k > 0) = true ∧ decide (endOf y k ≤ now - 4) = false) := by
  by_cases h : endOf y k > 0
  · refine .inr ⟨decide_eq_true h, decide_eq_false (fun hle => ?_)⟩
    obtain ⟨x, hx, hxe⟩ := endOf_mem (y := y) (k := k) (by omega)
    have h2 := he x hx
    have h3 := over_due h2.1 h2.2 (now := now) (by omega)
    have : x ∈ dueL now y := List.mem_filter.2 ⟨hx, h3⟩
    rw [hd] at this
    cases this
  · exact .inl (decide_eq_false h)
theorem rest_drop {w : World} {b : Nat} {y : List (Int × Int)} (h : Idx w b y) {x : Int × Int} (hx : x ∈ y) : (rest y x.1).length + 1 = y.length := by
  have hn := srt_nodup h.srt
  have e : rest y x.1 = y.erase x := by
    rw [hn.erase_eq_filter]
    unfold rest
    refine List.filter_congr (fun z hz => ?_)
    by_cases hzx : z = x
    · subst hzx; simp
    · have : z.1 ≠ x.1 := fun e => hzx (Prod.ext e (by rw [← h.one z hz, ← h.one x hx, e]))
      simp [this, hzx]
  rw [e, List.length_erase_of_mem hx]
  have := List.length_pos_of_mem hx
  omega
theorem endOf_rest (y : List (Int × Int)) (k : Int) : endOf (rest y k) k = 0 := endOf_none (fun x hx => (mem_rest.1 hx).2)
/-- What is due first: it is over, and there; and what is left behind it. -/
theorem first_due {w : World} {b : Nat} {y : List (Int × Int)} {now : Int} {d : Int × Int} {D : List (Int × Int)} (h : Idx w b y) (hd : dueL now y = d :: D) :
    decide (0 < d.2 ∧ d.2 ≤ now) = true ∧ endOf y d.1 = d.2 ∧ decide (endOf y d.1 ≠ 0) = true ∧ decide (endOf (rest y d.1) d.1 ≠ 0) = false ∧ (rest y d.1).length + 1 = y.length := by
  have hm : d ∈ dueL now y := by rw [hd]; exact List.mem_cons_self
  obtain ⟨hx, hb⟩ := List.mem_filter.1 hm
  have he := h.ends d hx
  have h1 := h.one d hx
  refine ⟨decide_eq_true (due_over he.1 he.2 hb), h1, decide_eq_true (by rw [h1]; omega), decide_eq_false (by rw [endOf_rest]; simp), rest_drop h hx⟩

set_option maxRecDepth 100000 in
set_option maxHeartbeats 16000000 in
theorem empties_walk (a : Option Addr) (len cap : Nat) (b off : Nat) (F : Nat → Int × Int) (now : Int) (w : World) (ha : 0 < len → a = some ⟨b, off, none⟩) (hl : len ≤ maxLen)
    (hF : ∀ W, Below w.heap.size w W → ∀ i, i < len → W.cell? ⟨b, off + i * 2, none⟩ = some (.int .u64 (F i).1) ∧ W.cell? ⟨b, off + i * 2 + 1, none⟩ = some (.int .i64 (F i).2)) :
    Calls Try.prog 8 #[.slice a len cap, .int .i64 now] w fun e w' => e = .returned (.bool true) ∧ Below w.heap.size w w' := by
  have HA := Lib.hid ha
  have HF := Lib.hid hF
  clear ha hF
  unfold maxLen at hl
  have early : (decide ((len : Int) > 40) = true ∨ (decide ((len : Int) > 40) = false ∧ (decide (now < 0) = true ∨ (decide (now < 0) = false ∧ decide (now > 1099511627776) = true)))) ∨ (len ≤ 40 ∧ 0 ≤ now ∧ now ≤ 1099511627776) := by
    by_cases h1 : len ≤ 40 <;> by_cases h2 : 0 ≤ now <;> by_cases h3 : now ≤ 1099511627776 <;> simp <;> omega
  rcases early with (d1 | ⟨d1, d2 | ⟨d2, d3⟩⟩) | ⟨h40, hn0, hn1⟩
  · go_enter Try.func8, Try.ntmps8
    go_wp2_with fail
    refine (awake_any _).mono ?_
    rintro e w1 ⟨rfl, hE⟩
    go_wp2_with fail
    go_ret
    exact ⟨rfl, hE⟩
  · go_enter Try.func8, Try.ntmps8
    go_wp2_with fail
    refine (awake_any _).mono ?_
    rintro e w1 ⟨rfl, hE⟩
    go_wp2_with fail
    go_ret
    exact ⟨rfl, hE⟩
  · go_enter Try.func8, Try.ntmps8
    go_wp2_with fail
    refine (awake_any _).mono ?_
    rintro e w1 ⟨rfl, hE⟩
    go_wp2_with fail
    go_ret
    exact ⟨rfl, hE⟩
  have d1 : decide ((len : Int) > 40) = false := decide_eq_false (by omega)
  have d2 : decide (now < 0) = false := decide_eq_false (by omega)
  have d3 : decide (now > 1099511627776) = false := decide_eq_false (by omega)
  go_enter Try.func8, Try.ntmps8
  go_wp2_with fail
  refine (New_idx _).mono ?_
  rintro e w1 ⟨bk, rfl, hbk, hI, hE⟩
  have HS0 := Lib.hid (And.intro hI hE)
  clear hI hE
  go_wp2_with fail
  go_loopg [6] len (fun g i wr => ∃ (k : Nat) (y : List (Int × Int)), i = .int .i64 k ∧ k ≤ len ∧ (Idx wr bk y ∧ Ext w wr) ∧ y.length ≤ k ∧ len - k ≤ g)
  case atStart => exact ⟨0, [], rfl, Nat.zero_le _, HS0.out, by simp, Nat.le_refl _⟩
  case round =>
    obtain ⟨k, y, rfl, hk, hS, hyl, hg⟩ := hrel
    have HS := Lib.hid hS
    clear hS
    by_cases hik : k < len
    · have HK := Lib.hid (fun W (h : Below w.heap.size w W) => HF.out W h k hik)
      obtain rfl := HA.out (by omega)
      have HSd := Lib.hid (show Idx wr.drew bk y ∧ Ext w wr.drew from ⟨HS.out.1.ext (Ext.drew wr), below_ext HS.out.2 (Ext.drew wr)⟩)
      have hpl := refPut_len y (F k).1 (F k).2
      go_wp2_with fail
      refine wp_region_segsK [([5, 1, 4, 2], 0, 0), ([2, 1], 2, 11), ([1], 1, 0)] (by kernel_rfl) (by kernel_rfl) ?_
      apply segsK_pure
      · intro W
        simp only [runsT, runsF, rep, pick]
        go_wp2_with fail
        exact ⟨rfl, rfl⟩
      simp only [runsT, runsF, rep, left]
      apply segsK_look
      · obtain ⟨x0, x1⟩ := HK.out _ HSd.out.2
        simp only [runsT, runsF, rep, pick]
        go_wp2_with fail
        exact ⟨rfl, rfl⟩
      simp only [runsT, runsF, rep, left]
      apply segsK_op
      go_wp2_with fail
      refine (Put_any bk y _ _ _ HSd.out.1 (by omega)).mono ?_
      obtain ⟨Y, hY⟩ : ∃ Y, refPut y (F k).1 (F k).2 = Y := ⟨_, rfl⟩
      rw [hY] at hpl ⊢
      rintro e w2 ⟨rfl, hI2, hC2⟩
      have HS2 := Lib.hid (show Idx w2 bk Y ∧ Ext w w2 from ⟨hI2, below_idx HSd.out.2 hC2 hbk⟩)
      clear hI2 hC2 hY
      go_wp2_with fail
      refine ⟨fun h => (by cases h), ?_⟩
      apply segsK_nil
      go_wp2_with fail
      go_roundg (len - (k + 1))
      case measure => omega
      case rel => exact ⟨k + 1, Y, by go_num, by omega, HS2.out, by omega, Nat.le_refl _⟩
    · obtain rfl : k = len := by omega
      have hdk : decide ((k : Int) < (k : Int)) = false := decide_eq_false (by omega)
      clear hik
      go_wp2_with fail
      refine (Len_idx bk _ _ HS.out.1).mono ?_
      rintro e w' ⟨rfl, rfl⟩
      go_wp2_with fail
      go_loopg [7, 8, 9, 10, 11] (k + 1) (fun g lf i _ _ _ wr2 => ∃ (j : Nat) (z : List (Int × Int)), i = .int .i64 j ∧ j + z.length ≤ k ∧ lf = .int .i64 z.length ∧ (Idx wr2 bk z ∧ Ext w wr2) ∧ k + 1 - j ≤ g)
      case atStart => exact ⟨0, y, rfl, by omega, rfl, HS.out, Nat.le_refl _⟩
      case round =>
        obtain ⟨j, z, rfl, hjz, rfl, hSz, hgj⟩ := hrel
        have hjk : decide ((j : Int) ≤ (k : Int)) = true := decide_eq_true (by omega)
        obtain ⟨D, hD⟩ : ∃ D, dueL now z = D := ⟨_, rfl⟩
        have HD := Lib.hid hD
        have HZ := Lib.hid hSz
        cases D with
        | cons d D =>
          obtain ⟨f1, f2, f3, f4, f5⟩ := first_due hSz.1 hD
          have HF1 := Lib.hid f1
          have HF2 := Lib.hid f2
          have HF3 := Lib.hid f3
          have HF4 := Lib.hid f4
          have n2 : (d.2 != d.2) = false := by simp
          clear f1 f2 f3 f4 hD hSz
          obtain ⟨R, hR⟩ : ∃ R, rest z d.1 = R := ⟨_, rfl⟩
          have hrr : rest R d.1 = R := by
            subst hR
            exact rest_none (fun x hx => (mem_rest.1 hx).2)
          have hRl : (R.length : Int) = (z.length : Int) - 1 := by rw [hR] at f5; omega
          have HRR := Lib.hid hrr
          have HR := Lib.hid hR
          clear hrr hR
          go_wp2_with fail
          refine (First_any bk _ _ _ HZ.out.1).mono ?_
          rw [HD.out]
          simp only [firstV]
          rintro e w2 ⟨rfl, hE2⟩
          have HZ2 := Lib.hid (show Idx w2 bk z ∧ Ext w w2 from ⟨HZ.out.1.ext hE2, below_ext HZ.out.2 hE2⟩)
          clear hE2
          go_wp2_with fail
          refine (rOver _ now _).mono ?_
          rw [HF1.out]
          rintro e w' ⟨rfl, rfl⟩
          go_wp2_with fail
          refine (End_any bk z _ _ HZ2.out.1 (by omega)).mono ?_
          rw [HF2.out]
          rintro e w3 ⟨rfl, hE3⟩
          have HZ3 := Lib.hid (show Idx w3 bk z ∧ Ext w w3 from ⟨HZ2.out.1.ext hE3, below_ext HZ2.out.2 hE3⟩)
          clear hE3
          go_wp2_with fail
          refine (Drop_any bk z _ _ HZ3.out.1 (by omega)).mono ?_
          rw [HF3.out, HR.out]
          rintro e w4 ⟨rfl, hI4, hC4⟩
          have HZ4 := Lib.hid (show Idx w4 bk R ∧ Ext w w4 from ⟨hI4, below_idx HZ3.out.2 hC4 hbk⟩)
          clear hI4 hC4
          go_wp2_with fail
          refine (Drop_any bk R _ _ HZ4.out.1 (by omega)).mono ?_
          have f4 := HF4.out
          rw [HR.out] at f4
          rw [f4, HRR.out]
          clear f4
          rintro e w5 ⟨rfl, hI5, hC5⟩
          have HZ5 := Lib.hid (show Idx w5 bk R ∧ Ext w w5 from ⟨hI5, below_idx HZ4.out.2 hC5 hbk⟩)
          clear hI5 hC5
          go_wp2_with fail
          go_roundg (k + 1 - (j + 1))
          case measure => omega
          case rel => exact ⟨j + 1, R, by go_num, by omega, by rw [hRl], HZ5.out, Nat.le_refl _⟩
        | nil =>
          clear hD hSz
          go_wp2_with fail
          refine (First_any bk _ _ _ HZ.out.1).mono ?_
          rw [HD.out]
          simp only [firstV]
          rintro e w2 ⟨rfl, hE2⟩
          have HZ2 := Lib.hid (show Idx w2 bk z ∧ Ext w w2 from ⟨HZ.out.1.ext hE2, below_ext HZ.out.2 hE2⟩)
          clear hE2
          go_wp2_with fail
          refine (First_any bk _ _ _ HZ2.out.1).mono ?_
          rw [HD.out]
          simp only [firstV]
          rintro e w3 ⟨rfl, hE3⟩
          have HZ3 := Lib.hid (show Idx w3 bk z ∧ Ext w w3 from ⟨HZ2.out.1.ext hE3, below_ext HZ2.out.2 hE3⟩)
          clear hE3
          go_wp2_with fail
          refine (Len_idx bk _ _ HZ3.out.1).mono ?_
          rintro e w' ⟨rfl, rfl⟩
          have n1 : ((z.length : Int) != (z.length : Int)) = false := by simp
          go_wp2_with fail
          go_loopg [15, 16] k (fun g i _ wr3 => ∃ (q : Nat), i = .int .i64 q ∧ q ≤ k ∧ (Idx wr3 bk z ∧ Ext w wr3) ∧ k - q ≤ g)
          case atStart => exact ⟨0, rfl, Nat.zero_le _, HZ3.out, Nat.le_refl _⟩
          case round =>
            obtain ⟨q, rfl, hq, hSq, hgq⟩ := hrel
            have HQ := Lib.hid hSq
            by_cases hiq : q < k
            · obtain rfl := HA.out (by omega)
              obtain ⟨x0, x1⟩ := HF.out _ hSq.2 q hiq
              have hgo := gone (k := (F q).1) hSq.1.ends HD.out
              clear hSq
              obtain ⟨E, hE⟩ : ∃ E, endOf z (F q).1 = E := ⟨_, rfl⟩
              have HE := Lib.hid hE
              rw [hE] at hgo
              clear hE
              rcases hgo with g1 | ⟨g1, g2⟩
              · go_wp2_with fail
                refine (End_any bk z _ _ HQ.out.1 (by omega)).mono ?_
                rw [HE.out]
                rintro e w4 ⟨rfl, hE4⟩
                have HQ4 := Lib.hid (show Idx w4 bk z ∧ Ext w w4 from ⟨HQ.out.1.ext hE4, below_ext HQ.out.2 hE4⟩)
                clear hE4
                go_wp2_with fail
                go_roundg (k - (q + 1))
                case measure => omega
                case rel => exact ⟨q + 1, by go_num, by omega, HQ4.out, Nat.le_refl _⟩
              · go_wp2_with fail
                refine (End_any bk z _ _ HQ.out.1 (by omega)).mono ?_
                rw [HE.out]
                rintro e w4 ⟨rfl, hE4⟩
                have HQ4 := Lib.hid (show Idx w4 bk z ∧ Ext w w4 from ⟨HQ.out.1.ext hE4, below_ext HQ.out.2 hE4⟩)
                clear hE4
                go_wp2_with fail
                go_roundg (k - (q + 1))
                case measure => omega
                case rel => exact ⟨q + 1, by go_num, by omega, HQ4.out, Nat.le_refl _⟩
            · obtain rfl : q = k := by omega
              have hdq : decide ((q : Int) < (q : Int)) = false := decide_eq_false (by omega)
              have HEx := Lib.hid hSq.2
              clear hiq hSq
              go_wp2_with fail
              refine (Put_nil 1 1 _).mono ?_
              rintro e w' ⟨rfl, rfl⟩
              go_wp2_with fail
              refine (First_nil now _).mono ?_
              simp only [firstV]
              rintro e w5 ⟨rfl, hE5⟩
              have HE5 := Lib.hid (below_ext HEx.out hE5)
              clear hE5
              go_wp2_with fail
              refine (Drop_nil 1 _).mono ?_
              rintro e w' ⟨rfl, rfl⟩
              go_wp2_with fail
              refine (Len_nil _).mono ?_
              rintro e w' ⟨rfl, rfl⟩
              go_wp2_with fail
              refine (Buckets_nil _).mono ?_
              rintro e w' ⟨rfl, rfl⟩
              go_wp2_with fail
              refine (End_nil 1 _).mono ?_
              rintro e w' ⟨rfl, rfl⟩
              go_wp2_with fail
              refine (All_mk none _).mono ?_
              rintro e w6 ⟨Bx, Bm, rfl, c1, c2, l1, l2, hE6⟩
              have HEa := Lib.hid (each_nil (Bm := Bm) c1 l1)
              have HE6 := Lib.hid (below_ext HE5.out hE6)
              clear c1 c2 l1 l2 hE6
              go_wp2_with fail
              refine (told_each _ [] 3 _ _ (Ext.refl _) HEa.out (by simp) (by omega)).mono ?_
              rw [List.take_nil]
              rintro e w7 ⟨u7, rfl, hR7, hE7⟩
              obtain ⟨a7, c7, rfl⟩ := hR7.val
              have HE7 := Lib.hid (below_ext HE6.out hE7)
              clear hR7 hE7
              go_wp2_with fail
              refine (Due_mk none now _).mono ?_
              rintro e w8 ⟨Bx, Bm, N1, rfl, c1, c2, c3, l1, l2, l3, -, hE8⟩
              have HEd := Lib.hid (each_nil (Bm := Bm) c1 l1)
              have HE8 := Lib.hid (below_ext HE7.out hE8)
              clear c1 c2 c3 l1 l2 l3 hE8
              go_wp2_with fail
              refine (told_each _ [] 3 _ _ (Ext.refl _) HEd.out (by simp) (by omega)).mono ?_
              rw [List.take_nil]
              rintro e w9 ⟨u9, rfl, hR9, hE9⟩
              obtain ⟨a9, c9, rfl⟩ := hR9.val
              have HE9 := Lib.hid (below_ext HE8.out hE9)
              clear hR9 hE9
              go_wp2_with fail
              refine (awake_any _).mono ?_
              rintro e w10 ⟨rfl, hE10⟩
              have HE10 := Lib.hid (below_ext HE9.out hE10)
              clear hE10
              go_wp2_with fail
              go_ret
              exact ⟨rfl, HE10.out⟩
end Go.Proofs.Ytnjohjicmhobdaa.Exi
