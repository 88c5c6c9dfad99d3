/-
  Belady: the cache by choices: the walk of Serve.
  At most 4096 requests (the program's own bound); no other condition.
-/
import Derived.Test.YtnjohjicmhobdaaBelCh
import Derived.Test.YtnjohjicmhobdaaBelDel
namespace Go.Proofs.Ytnjohjicmhobdaa.Bl
open Go.RowKit Go.Seg Go.Open Go.Lib Bel Lo1

/-- What lies there in Serve's loop. -/
structure SS (l : List Int) (r : Int) (ch : Nat → Int) (len : Nat) (w wr : World) (k : Nat) (h : Int) (v : Value) (keys : List Int) : Prop where
  row : Ints wr w.heap.size v keys
  up : keys.Pairwise (· < ·)
  lr : (keys.length : Int) ≤ r
  lk : keys.length ≤ k
  h0 : 0 ≤ h
  hk : h ≤ k
  ext : Ext w wr
  sum : h + srv l r ch (len - k) k keys = srv l r ch len 0 []

theorem has_iff (ks : List Int) (x : Int) : has ks x = true ↔ x ∈ ks := by unfold has; simp
theorem up_cut {ks : List Int} (h : ks.Pairwise (· < ·)) (i : Nat) : (cut ks i).Pairwise (· < ·) := by
  rw [cut_eq]
  exact h.sublist (List.eraseIdx_sublist _ _)
theorem up_insS {ks : List Int} {x : Int} (h : ks.Pairwise (· < ·)) (hn : x ∉ ks) : (insS ks x).Pairwise (· < ·) := Lk.up_insI h hn
theorem insS_len (ks : List Int) (x : Int) : (insS ks x).length = ks.length + 1 := by rw [(insS_perm ks x).length_eq]; rfl
theorem not_cut {ks : List Int} {x : Int} (h : x ∉ ks) (i : Nat) : x ∉ cut ks i := fun hx => h (by rw [cut_eq] at hx; exact (List.eraseIdx_sublist _ _).subset hx)
theorem cut_len {ks : List Int} {i : Nat} (h : i < ks.length) : (cut ks i).length + 1 = ks.length := by rw [cut_eq, List.length_eraseIdx, if_pos h]; omega

theorem srv_no {l : List Int} {r : Int} {ch : Nat → Int} {d i : Nat} {keys : List Int} (h : l.getD i 0 ∉ keys) : srv l r ch (d + 1) i keys = srv l r ch d (i + 1) (chosen r (ch i) keys (l.getD i 0)) := by
  simp only [srv]
  rw [if_neg h]
theorem SS.sum' {l : List Int} {r : Int} {ch : Nat → Int} {len : Nat} {w wr : World} {k : Nat} {h : Int} {v : Value} {keys ks' : List Int} (s : SS l r ch len w wr k h v keys) (hk : k < len)
    (e : srv l r ch (len - (k + 1) + 1) k keys = srv l r ch (len - (k + 1)) (k + 1) ks') : h + srv l r ch (len - (k + 1)) (k + 1) ks' = srv l r ch len 0 [] := by
  rw [← e, show len - (k + 1) + 1 = len - k by omega]
  exact s.sum
theorem SS.hit {l : List Int} {r : Int} {ch : Nat → Int} {len : Nat} {w wr : World} {k : Nat} {h : Int} {v : Value} {keys : List Int} (s : SS l r ch len w wr k h v keys) (_hkl : k < l.length) (hm : l.getD k 0 ∈ keys) (hk : k < len) : SS l r ch len w wr (k + 1) (h + 1) v keys := by
  refine ⟨s.row, s.up, s.lr, by have := s.lk; omega, by have := s.h0; omega, by have := s.hk; omega, s.ext, ?_⟩
  have e := s.sum
  rw [show len - k = len - (k + 1) + 1 by omega] at e
  simp only [srv] at e
  rw [if_pos hm] at e
  omega
theorem SS.ext' {l : List Int} {r : Int} {ch : Nat → Int} {len : Nat} {w wr w2 : World} {k : Nat} {h : Int} {v : Value} {keys : List Int} (s : SS l r ch len w wr k h v keys) (hE : Ext wr w2) : SS l r ch len w w2 k h v keys :=
  ⟨s.row.ext hE, s.up, s.lr, s.lk, s.h0, s.hk, s.ext.trans hE, s.sum⟩

set_option maxRecDepth 100000 in
set_option maxHeartbeats 4000000 in
theorem Serve_any (a : Option Addr) (len cap b off : Nat) (F : Nat → Int) (ca : Option Addr) (n ccap cb coff : Nat) (C : Nat → Int) (room r : Int) (w : World)
    (ha : 0 < len → a = some ⟨b, off, none⟩) (hl : len ≤ 4096) (hF : ∀ W, Ext w W → ∀ i, i < len → W.cell? ⟨b, off + i, none⟩ = some (.int .i64 (F i)))
    (hca : 0 < n → ca = some ⟨cb, coff, none⟩) (hn : n ≤ maxLen) (hwfC : ∀ j, j < n → -9223372036854775808 ≤ C j ∧ C j ≤ 9223372036854775807) (hC : ∀ W, Ext w W → ∀ i, i < n → W.cell? ⟨cb, coff + i, none⟩ = some (.int .i64 (C i)))
    (hr : (room < 0 ∧ r = 0) ∨ (0 ≤ room ∧ room = r)) (hr1 : r ≤ 9223372036854775807) :
    Calls Try.prog 16 #[.slice a len cap, .int .i64 room, .slice ca n ccap] w fun e w' => e = .returned (.int .i64 (srv (lst F len) r (chc C n r) len 0 [])) ∧ Ext w w' := by
  have HA := Lib.hid ha
  have HF := Lib.hid hF
  have HCA := Lib.hid hca
  have HN := Lib.hid hn
  have HWC := Lib.hid hwfC
  have HC := Lib.hid hC
  have HLL := Lib.hid (lst_len F len)
  have d0 : decide ((4096 : Int) < (len : Int)) = false := decide_eq_false (by omega)
  have HS0 : Hid (SS (lst F len) r (chc C n r) len w w 0 0 (.slice none 0 0) []) := Lib.hid ⟨World.ownsRow_nil _ _ _ _, List.Pairwise.nil, by simp; omega, Nat.le_refl _, Int.le_refl _, Int.le_refl _, Ext.refl _, by simp⟩
  have hr0 : 0 ≤ r := by omega
  clear ha hF hca hn hwfC hC
  go_enter Try.func16, Try.ntmps16
  rcases hr with ⟨hr, rfl⟩ | ⟨hr, rfl⟩
  · have hmx : max room 0 = 0 := by omega
    go_wp2_with fail
    clear hmx
    go_loopg [6, 7, 20] len (fun g u v i wr => ∃ (k : Nat) (h : Int) (keys : List Int), u = .int .i64 h ∧ i = .int .i64 k ∧ k ≤ len ∧ SS (lst F len) _ (chc C n _) len w wr k h v keys ∧ len - k ≤ g)
    case atStart => exact ⟨0, 0, [], rfl, rfl, Nat.zero_le _, HS0.out, Nat.le_refl _⟩
    case round =>
      clear HS0
      obtain ⟨k, h, keys, rfl, rfl, hk, hS, hg⟩ := hrel
      have HS := Lib.hid hS
      have hh0 := hS.h0
      have hhk := hS.hk
      have hkr := hS.lr
      have hkk := hS.lk
      obtain ⟨av, cv, _, rfl, _⟩ := hS.row.openI
      clear hS
      by_cases hik : k < len
      · obtain rfl := HA.out (by omega)
        have HKL : Hid (k < (lst F len).length) := Lib.hid (by rw [HLL.out]; exact hik)
        have x0 := HF.out _ HS.out.ext k hik
        have HG : Hid ((lst F len).getD k 0 = F k) := Lib.hid (by rw [getD_eq HKL.out, lst_get])
        cases hm : has keys (F k) with
        | true =>
          have HM := Lib.hid hm
          have HI := Lib.hid (show SS (lst F len) _ (chc C n _) len w wr (k + 1) (h + 1) _ keys from HS.out.hit HKL.out (by rw [HG.out]; exact (has_iff _ _).1 hm) hik)
          clear hm
          go_wp2_with fail
          refine (search_any _ _ _ HS.out.up _ _ HS.out.row (by omega)).mono ?_
          rw [HM.out]
          rintro e w1 ⟨rfl, hE1⟩
          have HE1 := Lib.hid hE1
          clear hE1
          go_wp2_with fail
          go_roundg (len - (k + 1))
          case measure => omega
          case rel => exact ⟨k + 1, h + 1, keys, rfl, by go_num, by omega, HI.out.ext' HE1.out, Nat.le_refl _⟩
        | false =>
          have HM := Lib.hid hm
          have HNM : Hid (F k ∉ keys) := Lib.hid (fun hx => by have := (has_iff keys (F k)).2 hx; rw [hm] at this; cases this)
          clear hm
          obtain ⟨c, hc⟩ : ∃ c, chc C n 0 k = c := ⟨_, rfl⟩
          have hck := chc_ok C n hr0 k
          rw [hc] at hck
          have HCC := Lib.hid hc
          obtain ⟨hc0, hc1⟩ := hck
          clear hc
          go_wp2_with fail
          refine (search_any _ _ _ HS.out.up _ _ HS.out.row (by omega)).mono ?_
          rw [HM.out]
          rintro e w1 ⟨rfl, hE1⟩
          have HE1 := Lib.hid (HS.out.ext.trans hE1)
          have HR1 := Lib.hid (HS.out.row.ext hE1)
          clear hE1
          go_wp2_with fail
          refine (choice_any ca n ccap cb coff C k 0 c _ HCA.out HN.out (by omega) hr0 hr1 HWC.out (HC.out _ HE1.out) HCC.out).mono ?_
          rintro e w' ⟨rfl, rfl⟩
          have HST := Lib.hid (srv_no (l := lst F len) (r := 0) (ch := chc C n 0) (d := len - (k + 1)) (i := k) (keys := keys) (by rw [HG.out]; exact HNM.out))
          by_cases hcr : c = 0
          · have d1 : (c == 0) = true := by simp [hcr]
            have HCR := Lib.hid hcr
            clear hcr
            go_wp2_with fail
            go_roundg (len - (k + 1))
            case measure => omega
            case rel => exact ⟨k + 1, h, keys, rfl, by go_num, by omega, ⟨HR1.out, HS.out.up, hkr, by omega, hh0, by omega, HE1.out, HS.out.sum' hik (by rw [HST.out, HCC.out]; unfold chosen; rw [if_pos HCR.out])⟩, Nat.le_refl _⟩
          · exact absurd (by omega : c = 0) hcr
      · obtain rfl : k = len := by omega
        have hdk : decide ((k : Int) < (k : Int)) = false := decide_eq_false (by omega)
        clear hik
        go_wp2_with fail
        go_ret
        have := HS.out.sum
        exact ⟨by rw [← this, Nat.sub_self]; simp [srv], HS.out.ext⟩
  · have hmx : max room 0 = room := by omega
    go_wp2_with fail
    clear hmx
    go_loopg [6, 7, 20] len (fun g u v i wr => ∃ (k : Nat) (h : Int) (keys : List Int), u = .int .i64 h ∧ i = .int .i64 k ∧ k ≤ len ∧ SS (lst F len) _ (chc C n _) len w wr k h v keys ∧ len - k ≤ g)
    case atStart => exact ⟨0, 0, [], rfl, rfl, Nat.zero_le _, HS0.out, Nat.le_refl _⟩
    case round =>
      clear HS0
      obtain ⟨k, h, keys, rfl, rfl, hk, hS, hg⟩ := hrel
      have HS := Lib.hid hS
      have hh0 := hS.h0
      have hhk := hS.hk
      have hkr := hS.lr
      have hkk := hS.lk
      obtain ⟨av, cv, _, rfl, _⟩ := hS.row.openI
      clear hS
      by_cases hik : k < len
      · obtain rfl := HA.out (by omega)
        have HKL : Hid (k < (lst F len).length) := Lib.hid (by rw [HLL.out]; exact hik)
        have x0 := HF.out _ HS.out.ext k hik
        have HG : Hid ((lst F len).getD k 0 = F k) := Lib.hid (by rw [getD_eq HKL.out, lst_get])
        cases hm : has keys (F k) with
        | true =>
          have HM := Lib.hid hm
          have HI := Lib.hid (show SS (lst F len) _ (chc C n _) len w wr (k + 1) (h + 1) _ keys from HS.out.hit HKL.out (by rw [HG.out]; exact (has_iff _ _).1 hm) hik)
          clear hm
          go_wp2_with fail
          refine (search_any _ _ _ HS.out.up _ _ HS.out.row (by omega)).mono ?_
          rw [HM.out]
          rintro e w1 ⟨rfl, hE1⟩
          have HE1 := Lib.hid hE1
          clear hE1
          go_wp2_with fail
          go_roundg (len - (k + 1))
          case measure => omega
          case rel => exact ⟨k + 1, h + 1, keys, rfl, by go_num, by omega, HI.out.ext' HE1.out, Nat.le_refl _⟩
        | false =>
          have HM := Lib.hid hm
          have HNM : Hid (F k ∉ keys) := Lib.hid (fun hx => by have := (has_iff keys (F k)).2 hx; rw [hm] at this; cases this)
          clear hm
          obtain ⟨c, hc⟩ : ∃ c, chc C n room k = c := ⟨_, rfl⟩
          have hck := chc_ok C n hr0 k
          rw [hc] at hck
          have HCC := Lib.hid hc
          obtain ⟨hc0, hc1⟩ := hck
          clear hc
          go_wp2_with fail
          refine (search_any _ _ _ HS.out.up _ _ HS.out.row (by omega)).mono ?_
          rw [HM.out]
          rintro e w1 ⟨rfl, hE1⟩
          have HE1 := Lib.hid (HS.out.ext.trans hE1)
          have HR1 := Lib.hid (HS.out.row.ext hE1)
          clear hE1
          go_wp2_with fail
          refine (choice_any ca n ccap cb coff C k room c _ HCA.out HN.out (by omega) hr0 hr1 HWC.out (HC.out _ HE1.out) HCC.out).mono ?_
          rintro e w' ⟨rfl, rfl⟩
          have HST := Lib.hid (srv_no (l := lst F len) (r := room) (ch := chc C n room) (d := len - (k + 1)) (i := k) (keys := keys) (by rw [HG.out]; exact HNM.out))
          by_cases hcr : c = room
          · have d1 : (c == room) = true := by simp [hcr]
            have HCR := Lib.hid hcr
            clear hcr
            go_wp2_with fail
            go_roundg (len - (k + 1))
            case measure => omega
            case rel => exact ⟨k + 1, h, keys, rfl, by go_num, by omega, ⟨HR1.out, HS.out.up, hkr, by omega, hh0, by omega, HE1.out, HS.out.sum' hik (by rw [HST.out, HCC.out]; unfold chosen; rw [if_pos HCR.out])⟩, Nat.le_refl _⟩
          · have d1 : (c == room) = false := by simp [hcr]
            have HCR := Lib.hid hcr
            clear hcr
            by_cases hfull : room ≤ (keys.length : Int)
            · have d2 : decide (room ≤ (keys.length : Int)) = true := decide_eq_true hfull
              obtain ⟨j, rfl⟩ : ∃ j : Nat, c = j := ⟨c.toNat, by omega⟩
              have hjl : j < keys.length := by have := HCR.out; omega
              have HJ := Lib.hid hjl
              go_wp2_with fail
              refine (delete_any _ _ _ j _ HR1.out (by omega) HJ.out).mono ?_
              rintro e w2 ⟨v2, rfl, hV2, hC2⟩
              have HUC := Lib.hid (up_cut HS.out.up j)
              have HNC := Lib.hid (not_cut HNM.out j)
              have hLC := cut_len HJ.out
              have hE2 : Ext w w2 := below_chg HE1.out hC2 (fun i hi => ((World.ownsRow.lt HR1.out) _ hi).1)
              have HE2 := Lib.hid hE2
              change Ints w2 w.heap.size v2 (cut keys j) at hV2
              obtain ⟨a2, c2, _, rfl, _⟩ := hV2.openI
              have HV2 := Lib.hid hV2
              clear hV2 hC2 hE2
              go_wp2_with fail
              refine (search_any _ _ _ HUC.out _ _ HV2.out (by omega)).mono ?_
              rintro e w3 ⟨rfl, hE3⟩
              have HE3 := Lib.hid (HE2.out.trans hE3)
              have HV3 := Lib.hid (HV2.out.ext hE3)
              have hcl := Lk.cnt_le (cut keys j) (F k)
              clear hE3
              go_wp2_with fail
              refine (insert_any w.heap.size _ (cut keys j) (Lk.cnt (cut keys j) (F k)) (F k) w3.heap.size _ (HV3.out.ext ((Below.refl _ _).alloc (Nat.le_refl _) _)) (by have := HE3.out.size; simp; omega) (by omega) hcl (Blk.new _ _ _) (fun e => by have := (World.ownsRow.lt HV3.out _ e).2; omega)).mono ?_
              rintro e w4 ⟨v4, rfl, hV4, hC4⟩
              have hE4 : Ext w w4 := below_chg (HE3.out.alloc HE3.out.size _) hC4 (fun i hi => (World.ownsRow.lt HV3.out _ hi).1)
              change Ints w4 w.heap.size v4 (insS (cut keys j) (F k)) at hV4
              obtain ⟨a4, c4, _, rfl, _⟩ := hV4.openI
              have HV4 := Lib.hid hV4
              have HE4 := Lib.hid hE4
              clear hV4 hC4 hE4
              go_wp2_with fail
              go_roundg (len - (k + 1))
              case measure => omega
              case rel => exact ⟨k + 1, h, insS (cut keys j) (F k), rfl, by go_num, by omega, ⟨HV4.out, up_insS HUC.out HNC.out, by rw [insS_len]; omega, by rw [insS_len]; omega, hh0, by omega, HE4.out, HS.out.sum' hik (by rw [HST.out, HCC.out, HG.out]; unfold chosen; rw [if_neg HCR.out, if_pos hfull]; rfl)⟩, Nat.le_refl _⟩
            · have d2 : decide (room ≤ (keys.length : Int)) = false := decide_eq_false hfull
              have hcl := Lk.cnt_le keys (F k)
              go_wp2_with fail
              refine (insert_any w.heap.size _ keys (Lk.cnt keys (F k)) (F k) w1.heap.size _ (HR1.out.ext ((Below.refl _ _).alloc (Nat.le_refl _) _)) (by have := HE1.out.size; simp; omega) (by omega) hcl (Blk.new _ _ _) (fun e => by have := (World.ownsRow.lt HR1.out _ e).2; omega)).mono ?_
              rintro e w4 ⟨v4, rfl, hV4, hC4⟩
              have hE4 : Ext w w4 := below_chg (HE1.out.alloc HE1.out.size _) hC4 (fun i hi => (World.ownsRow.lt HR1.out _ hi).1)
              change Ints w4 w.heap.size v4 (insS keys (F k)) at hV4
              obtain ⟨a4, c4, _, rfl, _⟩ := hV4.openI
              have HV4 := Lib.hid hV4
              have HE4 := Lib.hid hE4
              clear hV4 hC4 hE4
              go_wp2_with fail
              go_roundg (len - (k + 1))
              case measure => omega
              case rel => exact ⟨k + 1, h, insS keys (F k), rfl, by go_num, by omega, ⟨HV4.out, up_insS HS.out.up HNM.out, by rw [insS_len]; omega, by rw [insS_len]; omega, hh0, by omega, HE4.out, HS.out.sum' hik (by rw [HST.out, HCC.out, HG.out]; unfold chosen; rw [if_neg HCR.out, if_neg (by omega)])⟩, Nat.le_refl _⟩
      · obtain rfl : k = len := by omega
        have hdk : decide ((k : Int) < (k : Int)) = false := decide_eq_false (by omega)
        clear hik
        go_wp2_with fail
        go_ret
        have := HS.out.sum
        exact ⟨by rw [← this, Nat.sub_self]; simp [srv], HS.out.ext⟩
end Go.Proofs.Ytnjohjicmhobdaa.Bl
