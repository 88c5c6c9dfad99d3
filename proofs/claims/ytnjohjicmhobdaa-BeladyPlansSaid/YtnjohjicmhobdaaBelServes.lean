/-
  BeladyServes: by whatever choices no cache has more hits; with more room as many at least; with room for all each is a hit but the first one of each key.
  At most 80 requests (the law's own guard); no other condition.
-/
import Derived.Test.YtnjohjicmhobdaaBelSv
import Derived.Test.YtnjohjicmhobdaaBelAw
import Derived.Test.YtnjohjicmhobdaaBelKeys
import Derived.Test.YtnjohjicmhobdaaSegK
import Derived.Test.YtnjohjicmhobdaaOpenI
namespace Go.Proofs.Ytnjohjicmhobdaa.Bl
open Go.RowKit Go.Seg Go.Open Go.Lib Bel Rk TrUs

theorem dist_bd (l : List Int) : ∀ i, 0 ≤ dist l i ∧ dist l i ≤ i
  | 0 => ⟨Int.le_refl _, Int.le_refl _⟩
  | i + 1 => by
    have := dist_bd l i
    simp only [dist]
    split <;> omega
theorem lst_take (F : Nat → Int) {k len : Nat} (h : k ≤ len) : lst F k = (lst F len).take k := by
  unfold lst
  rw [← List.map_take, List.take_range, Nat.min_eq_left h]

/-- There is a last used one. -/
theorem last_exists (f : Int → Nat) : ∀ (x : Int) (ks : List Int), ∃ y ∈ x :: ks, ∀ z ∈ x :: ks, f z < f y ∨ (f z = f y ∧ z ≤ y)
  | x, [] => ⟨x, List.mem_cons_self, fun z hz => by
      rcases List.mem_cons.1 hz with rfl | h
      · exact .inr ⟨rfl, Int.le_refl _⟩
      · cases h⟩
  | x, k :: ks => by
    obtain ⟨y, hy, h⟩ := last_exists f k ks
    by_cases hxy : f x < f y ∨ (f x = f y ∧ x ≤ y)
    · refine ⟨y, List.mem_cons_of_mem _ hy, fun z hz => ?_⟩
      rcases List.mem_cons.1 hz with rfl | hz
      · exact hxy
      · exact h z hz
    · refine ⟨x, List.mem_cons_self, fun z hz => ?_⟩
      rcases List.mem_cons.1 hz with rfl | hz
      · exact .inr ⟨rfl, Int.le_refl _⟩
      · have := h z hz
        omega
theorem NextL.exists (l : List Int) (r : Int) (i : Nat) (keys : List Int) (hr : 0 ≤ r) : ∃ keys', NextL l r i keys keys' := by
  by_cases h : ((all l i keys).length : Int) ≤ r
  · exact ⟨_, .inl ⟨h, List.Perm.refl _⟩⟩
  · cases ha : all l i keys with
    | nil => rw [ha] at h; simp at h; omega
    | cons x ks =>
      obtain ⟨y, hy, hm⟩ := last_exists (nxt l (i + 1)) x ks
      exact ⟨(x :: ks).erase y, .inr ⟨by omega, y, by rw [ha]; exact List.perm_cons_erase hy, by rw [ha]; exact hm⟩⟩
theorem Pre.exists (l : List Int) (r : Int) (hr : 0 ≤ r) : ∀ i, i ≤ l.length → ∃ keys o, Pre l r i keys o
  | 0, _ => ⟨_, _, .nil⟩
  | i + 1, h => by
    obtain ⟨keys, o, hp⟩ := Pre.exists l r hr i (by omega)
    obtain ⟨keys', hn⟩ := NextL.exists l r i keys hr
    exact ⟨_, _, .snoc i keys keys' o hp (by omega) hn⟩

/-- What the law asks of the counts. -/
structure Ok (l : List Int) (room n d s m : Int) : Prop where
  serve : s ≤ n
  most : n ≤ l.length - d
  full : d ≤ room → n = l.length - d
  none : room < 1 → n = 0
  more : n ≤ m
  n0 : 0 ≤ n
  d0 : 0 ≤ d
  dl : d ≤ l.length
theorem ok_of (l : List Int) (room r r' : Int) (hr : (room < 0 ∧ r = 0) ∨ (0 ≤ room ∧ room = r)) (hr' : r ≤ r') (ch : Nat → Int) (hch : ∀ i, 0 ≤ ch i ∧ ch i ≤ r) :
    Ok l room (B l r l.length 0 (fun _ => 0)) (dist l l.length) (srv l r ch l.length 0 []) (B l r' l.length 0 (fun _ => 0)) := by
  have hr0 : 0 ≤ r := by omega
  obtain ⟨keys, o, hp⟩ := Pre.exists l r hr0 l.length (Nat.le_refl _)
  have he := Pre.hits_eq hr0 hp
  have hb := (hp.basic hr0).2.2.2.2
  have hd := dist_bd l l.length
  have h0 : 0 ≤ hits o := by unfold hits; omega
  refine ⟨srv_le l r hr0 ch hch, by rw [← he]; exact hb, fun h => ?_, fun h => ?_, B_room l hr', by rw [← he]; exact h0, hd.1, hd.2⟩
  · rw [← he]
    exact (hp.full (by omega) hr0).2
  · obtain rfl : r = 0 := by omega
    rw [← he]
    exact hp.none

set_option maxRecDepth 100000 in
set_option maxHeartbeats 4000000 in
theorem serves_walk (a : Option Addr) (len cap b off : Nat) (F : Nat → Int) (ca : Option Addr) (n ccap cb coff : Nat) (C : Nat → Int) (room : Int) (w : World)
    (ha : 0 < len → a = some ⟨b, off, none⟩) (hlm : len ≤ maxLen) (hlc : len ≤ cap) (hcm : cap ≤ maxLen) (hwf : ∀ i, i < len → (Lit.int .i64 (F i)).wf = true) (hF : ∀ W, Ext w W → ∀ i, i < len → W.cell? ⟨b, off + i, none⟩ = some (.int .i64 (F i)))
    (hca : 0 < n → ca = some ⟨cb, coff, none⟩) (hn : n ≤ maxLen) (hwfC : ∀ j, j < n → (Lit.int .i64 (C j)).wf = true) (hC : ∀ W, Ext w W → ∀ i, i < n → W.cell? ⟨cb, coff + i, none⟩ = some (.int .i64 (C i)))
    (hr : (Lit.int .i64 room).wf = true) :
    Calls Try.prog 5 #[.slice a len cap, .int .i64 room, .slice ca n ccap] w fun e w' => e = .returned (.bool true) ∧ Ext w w' := by
  unfold maxLen at hlm hcm
  obtain ⟨hr1, hr2⟩ := wf_bounds hr
  clear hr
  by_cases hbig : 80 < len
  · have d0 : decide ((80 : Int) < (len : Int)) = true := decide_eq_true (by omega)
    clear ha hF hca hwfC hC hn hwf
    go_enter Try.func5, Try.ntmps5
    go_wp2_with fail
    refine (awake_any _).mono ?_
    rintro e w' ⟨rfl, hE⟩
    go_wp2_with fail
    go_ret
    exact ⟨rfl, hE⟩
  · have d0 : decide ((80 : Int) < (len : Int)) = false := decide_eq_false (by omega)
    obtain ⟨r, hrr⟩ : ∃ r, (room < 0 ∧ r = 0) ∨ (0 ≤ room ∧ room = r) := by
      by_cases h : room < 0
      · exact ⟨0, .inl ⟨h, rfl⟩⟩
      · exact ⟨room, .inr ⟨by omega, rfl⟩⟩
    have hr0 : 0 ≤ r := by omega
    have hr9 : r ≤ 9223372036854775807 := by omega
    obtain ⟨r', hrr'⟩ : ∃ r', r' = max room (-1) + 1 := ⟨_, rfl⟩
    have hrr1 : r ≤ r' := by omega
    have hok := ok_of (lst F len) room r r' hrr hrr1 (chc C n r) (chc_ok C n hr0)
    rw [lst_len] at hok
    obtain ⟨nB, hnB⟩ : ∃ x, B (lst F len) r len 0 (fun _ => 0) = x := ⟨_, rfl⟩
    obtain ⟨sB, hsB⟩ : ∃ x, srv (lst F len) r (chc C n r) len 0 [] = x := ⟨_, rfl⟩
    obtain ⟨mB, hmB⟩ : ∃ x, B (lst F len) r' len 0 (fun _ => 0) = x := ⟨_, rfl⟩
    rw [hnB, hsB, hmB] at hok
    have H1 := Hits_any a len cap b off F room r w ha (by omega) hwf hF hrr
    rw [hnB] at H1
    have H2 : ∀ W, Ext w W → _ := fun W hW => Serve_any a len cap b off F ca n ccap cb coff C room r W ha (by omega) (fun W' h' => hF W' (hW.trans h')) hca hn (fun j hj => wf_bounds (hwfC j hj)) (fun W' h' => hC W' (hW.trans h')) hrr hr9
    rw [hsB] at H2
    have H3 : ∀ W, Ext w W → room ≤ 100 → _ := fun W hW (_ : room ≤ 100) => Hits_any a len cap b off F (max room (-1) + 1) r' W ha (by omega) hwf (fun W' h' => hF W' (hW.trans h')) (.inr ⟨by omega, by omega⟩)
    rw [hmB] at H3
    have H1 := Lib.hid H1
    have H2 := Lib.hid H2
    have H3 := Lib.hid H3
    have HOK := Lib.hid hok
    have HA := Lib.hid ha
    have HF := Lib.hid hF
    have HLL := Lib.hid (lst_len F len)
    clear ha hF hca hwfC hC hn hwf hnB hsB hmB hok hrr hrr' hrr1
    go_enter Try.func5, Try.ntmps5
    go_wp2_with fail
    refine H1.out.mono ?_
    rintro e w1 ⟨rfl, hE1⟩
    have HE1 := Lib.hid hE1
    clear hE1
    go_wp2_with fail
    go_loopg [8, 9] len (fun g u i wr => ∃ k : Nat, u = .int .i64 (dist (lst F len) k) ∧ i = .int .i64 k ∧ k ≤ len ∧ Ext w wr ∧ len - k ≤ g)
    case atStart => exact ⟨0, rfl, rfl, Nat.zero_le _, HE1.out, Nat.le_refl _⟩
    case round =>
      clear HE1
      obtain ⟨k, rfl, rfl, hk, hE1, hg⟩ := hrel
      have HE1 := Lib.hid hE1
      obtain ⟨hd0, hd1⟩ := dist_bd (lst F len) k
      clear hE1
      by_cases hik : k < len
      · obtain rfl := HA.out (by omega)
        have HKL : Hid (k < (lst F len).length) := Lib.hid (by rw [HLL.out]; exact hik)
        have HG : Hid ((lst F len).getD k 0 = F k) := Lib.hid (by rw [getD_eq HKL.out, lst_get])
        obtain ⟨x, hx⟩ : ∃ x : Bool, decide (F k ∈ lst F k) = x := ⟨_, rfl⟩
        have HX := Lib.hid hx
        have HD : Hid (dist (lst F len) (k + 1) = dist (lst F len) k + (if x = true then 0 else 1)) := Lib.hid (by
          rw [← HX.out, lst_take F hk]
          simp only [dist]
          rw [HG.out]
          simp)
        clear hx
        cases x
        · have HD2 : Hid (dist (lst F len) (k + 1) = dist (lst F len) k + 1) := Lib.hid (by rw [HD.out]; simp)
          go_wp2_with fail
          refine wp_region_segs 9 [([7, 2], false), ([1], false)] (by kernel_rfl) (by kernel_rfl) ?_
          apply segs_cons
          · intro W hW
            have x0 := HF.out _ (HE1.out.trans hW.of_drew) k hik
            simp only [runsT, runsF, rep, pick]
            go_wp2_with fail
            exact ⟨rfl, rfl⟩
          simp only [runsT, runsF, rep, left]
          go_wp2_with fail
          refine (Among_any (some ⟨b, off, none⟩) k _ b off F (F k) _ (fun _ => rfl) (by unfold maxLen; omega) (fun i hi => HF.out _ (HE1.out.trans (Ext.drew _)) i (by omega))).mono ?_
          rw [HX.out]
          rintro e w' ⟨rfl, rfl⟩
          go_wp2_with fail
          refine ⟨fun _ => Ext.refl _, ?_⟩
          apply segs_cons
          · intro W hW
            simp only [runsT, runsF, rep, pick]
            go_wp2_with fail
            exact ⟨rfl, rfl⟩
          simp only [runsT, runsF, rep, left]
          go_wp2_with fail
          go_roundg (len - (k + 1))
          case measure => omega
          case rel => exact ⟨k + 1, by rw [HD2.out], by go_num, by omega, HE1.out.trans (Ext.drew _), Nat.le_refl _⟩
        · have HD2 : Hid (dist (lst F len) (k + 1) = dist (lst F len) k) := Lib.hid (by rw [HD.out]; simp)
          go_wp2_with fail
          refine wp_region_segs 9 [([7, 2], false), ([1], false)] (by kernel_rfl) (by kernel_rfl) ?_
          apply segs_cons
          · intro W hW
            have x0 := HF.out _ (HE1.out.trans hW.of_drew) k hik
            simp only [runsT, runsF, rep, pick]
            go_wp2_with fail
            exact ⟨rfl, rfl⟩
          simp only [runsT, runsF, rep, left]
          go_wp2_with fail
          refine (Among_any (some ⟨b, off, none⟩) k _ b off F (F k) _ (fun _ => rfl) (by unfold maxLen; omega) (fun i hi => HF.out _ (HE1.out.trans (Ext.drew _)) i (by omega))).mono ?_
          rw [HX.out]
          rintro e w' ⟨rfl, rfl⟩
          go_wp2_with fail
          refine ⟨fun _ => Ext.refl _, ?_⟩
          apply segs_cons
          · intro W hW
            simp only [runsT, runsF, rep, pick]
            go_wp2_with fail
            exact ⟨rfl, rfl⟩
          simp only [runsT, runsF, rep, left]
          go_wp2_with fail
          go_roundg (len - (k + 1))
          case measure => omega
          case rel => exact ⟨k + 1, by rw [HD2.out], by go_num, by omega, HE1.out.trans (Ext.drew _), Nat.le_refl _⟩
      · obtain rfl : k = len := by omega
        have hdk : decide ((k : Int) < (k : Int)) = false := decide_eq_false (by omega)
        obtain ⟨o1, o2, o3, o4, o5, o6, o7, o8⟩ := HOK.out
        rw [HLL.out] at o2 o3 o8
        obtain ⟨d, hd⟩ : ∃ d, dist (lst F k) k = d := ⟨_, rfl⟩
        rw [hd] at o2 o3 o7 o8 hd0 hd1 ⊢
        have e1 : decide (nB < sB) = false := decide_eq_false (by omega)
        have e2 : decide ((k : Int) - d < nB) = false := decide_eq_false (by omega)
        have e5 : decide (nB ≤ mB) = true := decide_eq_true (by omega)
        have O3 := Lib.hid o3
        have O4 := Lib.hid o4
        clear hd o1 o2 o3 o4 o5 o6 hdk hik
        by_cases c1 : d ≤ room
        · have g1 : decide (d ≤ room) = true := decide_eq_true c1
          have e3 : (nB != (k : Int) - d) = false := by simp [O3.out c1]
          by_cases c2 : room < 1
          · have g2 : decide (room < 1) = true := decide_eq_true c2
            have g3 : decide (100 < room) = false := decide_eq_false (by omega)
            have e4 : (nB != 0) = false := by simp [O4.out c2]
            go_wp2_with fail
            refine (H2.out _ HE1.out).mono ?_
            rintro e w2 ⟨rfl, hE2⟩
            have HE2 := Lib.hid (HE1.out.trans hE2)
            clear hE2
            go_wp2_with fail
            refine (H3.out _ HE2.out (by omega)).mono ?_
            rintro e w3 ⟨rfl, hE3⟩
            have HE3 := Lib.hid (HE2.out.trans hE3)
            clear hE3
            go_wp2_with fail
            refine (awake_any _).mono ?_
            rintro e w4 ⟨rfl, hE4⟩
            go_wp2_with fail
            go_ret
            exact ⟨rfl, HE3.out.trans hE4⟩
          · have g2 : decide (room < 1) = false := decide_eq_false c2
            by_cases c3 : 100 < room
            · have g3 : decide (100 < room) = true := decide_eq_true c3
              go_wp2_with fail
              refine (H2.out _ HE1.out).mono ?_
              rintro e w2 ⟨rfl, hE2⟩
              have HE2 := Lib.hid (HE1.out.trans hE2)
              clear hE2
              go_wp2_with fail
              refine (awake_any _).mono ?_
              rintro e w4 ⟨rfl, hE4⟩
              go_wp2_with fail
              go_ret
              exact ⟨rfl, HE2.out.trans hE4⟩
            · have g3 : decide (100 < room) = false := decide_eq_false c3
              go_wp2_with fail
              refine (H2.out _ HE1.out).mono ?_
              rintro e w2 ⟨rfl, hE2⟩
              have HE2 := Lib.hid (HE1.out.trans hE2)
              clear hE2
              go_wp2_with fail
              refine (H3.out _ HE2.out (by omega)).mono ?_
              rintro e w3 ⟨rfl, hE3⟩
              have HE3 := Lib.hid (HE2.out.trans hE3)
              clear hE3
              go_wp2_with fail
              refine (awake_any _).mono ?_
              rintro e w4 ⟨rfl, hE4⟩
              go_wp2_with fail
              go_ret
              exact ⟨rfl, HE3.out.trans hE4⟩
        · have g1 : decide (d ≤ room) = false := decide_eq_false c1
          by_cases c2 : room < 1
          · have g2 : decide (room < 1) = true := decide_eq_true c2
            have g3 : decide (100 < room) = false := decide_eq_false (by omega)
            have e4 : (nB != 0) = false := by simp [O4.out c2]
            go_wp2_with fail
            refine (H2.out _ HE1.out).mono ?_
            rintro e w2 ⟨rfl, hE2⟩
            have HE2 := Lib.hid (HE1.out.trans hE2)
            clear hE2
            go_wp2_with fail
            refine (H3.out _ HE2.out (by omega)).mono ?_
            rintro e w3 ⟨rfl, hE3⟩
            have HE3 := Lib.hid (HE2.out.trans hE3)
            clear hE3
            go_wp2_with fail
            refine (awake_any _).mono ?_
            rintro e w4 ⟨rfl, hE4⟩
            go_wp2_with fail
            go_ret
            exact ⟨rfl, HE3.out.trans hE4⟩
          · have g2 : decide (room < 1) = false := decide_eq_false c2
            have g3 : decide (100 < room) = false := decide_eq_false (by omega)
            go_wp2_with fail
            refine (H2.out _ HE1.out).mono ?_
            rintro e w2 ⟨rfl, hE2⟩
            have HE2 := Lib.hid (HE1.out.trans hE2)
            clear hE2
            go_wp2_with fail
            refine (H3.out _ HE2.out (by omega)).mono ?_
            rintro e w3 ⟨rfl, hE3⟩
            have HE3 := Lib.hid (HE2.out.trans hE3)
            clear hE3
            go_wp2_with fail
            refine (awake_any _).mono ?_
            rintro e w4 ⟨rfl, hE4⟩
            go_wp2_with fail
            go_ret
            exact ⟨rfl, HE3.out.trans hE4⟩
end Go.Proofs.Ytnjohjicmhobdaa.Bl
