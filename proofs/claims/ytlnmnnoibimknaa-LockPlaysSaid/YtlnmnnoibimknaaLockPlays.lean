/-
  LockPlays: the walk of the law, out of the contracts of package lock and of the document's answer.
  At most 60 steps (the law's own guard); no other condition.
-/
import Derived.Test.YtlnmnnoibimknaaLockRef
namespace Go.Proofs.Ytlnmnnoibimknaa.Lo1
open Go.RowKit Go.Seg Go.Open Go.Lib Go.Shelf Lk

theorem row_F (l : List (Int × Bool)) : ∃ F : Nat → Int × Bool, ∀ (i : Nat) (h : i < l.length), F i = l[i] := ⟨fun i => l.getD i (0, false), fun i h => by simp [List.getD_eq_getElem?_getD, h]⟩
theorem row_len (l : L) (hi : Inv l) : l.row.length = if l.wr.isSome = true then 1 else l.rs.length := by
  obtain ⟨rs, wr⟩ := l
  cases wr <;> simp [L.row]

theorem rRead_any (u : Value) (B : Nat) (l : L) (hi : Inv l) (hl : l.row.length ≤ 1000000) (id : Int) (w : World) (h : RowH w B u l.row) (hB : B ≤ w.heap.size) :
    Calls Try.prog 31 #[u, .int .i64 id] w fun e w' => ∃ u', e = .returned (.tuple #[u', .bool (l.mayRead id)]) ∧ RowH w' B u' (l.read id).row ∧ Ext w w' := by
  cases hm : l.mayRead id with
  | true =>
    obtain ⟨F, hF⟩ := row_F l.row
    have hw : l.wr = none := by simp [L.mayRead] at hm; exact hm.1
    have hh : l.holds id = false := mayRead_not hm
    refine (rReadF u B l.row F hF id w h hl (by rw [row_written, hw]; rfl) (by rw [row_holds hi, hh])).mono ?_
    rintro e w' ⟨u', rfl, hr, hE⟩
    rw [readR_row hi hw hh F hF] at hr
    exact ⟨u', rfl, own_base hr hB, hE⟩
  | false =>
    have e1 : l.read id = l := by unfold L.read; rw [hm]; simp
    rw [e1]
    have H := Lib.hid h
    have HI := Lib.hid hi
    obtain ⟨a, cap, rfl⟩ := h.val
    obtain ⟨len, hlen⟩ : ∃ len, l.row.length = len := ⟨_, rfl⟩
    have HLen := Lib.hid hlen
    rw [hlen] at hl ⊢
    cases hw : Lk.written l.row with
    | true =>
      have HW := Lib.hid hw
      clear hw hm e1 h hi hlen
      go_enter Try.func31, Try.ntmps31
      go_wp2_with fail
      refine (rWritten _ B l.row _ (by rw [← HLen.out]; exact H.out) (by rw [HLen.out]; exact hl)).mono ?_
      rw [HW.out]
      rintro e w' ⟨rfl, rfl⟩
      go_wp2_with fail
      go_ret2
      exact ⟨_, rfl, by rw [← HLen.out]; exact H.out, Ext.refl _⟩
    | false =>
      have hh : holdsR l.row id = true := by
        rw [row_holds hi]
        rw [row_written] at hw
        simp [L.mayRead, hw] at hm
        cases hwr : l.wr with
        | none => exact hm hwr
        | some x => rw [hwr] at hw; cases hw
      have HW := Lib.hid hw
      have HH := Lib.hid hh
      clear hw hm e1 h hi hlen hh
      go_enter Try.func31, Try.ntmps31
      go_wp2_with fail
      refine (rWritten _ B l.row _ (by rw [← HLen.out]; exact H.out) (by rw [HLen.out]; exact hl)).mono ?_
      rw [HW.out]
      rintro e w' ⟨rfl, rfl⟩
      go_wp2_with fail
      refine (rHolds _ B l.row _ _ (by rw [← HLen.out]; exact H.out) (by rw [HLen.out]; exact hl)).mono ?_
      rw [HH.out]
      rintro e w' ⟨rfl, rfl⟩
      go_wp2_with fail
      go_ret2
      exact ⟨_, rfl, by rw [← HLen.out]; exact H.out, Ext.refl _⟩

theorem rWrite_any (u : Value) (B : Nat) (l : L) (hi : Inv l) (id : Int) (w : World) (h : RowH w B u l.row) (hB : B ≤ w.heap.size) :
    Calls Try.prog 33 #[u, .int .i64 id] w fun e w' => ∃ u', e = .returned (.tuple #[u', .bool (l.mayWrite id)]) ∧ RowH w' B u' (l.write id).row ∧ Ext w w' := by
  by_cases hn : 0 < l.row.length
  · have hm : l.mayWrite id = false := by
      obtain ⟨rs, wr⟩ := l
      cases wr with
      | some x => simp [L.mayWrite, L.idle]
      | none =>
        cases rs with
        | nil => simp [L.row] at hn
        | cons x rs => rfl
    have e1 : l.write id = l := by unfold L.write; rw [hm]; simp
    rw [e1, hm]
    refine (rWrite_no u B l.row id w h hn).mono ?_
    rintro e w' ⟨rfl, rfl⟩
    exact ⟨u, rfl, h, Ext.refl _⟩
  · obtain ⟨rs, wr⟩ := l
    cases wr with
    | some x => exact absurd hn (by simp [L.row])
    | none =>
      cases rs with
      | cons x rs => exact absurd hn (by simp [L.row])
      | nil =>
        obtain ⟨a, cap, rfl⟩ := h.val
        refine (rWrite_yes a cap id w).mono ?_
        rintro e w' ⟨u', rfl, hr, hE⟩
        exact ⟨u', rfl, own_base hr hB, hE⟩

theorem rFree_any (u : Value) (B : Nat) (l : L) (hi : Inv l) (hl : l.row.length ≤ 1000000) (id : Int) (w : World) (h : RowH w B u l.row) (hB : B ≤ w.heap.size) :
    Calls Try.prog 35 #[u, .int .i64 id] w fun e w' => ∃ u', e = .returned (.tuple #[u', .bool (l.holds id)]) ∧ RowH w' B u' (l.free id).row ∧ Ext w w' := by
  obtain ⟨F, hF⟩ := row_F l.row
  refine (rFreeF u B l.row F hF id w h hl).mono ?_
  rintro e w' ⟨u', rfl, hr, hE⟩
  have h1 := freeF_row hi id F hF
  rw [h1] at hr ⊢
  rw [free_len hi]
  exact ⟨u', rfl, own_base hr hB, hE⟩
theorem rHolds_any (u : Value) (B : Nat) (l : L) (hi : Inv l) (hl : l.row.length ≤ 1000000) (id : Int) (w : World) (h : RowH w B u l.row) :
    Calls Try.prog 39 #[u, .int .i64 id] w fun e w' => e = .returned (.bool (l.holds id)) ∧ w = w' := by rw [← row_holds hi]; exact rHolds u B l.row id w h hl

theorem MayWrite_at (b : Nat) (l : L) (v : Bool) (hv : l.idle = v) (w : World) (h : LockAt w b l) : Calls Try.prog 44 #[.pointer (some ⟨b, 0, none⟩)] w fun e w' => e = .returned (.bool v) ∧ w = w' := by rw [← hv]; exact MayWrite_any b l w h

set_option maxRecDepth 100000 in
set_option maxHeartbeats 4000000 in
theorem stands_some (b : Nat) (x : Int) (u : Value) (B : Nat) (w : World) (h : LockAt w b ⟨[], some x⟩) (hr : RowH w B u [(x, true)]) :
    Calls Try.prog 37 #[.pointer (some ⟨b, 0, none⟩), u] w fun e w' => e = .returned (.bool true) ∧ Ext w w' := by
  have hi : Inv ⟨[], some x⟩ := ⟨List.Pairwise.nil, fun _ => rfl⟩
  have HI := Lib.hid hi
  have H := Lib.hid h
  have HR := Lib.hid hr
  obtain ⟨a, cap, bb, G, rfl, ha, hG, hc⟩ := hr.openR
  obtain rfl := ha (by simp)
  have HC := Lib.hid (show ∀ W, Ext w W → W.cell? ⟨bb, 0, none⟩ = some (.int .i64 x) from fun W hW => by have := (hc W hW 0 (by simp)).1; rw [hG 0 (by simp)] at this; exact this)
  clear h hr hi ha hc hG
  go_enter Try.func37, Try.ntmps37
  go_wp2_with fail
  refine (Writer_any _ _ _ H.out).mono ?_
  rintro e w1 ⟨rfl, hE1⟩
  have H1 := Lib.hid (H.out.ext hE1)
  have HE1 := Lib.hid hE1
  clear hE1
  go_wp2_with fail
  refine (Readers_any _ _ (by simp) _ H1.out).mono ?_
  rintro e w2 ⟨v2, rfl, hV2, hE2⟩
  obtain ⟨a2, c2, _, rfl, _⟩ := hV2.openI
  have H2 := Lib.hid (H1.out.ext hE2)
  have HE2 := Lib.hid (Ext.trans HE1.out hE2)
  clear hE2 hV2
  go_wp2_with fail
  refine (rWritten _ B [(x, true)] _ (own_ext HR.out HE2.out) (by simp)).mono ?_
  rw [show Lk.written [(x, true)] = true from rfl]
  rintro e w' ⟨rfl, rfl⟩
  go_wp2_with fail
  refine (Idle_at _ _ false idle_one _ H2.out).mono ?_
  rintro e w' ⟨rfl, rfl⟩
  go_wp2_with fail
  refine (MayWrite_at _ _ false idle_one _ H2.out).mono ?_
  rintro e w' ⟨rfl, rfl⟩
  go_wp2_with fail
  refine (MayRead_any _ _ _ H2.out).mono ?_
  rintro e w' ⟨rfl, rfl⟩
  have x0 := HC.out _ HE2.out
  go_wp2_with fail
  refine (Holds_at _ _ HI.out (by simp) _ true holds_one _ H2.out).mono ?_
  rintro e w3 ⟨rfl, hE3⟩
  go_wp2_with fail
  go_ret
  exact ⟨rfl, Ext.trans HE2.out hE3⟩

set_option maxRecDepth 100000 in
set_option maxHeartbeats 8000000 in
theorem stands_none (b : Nat) (rs : List Int) (hi : Inv ⟨rs, none⟩) (hl : rs.length ≤ 1000000) (u : Value) (B : Nat) (w : World) (h : LockAt w b ⟨rs, none⟩) (hr : RowH w B u (L.row ⟨rs, none⟩)) :
    Calls Try.prog 37 #[.pointer (some ⟨b, 0, none⟩), u] w fun e w' => e = .returned (.bool true) ∧ Ext w w' := by
  have HI := Lib.hid hi
  have H := Lib.hid h
  have HR := Lib.hid hr
  have hlr : (L.row ⟨rs, none⟩).length = rs.length := by simp [L.row]
  obtain ⟨a, cap, bb, G, rfl, ha, hG, hc⟩ := hr.openR
  rw [hlr] at ha ⊢
  have HLR := Lib.hid hlr
  have HRa := Lib.hid (show RowH w B (.slice a rs.length cap) (L.row ⟨rs, none⟩) by rw [← hlr]; exact HR.out)
  have HA := Lib.hid ha
  have HC := Lib.hid (show ∀ W, Ext w W → ∀ i, i < rs.length → W.cell? ⟨bb, i * 2, none⟩ = some (.int .i64 (rs.getD i 0)) from fun W hW i hi => by
    have := (hc W hW i (by rw [hlr]; exact hi)).1
    rw [hG i (by rw [hlr]; exact hi)] at this
    simpa [L.row, List.getD_eq_getElem?_getD, hi] using this)
  have hcases : rs = [] ∨ rs ≠ [] := by by_cases h : rs = [] <;> simp [h]
  clear h hr hi ha hc hG hlr HR
  rcases hcases with hz | hz
  · have hidle : L.idle ⟨rs, none⟩ = true := by rw [hz]; rfl
    have hn : ((rs.length : Int) == 0) = true := by rw [hz]; rfl
    have HID := Lib.hid hidle
    have hln : rs.length = 0 := by rw [hz]; rfl
    have HLN := Lib.hid hln
    clear hidle hz hln
    go_enter Try.func37, Try.ntmps37
    go_wp2_with fail
    refine (Writer_any _ _ _ H.out).mono ?_
    rintro e w1 ⟨rfl, hE1⟩
    have H1 := Lib.hid (H.out.ext hE1)
    have HE1 := Lib.hid hE1
    clear hE1
    go_wp2_with fail
    refine (Readers_any _ _ hl _ H1.out).mono ?_
    rintro e w2 ⟨v2, rfl, hV2, hE2⟩
    obtain ⟨a2, c2, b2, rfl, _, _, ha2, _, hc2⟩ := hV2.openI
    have H2 := Lib.hid (H1.out.ext hE2)
    have HE2 := Lib.hid (Ext.trans HE1.out hE2)
    have HA2 := Lib.hid ha2
    have HC2 := Lib.hid hc2
    clear hE2 hV2 ha2 hc2
    go_wp2_with fail
    refine (rWritten _ B (L.row ⟨rs, none⟩) _ (own_ext HRa.out HE2.out) (by rw [HLR.out]; exact hl)).mono ?_
    rw [row_written]
    rintro e w' ⟨rfl, rfl⟩
    go_wp2_with fail
    refine (Idle_at _ _ true HID.out _ H2.out).mono ?_
    rintro e w' ⟨rfl, rfl⟩
    go_wp2_with fail
    refine (MayWrite_at _ _ true HID.out _ H2.out).mono ?_
    rintro e w' ⟨rfl, rfl⟩
    go_wp2_with fail
    refine (MayRead_any _ _ _ H2.out).mono ?_
    rintro e w' ⟨rfl, rfl⟩
    go_wp2_with fail
    go_loopg [8] rs.length (fun g i wr => ∃ k : Nat, i = .int .i64 k ∧ k ≤ rs.length ∧ Ext w2 wr ∧ rs.length - k ≤ g)
    case atStart => exact ⟨0, rfl, Nat.zero_le _, Ext.refl _, Nat.le_refl _⟩
    case round =>
      obtain ⟨k, rfl, hk, hE, hg⟩ := hrel
      have HE := Lib.hid hE
      clear hE
      by_cases hik : k < rs.length
      · exact absurd hik (by have := HLN.out; omega)
      · obtain rfl : k = rs.length := by omega
        have hdk : decide ((rs.length : Int) < (rs.length : Int)) = false := decide_eq_false (by omega)
        clear hik
        go_wp2_with fail
        go_ret
        exact ⟨by simp, Ext.trans HE2.out HE.out⟩
  · have hidle := idle_some hz
    have hn := not_none hz
    have HID := Lib.hid hidle
    clear hidle hz
    go_enter Try.func37, Try.ntmps37
    go_wp2_with fail
    refine (Writer_any _ _ _ H.out).mono ?_
    rintro e w1 ⟨rfl, hE1⟩
    have H1 := Lib.hid (H.out.ext hE1)
    have HE1 := Lib.hid hE1
    clear hE1
    go_wp2_with fail
    refine (Readers_any _ _ hl _ H1.out).mono ?_
    rintro e w2 ⟨v2, rfl, hV2, hE2⟩
    obtain ⟨a2, c2, b2, rfl, _, _, ha2, _, hc2⟩ := hV2.openI
    have H2 := Lib.hid (H1.out.ext hE2)
    have HE2 := Lib.hid (Ext.trans HE1.out hE2)
    have HA2 := Lib.hid ha2
    have HC2 := Lib.hid hc2
    clear hE2 hV2 ha2 hc2
    go_wp2_with fail
    refine (rWritten _ B (L.row ⟨rs, none⟩) _ (own_ext HRa.out HE2.out) (by rw [HLR.out]; exact hl)).mono ?_
    rw [row_written]
    rintro e w' ⟨rfl, rfl⟩
    go_wp2_with fail
    refine (Idle_at _ _ false HID.out _ H2.out).mono ?_
    rintro e w' ⟨rfl, rfl⟩
    go_wp2_with fail
    refine (MayWrite_at _ _ false HID.out _ H2.out).mono ?_
    rintro e w' ⟨rfl, rfl⟩
    go_wp2_with fail
    refine (MayRead_any _ _ _ H2.out).mono ?_
    rintro e w' ⟨rfl, rfl⟩
    go_wp2_with fail
    go_loopg [8] rs.length (fun g i wr => ∃ k : Nat, i = .int .i64 k ∧ k ≤ rs.length ∧ Ext w2 wr ∧ rs.length - k ≤ g)
    case atStart => exact ⟨0, rfl, Nat.zero_le _, Ext.refl _, Nat.le_refl _⟩
    case round =>
      obtain ⟨k, rfl, hk, hE, hg⟩ := hrel
      have HE := Lib.hid hE
      clear hE
      by_cases hik : k < rs.length
      · obtain rfl := HA.out (by omega)
        obtain rfl := HA2.out (by omega)
        have dk : decide (rs.length ≤ k) = false := decide_eq_false (by omega)
        have n1 : (rs.getD k 0 != rs.getD k 0) = false := by simp
        have HH := Lib.hid (show L.holds ⟨rs, none⟩ (rs.getD k 0) = true by simp [L.holds, List.getD_eq_getElem?_getD, hik])
        obtain ⟨y, hy⟩ : ∃ y, rs.getD k 0 = y := ⟨_, rfl⟩
        have HY := Lib.hid hy
        rw [hy] at HH n1
        clear hy
        have HEd := Lib.hid (Ext.trans HE.out (Ext.drew wr))
        have HX := Lib.hid (fun (W : World) (h : Ext w2 W) => show W.cell? ⟨bb, k * 2, none⟩ = some (.int .i64 y) ∧ W.cell? ⟨b2, k, none⟩ = some (.int .i64 y) from ⟨by rw [← HY.out]; exact HC.out W (Ext.trans HE2.out h) k hik, by rw [← HY.out]; have := HC2.out W h k hik; rwa [Nat.zero_add] at this⟩)
        go_wp2_with fail
        refine wp_region_segsK [([8, 1, 4, 13], 0, 0), ([2, 12], 2, 14), ([8, 4], 0, 0), ([1, 3], 2, 23), ([1, 2], 1, 0), ([2], 0, 0)] (by kernel_rfl) (by kernel_rfl) ?_
        apply segsK_pure
        · intro W
          simp only [runsT, runsF, rep, pick]
          go_wp2_with fail
          exact ⟨rfl, rfl⟩
        simp only [runsT, runsF, rep, left]
        apply segsK_look
        · obtain ⟨x0, x1⟩ := HX.out _ HEd.out
          simp only [runsT, runsF, rep, pick]
          go_wp2_with fail
          exact ⟨rfl, rfl⟩
        simp only [runsT, runsF, rep, left]
        apply segsK_pure
        · intro W
          simp only [runsT, runsF, rep, pick]
          go_wp2_with fail
          exact ⟨rfl, rfl⟩
        simp only [runsT, runsF, rep, left]
        apply segsK_look
        · obtain ⟨x0, x1⟩ := HX.out _ HEd.out
          simp only [runsT, runsF, rep, pick]
          go_wp2_with fail
          exact ⟨rfl, rfl⟩
        simp only [runsT, runsF, rep, left]
        apply segsK_op
        go_wp2_with fail
        refine (Holds_at _ _ HI.out hl _ true HH.out _ (H2.out.ext HEd.out)).mono ?_
        rintro e w3 ⟨rfl, hE3⟩
        have HE3 := Lib.hid (Ext.trans HEd.out hE3)
        clear hE3
        go_wp2_with fail
        refine ⟨fun h => (by cases h), ?_⟩
        apply segsK_pure
        · intro W
          simp only [runsT, runsF, rep, pick]
          go_wp2_with fail
          exact ⟨rfl, rfl⟩
        simp only [runsT, runsF, rep, left]
        apply segsK_nil
        go_wp2_with fail
        go_roundg (rs.length - (k + 1))
        case measure => omega
        case rel => exact ⟨k + 1, by go_num, by omega, HE3.out, Nat.le_refl _⟩
      · obtain rfl : k = rs.length := by omega
        have hdk : decide ((rs.length : Int) < (rs.length : Int)) = false := decide_eq_false (by omega)
        clear hik
        go_wp2_with fail
        go_ret
        exact ⟨by simp, Ext.trans HE2.out HE.out⟩

theorem stands_any (b : Nat) (l : L) (hi : Inv l) (hl : l.rs.length ≤ 1000000) (u : Value) (B : Nat) (w : World) (h : LockAt w b l) (hr : RowH w B u l.row) :
    Calls Try.prog 37 #[.pointer (some ⟨b, 0, none⟩), u] w fun e w' => e = .returned (.bool true) ∧ Ext w w' := by
  obtain ⟨rs, wr⟩ := l
  cases wr with
  | none => exact stands_none b rs hi hl u B w h hr
  | some x =>
    obtain rfl : rs = [] := hi.one rfl
    exact stands_some b x u B w h hr

theorem len_row (l : L) (hi : Inv l) {k : Nat} (h : l.rs.length ≤ k) : l.row.length ≤ k + 1 := by
  rw [row_len l hi]
  split <;> omega

set_option maxRecDepth 100000 in
set_option maxHeartbeats 8000000 in
theorem plays_walk (a : Option Addr) (len cap : Nat) (b off : Nat) (F : Nat → Int × Int) (w : World) (ha : 0 < len → a = some ⟨b, off, none⟩) (hl : len ≤ maxLen) (hF0 : ∀ i, i < len → 0 ≤ (F i).1)
    (hF : ∀ W, Below w.heap.size w W → ∀ i, i < len → W.cell? ⟨b, off + i * 2, none⟩ = some (.int .u64 (F i).1) ∧ W.cell? ⟨b, off + i * 2 + 1, none⟩ = some (.int .i64 (F i).2)) :
    Calls Try.prog 6 #[.slice a len cap] w fun e w' => e = .returned (.bool true) ∧ Below w.heap.size w w' := by
  have HA := Lib.hid ha
  have HF := Lib.hid hF
  have HF0 := Lib.hid hF0
  clear ha hF hF0
  unfold maxLen at hl
  by_cases h60 : (60 : Int) < (len : Int)
  · go_enter Try.func6, Try.ntmps6
    go_wp2_with fail
    refine (awake_any _).mono ?_
    rintro e w1 ⟨rfl, hE⟩
    go_wp2_with fail
    go_ret
    exact ⟨rfl, hE⟩
  · have h60' : len ≤ 60 := by omega
    have hd60 : decide ((60 : Int) < (len : Int)) = false := decide_eq_false h60
    clear h60
    go_enter Try.func6, Try.ntmps6
    go_wp2_with fail
    refine (New_any _).mono ?_
    rintro e w1 ⟨bk, rfl, hbk, hB, hE⟩
    have HB := Lib.hid hB
    have HE := Lib.hid hE
    clear hB hE
    go_wp2_with fail
    go_loopg [4, 5] len (fun g u i wr => ∃ (k : Nat) (l : L), i = .int .i64 k ∧ k ≤ len ∧ LockAt wr bk l ∧ RowH wr w.heap.size u l.row ∧ Inv l ∧ l.rs.length ≤ k ∧ Below w.heap.size w wr ∧ len - k ≤ g)
    case atStart => exact ⟨0, ⟨[], none⟩, rfl, Nat.zero_le _, HB.out, World.ownsRow_nil _ _ _ _, Inv.nil, by simp, HE.out, Nat.le_refl _⟩
    case round =>
      obtain ⟨k, l, rfl, hk, hBk, hRo, hI, hsz, hBel, hg⟩ := hrel
      have HB := Lib.hid hBk
      have HR := Lib.hid hRo
      have HI := Lib.hid hI
      have HE := Lib.hid hBel
      have hl6 : l.rs.length ≤ 1000000 := by omega
      have HLR := Lib.hid (show l.row.length ≤ 1000000 by have := len_row l hI hsz; omega)
      obtain ⟨au, cu, rfl⟩ := hRo.val
      clear hBk hI hBel hRo
      by_cases hik : k < len
      · have HK := Lib.hid (fun W (h : Below w.heap.size w W) => HF.out W h k hik)
        obtain rfl := HA.out (by omega)
        obtain ⟨x0, x1⟩ := HK.out _ HE.out
        have hk0 := HF0.out k hik
        have hk3 : (F k).1 % 3 = 0 ∨ (F k).1 % 3 = 1 ∨ (F k).1 % 3 = 2 := by omega
        --A<
        rcases hk3 with hk3 | hk3 | hk3
        · have HI3 := Lib.hid (HI.out.read (F k).2)
          have HZ3 := Lib.hid (len_read l (F k).2)
          have HZ3' := Lib.hid (show (l.read (F k).2).rs.length ≤ k + 1 from Nat.le_trans HZ3.out (by omega))
          have HL3 := Lib.hid (show (l.read (F k).2).rs.length ≤ 1000000 from Nat.le_trans HZ3'.out (by omega))
          have HLR3 := Lib.hid (show (l.read (F k).2).row.length ≤ 1000000 from Nat.le_trans (len_row _ HI3.out HZ3'.out) (by omega))
          go_wp2_with fail
          refine (rRead_any _ _ _ HI.out HLR.out _ _ HR.out HE.out.size).mono ?_
          rintro e w2 ⟨u2, rfl, hR2, hE2⟩
          obtain ⟨a2, c2, rfl⟩ := hR2.val
          have HR2 := Lib.hid hR2
          have HB2 := Lib.hid (HB.out.ext hE2)
          have HE2 := Lib.hid (below_ext HE.out hE2)
          clear hR2 hE2 x0 x1
          obtain ⟨x0, x1⟩ := HK.out _ HE2.out
          go_wp2_with fail
          refine (Read_any _ _ HI.out hl6 _ _ HB2.out).mono ?_
          rintro e w3 ⟨rfl, hB3, hC3⟩
          have HB3 := Lib.hid hB3
          have HE3 := Lib.hid (below_lock HE2.out hC3 hbk)
          have HR3 := Lib.hid (show RowH w3 w.heap.size _ (l.read (F k).2).row from own_chg HR2.out hC3 (by obtain ⟨cs, hb⟩ := HB2.out.blk; exact .one hb (by decide)))
          clear hB3 hC3 x0 x1
          obtain ⟨l3, hl3⟩ : ∃ l3, l.read (F k).2 = l3 := ⟨_, rfl⟩
          obtain ⟨g3, hg3⟩ : ∃ g3, l.mayRead (F k).2 = g3 := ⟨_, rfl⟩
          rw [hl3] at HI3 HZ3' HL3 HLR3 HB3 HR3 ⊢
          rw [hg3]
          clear hl3 hg3 HZ3 HR2
          obtain ⟨h3, hh3⟩ : ∃ h3, l3.holds (F k).2 = h3 := ⟨_, rfl⟩
          have HH3 := Lib.hid hh3
          clear hh3
          have n1 : (g3 != g3) = false := by simp
          have n2 : (h3 != h3) = false := by simp
          have HEd := Lib.hid (below_ext HE3.out (Ext.drew w3))
          have HBd := Lib.hid (HB3.out.ext (Ext.drew w3))
          have HRd := Lib.hid (show RowH w3.drew w.heap.size _ l3.row from own_ext HR3.out (Ext.drew w3))
          go_wp2_with fail
          refine wp_region_segsK [([6, 20], 0, 0), ([1, 19], 1, 0), ([8, 2, 5, 4], 0, 0), ([1, 1, 1, 3], 3, 23), ([1, 2], 1, 0), ([2], 0, 0)] (by kernel_rfl) (by kernel_rfl) ?_
          apply segsK_pure
          · intro W
            simp only [runsT, runsF, rep, pick]
            go_wp2_with fail
            exact ⟨rfl, rfl⟩
          simp only [runsT, runsF, rep, left]
          apply segsK_op
          go_wp2_with fail
          refine (stands_any _ _ HI3.out HL3.out _ _ _ HBd.out HRd.out).mono ?_
          rintro e w4 ⟨rfl, hE4⟩
          have HE4 := Lib.hid (below_ext HEd.out hE4)
          have HB4 := Lib.hid (HBd.out.ext hE4)
          have HR4 := Lib.hid (show RowH w4 w.heap.size _ l3.row from own_ext HRd.out hE4)
          clear hE4
          go_wp2_with fail
          refine ⟨fun h => (by cases h), ?_⟩
          apply segsK_pure
          · intro W
            simp only [runsT, runsF, rep, pick]
            go_wp2_with fail
            exact ⟨rfl, rfl⟩
          simp only [runsT, runsF, rep, left]
          apply segsK_class
          · intro W hW
            obtain ⟨x0, x1⟩ := HK.out _ (below_ext HE4.out hW)
            simp only [runsT, runsF, rep, pick]
            go_wp2_with fail
            exact ⟨rfl, rfl⟩
          simp only [runsT, runsF, rep, left]
          go_wp2_with fail
          refine (Holds_at _ _ HI3.out HL3.out _ _ HH3.out _ HB4.out).mono ?_
          rintro e w5 ⟨rfl, hE5⟩
          have HE5 := Lib.hid (below_ext HE4.out hE5)
          have HB5 := Lib.hid (HB4.out.ext hE5)
          have HR5 := Lib.hid (show RowH w5 w.heap.size _ l3.row from own_ext HR4.out hE5)
          go_wp2_with fail
          refine ⟨fun _ => hE5, ?_⟩
          apply segsK_op
          go_wp2_with fail
          refine (rHolds_any _ _ _ HI3.out HLR3.out _ _ HR5.out).mono ?_
          rw [HH3.out]
          rintro e w' ⟨rfl, rfl⟩
          go_wp2_with fail
          refine ⟨fun h => (by cases h), ?_⟩
          apply segsK_pure
          · intro W
            simp only [runsT, runsF, rep, pick]
            go_wp2_with fail
            exact ⟨rfl, rfl⟩
          simp only [runsT, runsF, rep, left]
          apply segsK_nil
          go_wp2_with fail
          go_roundg (len - (k + 1))
          case measure => omega
          case rel => exact ⟨k + 1, l3, by go_num, by omega, HB5.out, HR5.out, HI3.out, HZ3'.out, HE5.out, Nat.le_refl _⟩
        · have HI3 := Lib.hid (HI.out.write (F k).2)
          have HZ3 := Lib.hid (len_write l (F k).2)
          have HZ3' := Lib.hid (show (l.write (F k).2).rs.length ≤ k + 1 from Nat.le_trans HZ3.out (by omega))
          have HL3 := Lib.hid (show (l.write (F k).2).rs.length ≤ 1000000 from Nat.le_trans HZ3'.out (by omega))
          have HLR3 := Lib.hid (show (l.write (F k).2).row.length ≤ 1000000 from Nat.le_trans (len_row _ HI3.out HZ3'.out) (by omega))
          go_wp2_with fail
          refine (rWrite_any _ _ _ HI.out _ _ HR.out HE.out.size).mono ?_
          rintro e w2 ⟨u2, rfl, hR2, hE2⟩
          obtain ⟨a2, c2, rfl⟩ := hR2.val
          have HR2 := Lib.hid hR2
          have HB2 := Lib.hid (HB.out.ext hE2)
          have HE2 := Lib.hid (below_ext HE.out hE2)
          clear hR2 hE2 x0 x1
          obtain ⟨x0, x1⟩ := HK.out _ HE2.out
          go_wp2_with fail
          refine (Write_any _ _ HI.out hl6 _ _ HB2.out).mono ?_
          rintro e w3 ⟨rfl, hB3, hC3⟩
          have HB3 := Lib.hid hB3
          have HE3 := Lib.hid (below_lock HE2.out hC3 hbk)
          have HR3 := Lib.hid (show RowH w3 w.heap.size _ (l.write (F k).2).row from own_chg HR2.out hC3 (by obtain ⟨cs, hb⟩ := HB2.out.blk; exact .one hb (by decide)))
          clear hB3 hC3 x0 x1
          obtain ⟨l3, hl3⟩ : ∃ l3, l.write (F k).2 = l3 := ⟨_, rfl⟩
          obtain ⟨g3, hg3⟩ : ∃ g3, l.mayWrite (F k).2 = g3 := ⟨_, rfl⟩
          rw [hl3] at HI3 HZ3' HL3 HLR3 HB3 HR3 ⊢
          rw [hg3]
          clear hl3 hg3 HZ3 HR2
          obtain ⟨h3, hh3⟩ : ∃ h3, l3.holds (F k).2 = h3 := ⟨_, rfl⟩
          have HH3 := Lib.hid hh3
          clear hh3
          have n1 : (g3 != g3) = false := by simp
          have n2 : (h3 != h3) = false := by simp
          have HEd := Lib.hid (below_ext HE3.out (Ext.drew w3))
          have HBd := Lib.hid (HB3.out.ext (Ext.drew w3))
          have HRd := Lib.hid (show RowH w3.drew w.heap.size _ l3.row from own_ext HR3.out (Ext.drew w3))
          go_wp2_with fail
          refine wp_region_segsK [([6, 20], 0, 0), ([1, 19], 1, 0), ([8, 2, 5, 4], 0, 0), ([1, 1, 1, 3], 3, 23), ([1, 2], 1, 0), ([2], 0, 0)] (by kernel_rfl) (by kernel_rfl) ?_
          apply segsK_pure
          · intro W
            simp only [runsT, runsF, rep, pick]
            go_wp2_with fail
            exact ⟨rfl, rfl⟩
          simp only [runsT, runsF, rep, left]
          apply segsK_op
          go_wp2_with fail
          refine (stands_any _ _ HI3.out HL3.out _ _ _ HBd.out HRd.out).mono ?_
          rintro e w4 ⟨rfl, hE4⟩
          have HE4 := Lib.hid (below_ext HEd.out hE4)
          have HB4 := Lib.hid (HBd.out.ext hE4)
          have HR4 := Lib.hid (show RowH w4 w.heap.size _ l3.row from own_ext HRd.out hE4)
          clear hE4
          go_wp2_with fail
          refine ⟨fun h => (by cases h), ?_⟩
          apply segsK_pure
          · intro W
            simp only [runsT, runsF, rep, pick]
            go_wp2_with fail
            exact ⟨rfl, rfl⟩
          simp only [runsT, runsF, rep, left]
          apply segsK_class
          · intro W hW
            obtain ⟨x0, x1⟩ := HK.out _ (below_ext HE4.out hW)
            simp only [runsT, runsF, rep, pick]
            go_wp2_with fail
            exact ⟨rfl, rfl⟩
          simp only [runsT, runsF, rep, left]
          go_wp2_with fail
          refine (Holds_at _ _ HI3.out HL3.out _ _ HH3.out _ HB4.out).mono ?_
          rintro e w5 ⟨rfl, hE5⟩
          have HE5 := Lib.hid (below_ext HE4.out hE5)
          have HB5 := Lib.hid (HB4.out.ext hE5)
          have HR5 := Lib.hid (show RowH w5 w.heap.size _ l3.row from own_ext HR4.out hE5)
          go_wp2_with fail
          refine ⟨fun _ => hE5, ?_⟩
          apply segsK_op
          go_wp2_with fail
          refine (rHolds_any _ _ _ HI3.out HLR3.out _ _ HR5.out).mono ?_
          rw [HH3.out]
          rintro e w' ⟨rfl, rfl⟩
          go_wp2_with fail
          refine ⟨fun h => (by cases h), ?_⟩
          apply segsK_pure
          · intro W
            simp only [runsT, runsF, rep, pick]
            go_wp2_with fail
            exact ⟨rfl, rfl⟩
          simp only [runsT, runsF, rep, left]
          apply segsK_nil
          go_wp2_with fail
          go_roundg (len - (k + 1))
          case measure => omega
          case rel => exact ⟨k + 1, l3, by go_num, by omega, HB5.out, HR5.out, HI3.out, HZ3'.out, HE5.out, Nat.le_refl _⟩
        · have HI3 := Lib.hid (HI.out.free (F k).2)
          have HZ3 := Lib.hid (len_free l (F k).2)
          have HZ3' := Lib.hid (show (l.free (F k).2).rs.length ≤ k + 1 from Nat.le_trans HZ3.out (by omega))
          have HL3 := Lib.hid (show (l.free (F k).2).rs.length ≤ 1000000 from Nat.le_trans HZ3'.out (by omega))
          have HLR3 := Lib.hid (show (l.free (F k).2).row.length ≤ 1000000 from Nat.le_trans (len_row _ HI3.out HZ3'.out) (by omega))
          go_wp2_with fail
          refine (rFree_any _ _ _ HI.out HLR.out _ _ HR.out HE.out.size).mono ?_
          rintro e w2 ⟨u2, rfl, hR2, hE2⟩
          obtain ⟨a2, c2, rfl⟩ := hR2.val
          have HR2 := Lib.hid hR2
          have HB2 := Lib.hid (HB.out.ext hE2)
          have HE2 := Lib.hid (below_ext HE.out hE2)
          clear hR2 hE2 x0 x1
          obtain ⟨x0, x1⟩ := HK.out _ HE2.out
          go_wp2_with fail
          refine (Free_any _ _ HI.out hl6 _ _ HB2.out).mono ?_
          rintro e w3 ⟨rfl, hB3, hC3⟩
          have HB3 := Lib.hid hB3
          have HE3 := Lib.hid (below_lock HE2.out hC3 hbk)
          have HR3 := Lib.hid (show RowH w3 w.heap.size _ (l.free (F k).2).row from own_chg HR2.out hC3 (by obtain ⟨cs, hb⟩ := HB2.out.blk; exact .one hb (by decide)))
          clear hB3 hC3 x0 x1
          obtain ⟨l3, hl3⟩ : ∃ l3, l.free (F k).2 = l3 := ⟨_, rfl⟩
          obtain ⟨g3, hg3⟩ : ∃ g3, l.holds (F k).2 = g3 := ⟨_, rfl⟩
          rw [hl3] at HI3 HZ3' HL3 HLR3 HB3 HR3 ⊢
          rw [hg3]
          clear hl3 hg3 HZ3 HR2
          obtain ⟨h3, hh3⟩ : ∃ h3, l3.holds (F k).2 = h3 := ⟨_, rfl⟩
          have HH3 := Lib.hid hh3
          clear hh3
          have n1 : (g3 != g3) = false := by simp
          have n2 : (h3 != h3) = false := by simp
          have HEd := Lib.hid (below_ext HE3.out (Ext.drew w3))
          have HBd := Lib.hid (HB3.out.ext (Ext.drew w3))
          have HRd := Lib.hid (show RowH w3.drew w.heap.size _ l3.row from own_ext HR3.out (Ext.drew w3))
          go_wp2_with fail
          refine wp_region_segsK [([6, 20], 0, 0), ([1, 19], 1, 0), ([8, 2, 5, 4], 0, 0), ([1, 1, 1, 3], 3, 23), ([1, 2], 1, 0), ([2], 0, 0)] (by kernel_rfl) (by kernel_rfl) ?_
          apply segsK_pure
          · intro W
            simp only [runsT, runsF, rep, pick]
            go_wp2_with fail
            exact ⟨rfl, rfl⟩
          simp only [runsT, runsF, rep, left]
          apply segsK_op
          go_wp2_with fail
          refine (stands_any _ _ HI3.out HL3.out _ _ _ HBd.out HRd.out).mono ?_
          rintro e w4 ⟨rfl, hE4⟩
          have HE4 := Lib.hid (below_ext HEd.out hE4)
          have HB4 := Lib.hid (HBd.out.ext hE4)
          have HR4 := Lib.hid (show RowH w4 w.heap.size _ l3.row from own_ext HRd.out hE4)
          clear hE4
          go_wp2_with fail
          refine ⟨fun h => (by cases h), ?_⟩
          apply segsK_pure
          · intro W
            simp only [runsT, runsF, rep, pick]
            go_wp2_with fail
            exact ⟨rfl, rfl⟩
          simp only [runsT, runsF, rep, left]
          apply segsK_class
          · intro W hW
            obtain ⟨x0, x1⟩ := HK.out _ (below_ext HE4.out hW)
            simp only [runsT, runsF, rep, pick]
            go_wp2_with fail
            exact ⟨rfl, rfl⟩
          simp only [runsT, runsF, rep, left]
          go_wp2_with fail
          refine (Holds_at _ _ HI3.out HL3.out _ _ HH3.out _ HB4.out).mono ?_
          rintro e w5 ⟨rfl, hE5⟩
          have HE5 := Lib.hid (below_ext HE4.out hE5)
          have HB5 := Lib.hid (HB4.out.ext hE5)
          have HR5 := Lib.hid (show RowH w5 w.heap.size _ l3.row from own_ext HR4.out hE5)
          go_wp2_with fail
          refine ⟨fun _ => hE5, ?_⟩
          apply segsK_op
          go_wp2_with fail
          refine (rHolds_any _ _ _ HI3.out HLR3.out _ _ HR5.out).mono ?_
          rw [HH3.out]
          rintro e w' ⟨rfl, rfl⟩
          go_wp2_with fail
          refine ⟨fun h => (by cases h), ?_⟩
          apply segsK_pure
          · intro W
            simp only [runsT, runsF, rep, pick]
            go_wp2_with fail
            exact ⟨rfl, rfl⟩
          simp only [runsT, runsF, rep, left]
          apply segsK_nil
          go_wp2_with fail
          go_roundg (len - (k + 1))
          case measure => omega
          case rel => exact ⟨k + 1, l3, by go_num, by omega, HB5.out, HR5.out, HI3.out, HZ3'.out, HE5.out, Nat.le_refl _⟩
        --A>
      · obtain rfl : k = len := by omega
        clear hik
        have hdk : decide ((k : Int) < (k : Int)) = false := decide_eq_false (by omega)
        go_wp2_with fail
        refine (awake_any _).mono ?_
        rintro e w9 ⟨rfl, hE9⟩
        go_wp2_with fail
        go_ret
        exact ⟨rfl, below_ext HE.out hE9⟩
end Go.Proofs.Ytlnmnnoibimknaa.Lo1
