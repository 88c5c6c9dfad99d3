/-
  LockAlone: the walk of the law, out of the contracts of package lock.
  At most 60 steps (the law's own guard); no other condition.
-/
import Derived.Test.YtlnmnnoibimknaaLockD
namespace Go.Proofs.Ytlnmnnoibimknaa.Lo1
open Go.RowKit Go.Seg Go.Open Go.Lib Go.Shelf Lk

theorem Holds_at (b : Nat) (l : L) (hi : Inv l) (hl : l.rs.length ≤ 1000000) (id : Int) (v : Bool) (hv : l.holds id = v) (w : World) (h : LockAt w b l) :
    Calls Try.prog 38 #[.pointer (some ⟨b, 0, none⟩), .int .i64 id] w fun e w' => e = .returned (.bool v) ∧ Ext w w' := by rw [← hv]; exact Holds_any b l hi hl id w h
theorem Idle_at (b : Nat) (l : L) (v : Bool) (hv : l.idle = v) (w : World) (h : LockAt w b l) : Calls Try.prog 42 #[.pointer (some ⟨b, 0, none⟩)] w fun e w' => e = .returned (.bool v) ∧ w = w' := by rw [← hv]; exact Idle_any b l w h
theorem Read_at (b : Nat) (l : L) (hi : Inv l) (hl : l.rs.length ≤ 1000000) (id : Int) (v : Bool) (hv : l.mayRead id = v) (l' : L) (hl' : l.read id = l') (w : World) (h : LockAt w b l) :
    Calls Try.prog 32 #[.pointer (some ⟨b, 0, none⟩), .int .i64 id] w fun e w' => e = .returned (.bool v) ∧ LockAt w' b l' ∧ Chg (· = b) w w' := by rw [← hv, ← hl']; exact Read_any b l hi hl id w h
theorem Write_at (b : Nat) (l : L) (hi : Inv l) (hl : l.rs.length ≤ 1000000) (id : Int) (v : Bool) (hv : l.mayWrite id = v) (l' : L) (hl' : l.write id = l') (w : World) (h : LockAt w b l) :
    Calls Try.prog 34 #[.pointer (some ⟨b, 0, none⟩), .int .i64 id] w fun e w' => e = .returned (.bool v) ∧ LockAt w' b l' ∧ Chg (· = b) w w' := by rw [← hv, ← hl']; exact Write_any b l hi hl id w h
theorem Free_at (b : Nat) (l : L) (hi : Inv l) (hl : l.rs.length ≤ 1000000) (id : Int) (v : Bool) (hv : l.holds id = v) (l' : L) (hl' : l.free id = l') (w : World) (h : LockAt w b l) :
    Calls Try.prog 36 #[.pointer (some ⟨b, 0, none⟩), .int .i64 id] w fun e w' => e = .returned (.bool v) ∧ LockAt w' b l' ∧ Chg (· = b) w w' := by rw [← hv, ← hl']; exact Free_any b l hi hl id w h

theorem len_read (l : L) (id : Int) : (l.read id).rs.length ≤ l.rs.length + 1 := by
  unfold L.read
  split
  · simp [length_insI]
  · omega
theorem len_write (l : L) (id : Int) : (l.write id).rs.length ≤ l.rs.length := by
  unfold L.write
  split <;> simp
theorem len_free (l : L) (id : Int) : (l.free id).rs.length ≤ l.rs.length := by
  unfold L.free
  split
  · split
    · simp
    · unfold delI
      simp
      omega
  · omega

/-- Who holds came with one of the first steps. -/
def From (F : Nat → Int × Int) (l : L) (lo hi : Nat) : Prop := ∀ x, l.holds x = true → ∃ j, lo ≤ j ∧ j < hi ∧ (F j).2 = x
theorem From.read {F : Nat → Int × Int} {l : L} {k : Nat} (h : From F l 0 k) : From F (l.read (F k).2) 0 (k + 1) := by
  intro x hx
  rcases (holds_read _ _).1 hx with h1 | ⟨_, h1⟩
  · obtain ⟨j, a, b, c⟩ := h x h1
    exact ⟨j, a, by omega, c⟩
  · exact ⟨k, by omega, by omega, h1.symm⟩
theorem From.write {F : Nat → Int × Int} {l : L} {k : Nat} (h : From F l 0 k) : From F (l.write (F k).2) 0 (k + 1) := by
  intro x hx
  rcases (holds_write _ _).1 hx with h1 | ⟨_, h1⟩
  · obtain ⟨j, a, b, c⟩ := h x h1
    exact ⟨j, a, by omega, c⟩
  · exact ⟨k, by omega, by omega, h1.symm⟩
theorem From.free {F : Nat → Int × Int} {l : L} (hi : Inv l) {k : Nat} (h : From F l 0 k) : From F (l.free (F k).2) 0 (k + 1) := by
  intro x hx
  obtain ⟨h1, _⟩ := (holds_free _ _ hi).1 hx
  obtain ⟨j, a, b, c⟩ := h x h1
  exact ⟨j, a, by omega, c⟩
theorem From.freed {F : Nat → Int × Int} {l : L} (hi : Inv l) {k n : Nat} (h : From F l k n) : From F (l.free (F k).2) (k + 1) n := by
  intro x hx
  obtain ⟨h1, h2⟩ := (holds_free _ _ hi).1 hx
  obtain ⟨j, a, b, c⟩ := h x h1
  refine ⟨j, ?_, b, c⟩
  by_cases e : j = k
  · rw [e] at c; exact absurd c.symm h2
  · omega
theorem From.idle {F : Nat → Int × Int} {l : L} {n : Nat} (h : From F l n n) : l.idle = true := by
  refine idle_iff.2 (fun x => ?_)
  cases hx : l.holds x with
  | false => rfl
  | true =>
    obtain ⟨j, a, b, _⟩ := h x hx
    omega

theorem below_lock {w a c : World} {b : Nat} (h : Below w.heap.size w a) (k : Chg (· = b) a c) (hb : w.heap.size ≤ b) : Below w.heap.size w c := below_chg h k (fun i hi => by rw [hi]; exact hb)
theorem idle_one {x : Int} : L.idle ⟨[], some x⟩ = false := rfl
theorem holds_one {x : Int} : L.holds ⟨[], some x⟩ x = true := by simp [L.holds]
theorem idle_empty : L.idle ⟨[], none⟩ = true := rfl
theorem idle_some {rs : List Int} (h : rs ≠ []) : L.idle ⟨rs, none⟩ = false := by
  cases rs with
  | nil => exact absurd rfl h
  | cons x rs => rfl
theorem not_none {rs : List Int} (h : rs ≠ []) : (((rs.length : Nat) : Int) == 0) = false := by
  cases rs with
  | nil => exact absurd rfl h
  | cons x rs => rw [beq_eq_false_iff_ne]; simp; omega

set_option maxRecDepth 100000 in
set_option maxHeartbeats 8000000 in
theorem alone_walk (a : Option Addr) (len cap : Nat) (b off : Nat) (F : Nat → Int × Int) (w : World) (ha : 0 < len → a = some ⟨b, off, none⟩) (hl : len ≤ maxLen) (hF0 : ∀ i, i < len → 0 ≤ (F i).1)
    (hF : ∀ W, Below w.heap.size w W → ∀ i, i < len → W.cell? ⟨b, off + i * 2, none⟩ = some (.int .u64 (F i).1) ∧ W.cell? ⟨b, off + i * 2 + 1, none⟩ = some (.int .i64 (F i).2)) :
    Calls Try.prog 7 #[.slice a len cap] w fun e w' => e = .returned (.bool true) ∧ Below w.heap.size w w' := by
  have HA := Lib.hid ha
  have HF := Lib.hid hF
  have HF0 := Lib.hid hF0
  clear ha hF hF0
  unfold maxLen at hl
  by_cases h60 : (60 : Int) < (len : Int)
  · go_enter Try.func7, Try.ntmps7
    go_wp2_with fail
    refine (awake_any _).mono ?_
    rintro e w1 ⟨rfl, hE⟩
    go_wp2_with fail
    go_ret
    exact ⟨rfl, hE⟩
  · have h60' : len ≤ 60 := by omega
    have hd60 : decide ((60 : Int) < (len : Int)) = false := decide_eq_false h60
    clear h60
    go_enter Try.func7, Try.ntmps7
    go_wp2_with fail
    refine (New_any _).mono ?_
    rintro e w1 ⟨bk, rfl, hbk, hB, hE⟩
    have HB := Lib.hid hB
    have HE := Lib.hid hE
    clear hB hE
    go_wp2_with fail
    go_loopg [4] len (fun g i wr => ∃ (k : Nat) (l : L), i = .int .i64 k ∧ k ≤ len ∧ LockAt wr bk l ∧ Inv l ∧ l.rs.length ≤ k ∧ From F l 0 k ∧ Below w.heap.size w wr ∧ len - k ≤ g)
    case atStart => exact ⟨0, ⟨[], none⟩, rfl, Nat.zero_le _, HB.out, Inv.nil, by simp, fun x hx => by simp [L.holds] at hx, HE.out, Nat.le_refl _⟩
    case round =>
      obtain ⟨k, l, rfl, hk, hBk, hI, hsz, hFr, hBel, hg⟩ := hrel
      have HB := Lib.hid hBk
      have HI := Lib.hid hI
      have HFr := Lib.hid hFr
      have HE := Lib.hid hBel
      have hl6 : l.rs.length ≤ 1000000 := by omega
      clear hBk hI hBel hFr
      by_cases hik : k < len
      · have HK := Lib.hid (fun W (h : Below w.heap.size w W) => HF.out W h k hik)
        obtain rfl := HA.out (by omega)
        obtain ⟨x0, x1⟩ := HK.out _ HE.out
        have hk0 := HF0.out k hik
        cases hhad : l.holds (F k).2
        all_goals
          have HHad := Lib.hid hhad
          clear hhad
          have hk3 : (F k).1 % 3 = 0 ∨ (F k).1 % 3 = 1 ∨ (F k).1 % 3 = 2 := by omega
        --A<
        · rcases hk3 with hk3 | hk3 | hk3
          · obtain ⟨l3, hl3⟩ : ∃ l3, l.read (F k).2 = l3 := ⟨_, rfl⟩
            have HI3 : Hid (Inv l3) := by rw [← hl3]; exact HI.out.read _
            have HZ3 : Hid (l3.rs.length ≤ l.rs.length + 1) := by rw [← hl3]; exact len_read _ _
            have HL3 : Hid (l3.rs.length ≤ 1000000) := by have := HZ3.out; exact Lib.hid (by omega)
            have HFr3 : Hid (From F l3 0 (k + 1)) := by rw [← hl3]; exact HFr.out.read
            cases hgot : l.mayRead (F k).2
            · have HGt := Lib.hid hgot
              clear hgot
              have HL := Lib.hid hl3
              clear hl3
              go_wp2_with fail
              refine (Holds_at _ _ HI.out hl6 _ _ HHad.out _ HB.out).mono ?_
              rintro e w2 ⟨rfl, hE2⟩
              have HB2 := Lib.hid (HB.out.ext hE2)
              have HE2 := Lib.hid (below_ext HE.out hE2)
              clear hE2 x0 x1
              obtain ⟨x0, x1⟩ := HK.out _ HE2.out
              go_wp2_with fail
              refine (Read_at _ _ HI.out hl6 _ _ HGt.out _ HL.out _ HB2.out).mono ?_
              rintro e w3 ⟨rfl, hB3, hC3⟩
              have H3 := Lib.hid hB3
              have HE3 := Lib.hid (below_lock HE2.out hC3 hbk)
              clear hB3 hC3 x0 x1
              clear HL
              obtain ⟨rs3, wr3⟩ := l3
              cases wr3 with
              | none =>
                by_cases hne : rs3 = []
                · subst hne
                  go_wp2_with fail
                  refine (Writer_any _ _ _ H3.out).mono ?_
                  rintro e w4 ⟨rfl, hE4⟩
                  have H4 := Lib.hid (H3.out.ext hE4)
                  have HE4 := Lib.hid (below_ext HE3.out hE4)
                  clear hE4
                  go_wp2_with fail
                  refine (Idle_at _ _ true idle_empty _ H4.out).mono ?_
                  rintro e w' ⟨rfl, rfl⟩
                  go_wp2_with fail
                  refine (Readers_any _ _ HL3.out _ H4.out).mono ?_
                  rintro e w6 ⟨v6, rfl, hV6, hE6⟩
                  obtain ⟨a6, c6, _, rfl, _⟩ := hV6.openI
                  have H6 := Lib.hid (H4.out.ext hE6)
                  have HE6 := Lib.hid (below_ext HE4.out hE6)
                  clear hE6 hV6
                  go_wp2_with fail
                  go_roundg (len - (k + 1))
                  case measure => omega
                  case rel => exact ⟨k + 1, _, by go_num, by omega, H6.out, HI3.out, Nat.le_trans HZ3.out (by omega), HFr3.out, HE6.out, Nat.le_refl _⟩
                · have hnn := not_none hne
                  have HN := Lib.hid hne
                  clear hne
                  go_wp2_with fail
                  refine (Writer_any _ _ _ H3.out).mono ?_
                  rintro e w4 ⟨rfl, hE4⟩
                  have H4 := Lib.hid (H3.out.ext hE4)
                  have HE4 := Lib.hid (below_ext HE3.out hE4)
                  clear hE4
                  go_wp2_with fail
                  refine (Idle_at _ _ false (idle_some HN.out) _ H4.out).mono ?_
                  rintro e w' ⟨rfl, rfl⟩
                  go_wp2_with fail
                  refine (Readers_any _ _ HL3.out _ H4.out).mono ?_
                  rintro e w6 ⟨v6, rfl, hV6, hE6⟩
                  obtain ⟨a6, c6, _, rfl, _⟩ := hV6.openI
                  have H6 := Lib.hid (H4.out.ext hE6)
                  have HE6 := Lib.hid (below_ext HE4.out hE6)
                  clear hE6 hV6
                  go_wp2_with fail
                  go_roundg (len - (k + 1))
                  case measure => omega
                  case rel => exact ⟨k + 1, _, by go_num, by omega, H6.out, HI3.out, Nat.le_trans HZ3.out (by omega), HFr3.out, HE6.out, Nat.le_refl _⟩
              | some x3 =>
                obtain rfl : rs3 = [] := HI3.out.one rfl
                go_wp2_with fail
                refine (Writer_any _ _ _ H3.out).mono ?_
                rintro e w4 ⟨rfl, hE4⟩
                have H4 := Lib.hid (H3.out.ext hE4)
                have HE4 := Lib.hid (below_ext HE3.out hE4)
                clear hE4
                go_wp2_with fail
                refine (Readers_any _ _ HL3.out _ H4.out).mono ?_
                rintro e w6 ⟨v6, rfl, hV6, hE6⟩
                obtain ⟨a6, c6, _, rfl, _⟩ := hV6.openI
                have H6 := Lib.hid (H4.out.ext hE6)
                have HE6 := Lib.hid (below_ext HE4.out hE6)
                clear hE6 hV6
                go_wp2_with fail
                refine (Holds_at _ _ HI3.out HL3.out _ true holds_one _ H6.out).mono ?_
                rintro e w7 ⟨rfl, hE7⟩
                have H7 := Lib.hid (H6.out.ext hE7)
                have HE7 := Lib.hid (below_ext HE6.out hE7)
                clear hE7
                go_wp2_with fail
                refine (Idle_at _ _ false idle_one _ H7.out).mono ?_
                rintro e w' ⟨rfl, rfl⟩
                go_wp2_with fail
                go_roundg (len - (k + 1))
                case measure => omega
                case rel => exact ⟨k + 1, _, by go_num, by omega, H7.out, HI3.out, Nat.le_trans HZ3.out (by omega), HFr3.out, HE7.out, Nat.le_refl _⟩
            · have HGt := Lib.hid hgot
              clear hgot
              have HG : Hid (l3.holds (F k).2 = true) := by rw [← hl3]; exact (holds_read _ _).2 (.inr ⟨HGt.out, rfl⟩)
              have HL := Lib.hid hl3
              clear hl3
              go_wp2_with fail
              refine (Holds_at _ _ HI.out hl6 _ _ HHad.out _ HB.out).mono ?_
              rintro e w2 ⟨rfl, hE2⟩
              have HB2 := Lib.hid (HB.out.ext hE2)
              have HE2 := Lib.hid (below_ext HE.out hE2)
              clear hE2 x0 x1
              obtain ⟨x0, x1⟩ := HK.out _ HE2.out
              go_wp2_with fail
              refine (Read_at _ _ HI.out hl6 _ _ HGt.out _ HL.out _ HB2.out).mono ?_
              rintro e w3 ⟨rfl, hB3, hC3⟩
              have H3 := Lib.hid hB3
              have HE3 := Lib.hid (below_lock HE2.out hC3 hbk)
              clear hB3 hC3 x0 x1
              clear HL
              obtain ⟨rs3, wr3⟩ := l3
              cases wr3 with
              | none =>
                by_cases hne : rs3 = []
                · subst hne
                  go_wp2_with fail
                  refine (Writer_any _ _ _ H3.out).mono ?_
                  rintro e w4 ⟨rfl, hE4⟩
                  have H4 := Lib.hid (H3.out.ext hE4)
                  have HE4 := Lib.hid (below_ext HE3.out hE4)
                  clear hE4
                  obtain ⟨x0, x1⟩ := HK.out _ HE4.out
                  go_wp2_with fail
                  refine (Holds_at _ _ HI3.out HL3.out _ true HG.out _ H4.out).mono ?_
                  rintro e w5 ⟨rfl, hE5⟩
                  have H5 := Lib.hid (H4.out.ext hE5)
                  have HE5 := Lib.hid (below_ext HE4.out hE5)
                  clear hE5 x0 x1
                  go_wp2_with fail
                  refine (Idle_at _ _ true idle_empty _ H5.out).mono ?_
                  rintro e w' ⟨rfl, rfl⟩
                  go_wp2_with fail
                  refine (Readers_any _ _ HL3.out _ H5.out).mono ?_
                  rintro e w6 ⟨v6, rfl, hV6, hE6⟩
                  obtain ⟨a6, c6, _, rfl, _⟩ := hV6.openI
                  have H6 := Lib.hid (H5.out.ext hE6)
                  have HE6 := Lib.hid (below_ext HE5.out hE6)
                  clear hE6 hV6
                  go_wp2_with fail
                  go_roundg (len - (k + 1))
                  case measure => omega
                  case rel => exact ⟨k + 1, _, by go_num, by omega, H6.out, HI3.out, Nat.le_trans HZ3.out (by omega), HFr3.out, HE6.out, Nat.le_refl _⟩
                · have hnn := not_none hne
                  have HN := Lib.hid hne
                  clear hne
                  go_wp2_with fail
                  refine (Writer_any _ _ _ H3.out).mono ?_
                  rintro e w4 ⟨rfl, hE4⟩
                  have H4 := Lib.hid (H3.out.ext hE4)
                  have HE4 := Lib.hid (below_ext HE3.out hE4)
                  clear hE4
                  obtain ⟨x0, x1⟩ := HK.out _ HE4.out
                  go_wp2_with fail
                  refine (Holds_at _ _ HI3.out HL3.out _ true HG.out _ H4.out).mono ?_
                  rintro e w5 ⟨rfl, hE5⟩
                  have H5 := Lib.hid (H4.out.ext hE5)
                  have HE5 := Lib.hid (below_ext HE4.out hE5)
                  clear hE5 x0 x1
                  go_wp2_with fail
                  refine (Idle_at _ _ false (idle_some HN.out) _ H5.out).mono ?_
                  rintro e w' ⟨rfl, rfl⟩
                  go_wp2_with fail
                  refine (Readers_any _ _ HL3.out _ H5.out).mono ?_
                  rintro e w6 ⟨v6, rfl, hV6, hE6⟩
                  obtain ⟨a6, c6, _, rfl, _⟩ := hV6.openI
                  have H6 := Lib.hid (H5.out.ext hE6)
                  have HE6 := Lib.hid (below_ext HE5.out hE6)
                  clear hE6 hV6
                  go_wp2_with fail
                  go_roundg (len - (k + 1))
                  case measure => omega
                  case rel => exact ⟨k + 1, _, by go_num, by omega, H6.out, HI3.out, Nat.le_trans HZ3.out (by omega), HFr3.out, HE6.out, Nat.le_refl _⟩
              | some x3 =>
                obtain rfl : rs3 = [] := HI3.out.one rfl
                go_wp2_with fail
                refine (Writer_any _ _ _ H3.out).mono ?_
                rintro e w4 ⟨rfl, hE4⟩
                have H4 := Lib.hid (H3.out.ext hE4)
                have HE4 := Lib.hid (below_ext HE3.out hE4)
                clear hE4
                go_wp2_with fail
                refine (Readers_any _ _ HL3.out _ H4.out).mono ?_
                rintro e w6 ⟨v6, rfl, hV6, hE6⟩
                obtain ⟨a6, c6, _, rfl, _⟩ := hV6.openI
                have H6 := Lib.hid (H4.out.ext hE6)
                have HE6 := Lib.hid (below_ext HE4.out hE6)
                clear hE6 hV6
                go_wp2_with fail
                refine (Holds_at _ _ HI3.out HL3.out _ true holds_one _ H6.out).mono ?_
                rintro e w7 ⟨rfl, hE7⟩
                have H7 := Lib.hid (H6.out.ext hE7)
                have HE7 := Lib.hid (below_ext HE6.out hE7)
                clear hE7
                obtain ⟨x0, x1⟩ := HK.out _ HE7.out
                go_wp2_with fail
                refine (Holds_at _ _ HI3.out HL3.out _ true HG.out _ H7.out).mono ?_
                rintro e w8 ⟨rfl, hE8⟩
                have H8 := Lib.hid (H7.out.ext hE8)
                have HE8 := Lib.hid (below_ext HE7.out hE8)
                clear hE8 x0 x1
                go_wp2_with fail
                refine (Idle_at _ _ false idle_one _ H8.out).mono ?_
                rintro e w' ⟨rfl, rfl⟩
                go_wp2_with fail
                go_roundg (len - (k + 1))
                case measure => omega
                case rel => exact ⟨k + 1, _, by go_num, by omega, H8.out, HI3.out, Nat.le_trans HZ3.out (by omega), HFr3.out, HE8.out, Nat.le_refl _⟩
          · obtain ⟨l3, hl3⟩ : ∃ l3, l.write (F k).2 = l3 := ⟨_, rfl⟩
            have HI3 : Hid (Inv l3) := by rw [← hl3]; exact HI.out.write _
            have HZ3 : Hid (l3.rs.length ≤ l.rs.length + 1) := by rw [← hl3]; exact Nat.le_succ_of_le (len_write _ _)
            have HL3 : Hid (l3.rs.length ≤ 1000000) := by have := HZ3.out; exact Lib.hid (by omega)
            have HFr3 : Hid (From F l3 0 (k + 1)) := by rw [← hl3]; exact HFr.out.write
            cases hgot : l.mayWrite (F k).2
            · have HGt := Lib.hid hgot
              clear hgot
              have HL := Lib.hid hl3
              clear hl3
              go_wp2_with fail
              refine (Holds_at _ _ HI.out hl6 _ _ HHad.out _ HB.out).mono ?_
              rintro e w2 ⟨rfl, hE2⟩
              have HB2 := Lib.hid (HB.out.ext hE2)
              have HE2 := Lib.hid (below_ext HE.out hE2)
              clear hE2 x0 x1
              obtain ⟨x0, x1⟩ := HK.out _ HE2.out
              go_wp2_with fail
              refine (Write_at _ _ HI.out hl6 _ _ HGt.out _ HL.out _ HB2.out).mono ?_
              rintro e w3 ⟨rfl, hB3, hC3⟩
              have H3 := Lib.hid hB3
              have HE3 := Lib.hid (below_lock HE2.out hC3 hbk)
              clear hB3 hC3 x0 x1
              clear HL
              obtain ⟨rs3, wr3⟩ := l3
              cases wr3 with
              | none =>
                by_cases hne : rs3 = []
                · subst hne
                  go_wp2_with fail
                  refine (Writer_any _ _ _ H3.out).mono ?_
                  rintro e w4 ⟨rfl, hE4⟩
                  have H4 := Lib.hid (H3.out.ext hE4)
                  have HE4 := Lib.hid (below_ext HE3.out hE4)
                  clear hE4
                  go_wp2_with fail
                  refine (Idle_at _ _ true idle_empty _ H4.out).mono ?_
                  rintro e w' ⟨rfl, rfl⟩
                  go_wp2_with fail
                  refine (Readers_any _ _ HL3.out _ H4.out).mono ?_
                  rintro e w6 ⟨v6, rfl, hV6, hE6⟩
                  obtain ⟨a6, c6, _, rfl, _⟩ := hV6.openI
                  have H6 := Lib.hid (H4.out.ext hE6)
                  have HE6 := Lib.hid (below_ext HE4.out hE6)
                  clear hE6 hV6
                  go_wp2_with fail
                  go_roundg (len - (k + 1))
                  case measure => omega
                  case rel => exact ⟨k + 1, _, by go_num, by omega, H6.out, HI3.out, Nat.le_trans HZ3.out (by omega), HFr3.out, HE6.out, Nat.le_refl _⟩
                · have hnn := not_none hne
                  have HN := Lib.hid hne
                  clear hne
                  go_wp2_with fail
                  refine (Writer_any _ _ _ H3.out).mono ?_
                  rintro e w4 ⟨rfl, hE4⟩
                  have H4 := Lib.hid (H3.out.ext hE4)
                  have HE4 := Lib.hid (below_ext HE3.out hE4)
                  clear hE4
                  go_wp2_with fail
                  refine (Idle_at _ _ false (idle_some HN.out) _ H4.out).mono ?_
                  rintro e w' ⟨rfl, rfl⟩
                  go_wp2_with fail
                  refine (Readers_any _ _ HL3.out _ H4.out).mono ?_
                  rintro e w6 ⟨v6, rfl, hV6, hE6⟩
                  obtain ⟨a6, c6, _, rfl, _⟩ := hV6.openI
                  have H6 := Lib.hid (H4.out.ext hE6)
                  have HE6 := Lib.hid (below_ext HE4.out hE6)
                  clear hE6 hV6
                  go_wp2_with fail
                  go_roundg (len - (k + 1))
                  case measure => omega
                  case rel => exact ⟨k + 1, _, by go_num, by omega, H6.out, HI3.out, Nat.le_trans HZ3.out (by omega), HFr3.out, HE6.out, Nat.le_refl _⟩
              | some x3 =>
                obtain rfl : rs3 = [] := HI3.out.one rfl
                go_wp2_with fail
                refine (Writer_any _ _ _ H3.out).mono ?_
                rintro e w4 ⟨rfl, hE4⟩
                have H4 := Lib.hid (H3.out.ext hE4)
                have HE4 := Lib.hid (below_ext HE3.out hE4)
                clear hE4
                go_wp2_with fail
                refine (Readers_any _ _ HL3.out _ H4.out).mono ?_
                rintro e w6 ⟨v6, rfl, hV6, hE6⟩
                obtain ⟨a6, c6, _, rfl, _⟩ := hV6.openI
                have H6 := Lib.hid (H4.out.ext hE6)
                have HE6 := Lib.hid (below_ext HE4.out hE6)
                clear hE6 hV6
                go_wp2_with fail
                refine (Holds_at _ _ HI3.out HL3.out _ true holds_one _ H6.out).mono ?_
                rintro e w7 ⟨rfl, hE7⟩
                have H7 := Lib.hid (H6.out.ext hE7)
                have HE7 := Lib.hid (below_ext HE6.out hE7)
                clear hE7
                go_wp2_with fail
                refine (Idle_at _ _ false idle_one _ H7.out).mono ?_
                rintro e w' ⟨rfl, rfl⟩
                go_wp2_with fail
                go_roundg (len - (k + 1))
                case measure => omega
                case rel => exact ⟨k + 1, _, by go_num, by omega, H7.out, HI3.out, Nat.le_trans HZ3.out (by omega), HFr3.out, HE7.out, Nat.le_refl _⟩
            · have HGt := Lib.hid hgot
              clear hgot
              have HG : Hid (l3.holds (F k).2 = true) := by rw [← hl3]; exact (holds_write _ _).2 (.inr ⟨HGt.out, rfl⟩)
              have HL := Lib.hid hl3
              clear hl3
              go_wp2_with fail
              refine (Holds_at _ _ HI.out hl6 _ _ HHad.out _ HB.out).mono ?_
              rintro e w2 ⟨rfl, hE2⟩
              have HB2 := Lib.hid (HB.out.ext hE2)
              have HE2 := Lib.hid (below_ext HE.out hE2)
              clear hE2 x0 x1
              obtain ⟨x0, x1⟩ := HK.out _ HE2.out
              go_wp2_with fail
              refine (Write_at _ _ HI.out hl6 _ _ HGt.out _ HL.out _ HB2.out).mono ?_
              rintro e w3 ⟨rfl, hB3, hC3⟩
              have H3 := Lib.hid hB3
              have HE3 := Lib.hid (below_lock HE2.out hC3 hbk)
              clear hB3 hC3 x0 x1
              clear HL
              obtain ⟨rs3, wr3⟩ := l3
              cases wr3 with
              | none =>
                by_cases hne : rs3 = []
                · subst hne
                  go_wp2_with fail
                  refine (Writer_any _ _ _ H3.out).mono ?_
                  rintro e w4 ⟨rfl, hE4⟩
                  have H4 := Lib.hid (H3.out.ext hE4)
                  have HE4 := Lib.hid (below_ext HE3.out hE4)
                  clear hE4
                  obtain ⟨x0, x1⟩ := HK.out _ HE4.out
                  go_wp2_with fail
                  refine (Holds_at _ _ HI3.out HL3.out _ true HG.out _ H4.out).mono ?_
                  rintro e w5 ⟨rfl, hE5⟩
                  have H5 := Lib.hid (H4.out.ext hE5)
                  have HE5 := Lib.hid (below_ext HE4.out hE5)
                  clear hE5 x0 x1
                  go_wp2_with fail
                  refine (Idle_at _ _ true idle_empty _ H5.out).mono ?_
                  rintro e w' ⟨rfl, rfl⟩
                  go_wp2_with fail
                  refine (Readers_any _ _ HL3.out _ H5.out).mono ?_
                  rintro e w6 ⟨v6, rfl, hV6, hE6⟩
                  obtain ⟨a6, c6, _, rfl, _⟩ := hV6.openI
                  have H6 := Lib.hid (H5.out.ext hE6)
                  have HE6 := Lib.hid (below_ext HE5.out hE6)
                  clear hE6 hV6
                  go_wp2_with fail
                  go_roundg (len - (k + 1))
                  case measure => omega
                  case rel => exact ⟨k + 1, _, by go_num, by omega, H6.out, HI3.out, Nat.le_trans HZ3.out (by omega), HFr3.out, HE6.out, Nat.le_refl _⟩
                · have hnn := not_none hne
                  have HN := Lib.hid hne
                  clear hne
                  go_wp2_with fail
                  refine (Writer_any _ _ _ H3.out).mono ?_
                  rintro e w4 ⟨rfl, hE4⟩
                  have H4 := Lib.hid (H3.out.ext hE4)
                  have HE4 := Lib.hid (below_ext HE3.out hE4)
                  clear hE4
                  obtain ⟨x0, x1⟩ := HK.out _ HE4.out
                  go_wp2_with fail
                  refine (Holds_at _ _ HI3.out HL3.out _ true HG.out _ H4.out).mono ?_
                  rintro e w5 ⟨rfl, hE5⟩
                  have H5 := Lib.hid (H4.out.ext hE5)
                  have HE5 := Lib.hid (below_ext HE4.out hE5)
                  clear hE5 x0 x1
                  go_wp2_with fail
                  refine (Idle_at _ _ false (idle_some HN.out) _ H5.out).mono ?_
                  rintro e w' ⟨rfl, rfl⟩
                  go_wp2_with fail
                  refine (Readers_any _ _ HL3.out _ H5.out).mono ?_
                  rintro e w6 ⟨v6, rfl, hV6, hE6⟩
                  obtain ⟨a6, c6, _, rfl, _⟩ := hV6.openI
                  have H6 := Lib.hid (H5.out.ext hE6)
                  have HE6 := Lib.hid (below_ext HE5.out hE6)
                  clear hE6 hV6
                  go_wp2_with fail
                  go_roundg (len - (k + 1))
                  case measure => omega
                  case rel => exact ⟨k + 1, _, by go_num, by omega, H6.out, HI3.out, Nat.le_trans HZ3.out (by omega), HFr3.out, HE6.out, Nat.le_refl _⟩
              | some x3 =>
                obtain rfl : rs3 = [] := HI3.out.one rfl
                go_wp2_with fail
                refine (Writer_any _ _ _ H3.out).mono ?_
                rintro e w4 ⟨rfl, hE4⟩
                have H4 := Lib.hid (H3.out.ext hE4)
                have HE4 := Lib.hid (below_ext HE3.out hE4)
                clear hE4
                go_wp2_with fail
                refine (Readers_any _ _ HL3.out _ H4.out).mono ?_
                rintro e w6 ⟨v6, rfl, hV6, hE6⟩
                obtain ⟨a6, c6, _, rfl, _⟩ := hV6.openI
                have H6 := Lib.hid (H4.out.ext hE6)
                have HE6 := Lib.hid (below_ext HE4.out hE6)
                clear hE6 hV6
                go_wp2_with fail
                refine (Holds_at _ _ HI3.out HL3.out _ true holds_one _ H6.out).mono ?_
                rintro e w7 ⟨rfl, hE7⟩
                have H7 := Lib.hid (H6.out.ext hE7)
                have HE7 := Lib.hid (below_ext HE6.out hE7)
                clear hE7
                obtain ⟨x0, x1⟩ := HK.out _ HE7.out
                go_wp2_with fail
                refine (Holds_at _ _ HI3.out HL3.out _ true HG.out _ H7.out).mono ?_
                rintro e w8 ⟨rfl, hE8⟩
                have H8 := Lib.hid (H7.out.ext hE8)
                have HE8 := Lib.hid (below_ext HE7.out hE8)
                clear hE8 x0 x1
                go_wp2_with fail
                refine (Idle_at _ _ false idle_one _ H8.out).mono ?_
                rintro e w' ⟨rfl, rfl⟩
                go_wp2_with fail
                go_roundg (len - (k + 1))
                case measure => omega
                case rel => exact ⟨k + 1, _, by go_num, by omega, H8.out, HI3.out, Nat.le_trans HZ3.out (by omega), HFr3.out, HE8.out, Nat.le_refl _⟩
          · obtain ⟨l3, hl3⟩ : ∃ l3, l.free (F k).2 = l3 := ⟨_, rfl⟩
            have HI3 : Hid (Inv l3) := by rw [← hl3]; exact HI.out.free _
            have HZ3 : Hid (l3.rs.length ≤ l.rs.length + 1) := by rw [← hl3]; exact Nat.le_succ_of_le (len_free _ _)
            have HL3 : Hid (l3.rs.length ≤ 1000000) := by have := HZ3.out; exact Lib.hid (by omega)
            have HFr3 : Hid (From F l3 0 (k + 1)) := by rw [← hl3]; exact HFr.out.free HI.out
            have HG : Hid (l3.holds (F k).2 = false) := by
              rw [← hl3]
              cases hx : (l.free (F k).2).holds (F k).2 with
              | false => exact rfl
              | true => exact absurd rfl ((holds_free _ _ HI.out).1 hx).2
            have HL := Lib.hid hl3
            clear hl3
            go_wp2_with fail
            refine (Holds_at _ _ HI.out hl6 _ _ HHad.out _ HB.out).mono ?_
            rintro e w2 ⟨rfl, hE2⟩
            have HB2 := Lib.hid (HB.out.ext hE2)
            have HE2 := Lib.hid (below_ext HE.out hE2)
            clear hE2 x0 x1
            obtain ⟨x0, x1⟩ := HK.out _ HE2.out
            go_wp2_with fail
            refine (Free_at _ _ HI.out hl6 _ _ HHad.out _ HL.out _ HB2.out).mono ?_
            rintro e w3 ⟨rfl, hB3, hC3⟩
            have H3 := Lib.hid hB3
            have HE3 := Lib.hid (below_lock HE2.out hC3 hbk)
            clear hB3 hC3 x0 x1
            obtain ⟨x0, x1⟩ := HK.out _ HE3.out
            go_wp2_with fail
            refine (Holds_at _ _ HI3.out HL3.out _ false HG.out _ H3.out).mono ?_
            rintro e w3' ⟨rfl, hE3⟩
            have H3' := Lib.hid (H3.out.ext hE3)
            have HE3' := Lib.hid (below_ext HE3.out hE3)
            clear hE3 x0 x1 H3 HE3
            obtain ⟨w3, hw3⟩ : ∃ w3, w3 = w3' := ⟨_, rfl⟩
            subst hw3
            have H3 := H3'
            have HE3 := HE3'
            clear HL
            obtain ⟨rs3, wr3⟩ := l3
            cases wr3 with
            | none =>
              by_cases hne : rs3 = []
              · subst hne
                go_wp2_with fail
                refine (Writer_any _ _ _ H3.out).mono ?_
                rintro e w4 ⟨rfl, hE4⟩
                have H4 := Lib.hid (H3.out.ext hE4)
                have HE4 := Lib.hid (below_ext HE3.out hE4)
                clear hE4
                go_wp2_with fail
                refine (Idle_at _ _ true idle_empty _ H4.out).mono ?_
                rintro e w' ⟨rfl, rfl⟩
                go_wp2_with fail
                refine (Readers_any _ _ HL3.out _ H4.out).mono ?_
                rintro e w6 ⟨v6, rfl, hV6, hE6⟩
                obtain ⟨a6, c6, _, rfl, _⟩ := hV6.openI
                have H6 := Lib.hid (H4.out.ext hE6)
                have HE6 := Lib.hid (below_ext HE4.out hE6)
                clear hE6 hV6
                go_wp2_with fail
                go_roundg (len - (k + 1))
                case measure => omega
                case rel => exact ⟨k + 1, _, by go_num, by omega, H6.out, HI3.out, Nat.le_trans HZ3.out (by omega), HFr3.out, HE6.out, Nat.le_refl _⟩
              · have hnn := not_none hne
                have HN := Lib.hid hne
                clear hne
                go_wp2_with fail
                refine (Writer_any _ _ _ H3.out).mono ?_
                rintro e w4 ⟨rfl, hE4⟩
                have H4 := Lib.hid (H3.out.ext hE4)
                have HE4 := Lib.hid (below_ext HE3.out hE4)
                clear hE4
                go_wp2_with fail
                refine (Idle_at _ _ false (idle_some HN.out) _ H4.out).mono ?_
                rintro e w' ⟨rfl, rfl⟩
                go_wp2_with fail
                refine (Readers_any _ _ HL3.out _ H4.out).mono ?_
                rintro e w6 ⟨v6, rfl, hV6, hE6⟩
                obtain ⟨a6, c6, _, rfl, _⟩ := hV6.openI
                have H6 := Lib.hid (H4.out.ext hE6)
                have HE6 := Lib.hid (below_ext HE4.out hE6)
                clear hE6 hV6
                go_wp2_with fail
                go_roundg (len - (k + 1))
                case measure => omega
                case rel => exact ⟨k + 1, _, by go_num, by omega, H6.out, HI3.out, Nat.le_trans HZ3.out (by omega), HFr3.out, HE6.out, Nat.le_refl _⟩
            | some x3 =>
              obtain rfl : rs3 = [] := HI3.out.one rfl
              go_wp2_with fail
              refine (Writer_any _ _ _ H3.out).mono ?_
              rintro e w4 ⟨rfl, hE4⟩
              have H4 := Lib.hid (H3.out.ext hE4)
              have HE4 := Lib.hid (below_ext HE3.out hE4)
              clear hE4
              go_wp2_with fail
              refine (Readers_any _ _ HL3.out _ H4.out).mono ?_
              rintro e w6 ⟨v6, rfl, hV6, hE6⟩
              obtain ⟨a6, c6, _, rfl, _⟩ := hV6.openI
              have H6 := Lib.hid (H4.out.ext hE6)
              have HE6 := Lib.hid (below_ext HE4.out hE6)
              clear hE6 hV6
              go_wp2_with fail
              refine (Holds_at _ _ HI3.out HL3.out _ true holds_one _ H6.out).mono ?_
              rintro e w7 ⟨rfl, hE7⟩
              have H7 := Lib.hid (H6.out.ext hE7)
              have HE7 := Lib.hid (below_ext HE6.out hE7)
              clear hE7
              go_wp2_with fail
              refine (Idle_at _ _ false idle_one _ H7.out).mono ?_
              rintro e w' ⟨rfl, rfl⟩
              go_wp2_with fail
              go_roundg (len - (k + 1))
              case measure => omega
              case rel => exact ⟨k + 1, _, by go_num, by omega, H7.out, HI3.out, Nat.le_trans HZ3.out (by omega), HFr3.out, HE7.out, Nat.le_refl _⟩
        · rcases hk3 with hk3 | hk3 | hk3
          · obtain ⟨l3, hl3⟩ : ∃ l3, l.read (F k).2 = l3 := ⟨_, rfl⟩
            have HI3 : Hid (Inv l3) := by rw [← hl3]; exact HI.out.read _
            have HZ3 : Hid (l3.rs.length ≤ l.rs.length + 1) := by rw [← hl3]; exact len_read _ _
            have HL3 : Hid (l3.rs.length ≤ 1000000) := by have := HZ3.out; exact Lib.hid (by omega)
            have HFr3 : Hid (From F l3 0 (k + 1)) := by rw [← hl3]; exact HFr.out.read
            have hgot : l.mayRead (F k).2 = false := by cases hm : l.mayRead (F k).2 with
              | false => rfl
              | true => exact absurd (mayRead_not hm) (by rw [HHad.out]; simp)
            have HGt := Lib.hid hgot
            clear hgot
            have HL := Lib.hid hl3
            clear hl3
            go_wp2_with fail
            refine (Holds_at _ _ HI.out hl6 _ _ HHad.out _ HB.out).mono ?_
            rintro e w2 ⟨rfl, hE2⟩
            have HB2 := Lib.hid (HB.out.ext hE2)
            have HE2 := Lib.hid (below_ext HE.out hE2)
            clear hE2 x0 x1
            obtain ⟨x0, x1⟩ := HK.out _ HE2.out
            go_wp2_with fail
            refine (Read_at _ _ HI.out hl6 _ _ HGt.out _ HL.out _ HB2.out).mono ?_
            rintro e w3 ⟨rfl, hB3, hC3⟩
            have H3 := Lib.hid hB3
            have HE3 := Lib.hid (below_lock HE2.out hC3 hbk)
            clear hB3 hC3 x0 x1
            clear HL
            obtain ⟨rs3, wr3⟩ := l3
            cases wr3 with
            | none =>
              by_cases hne : rs3 = []
              · subst hne
                go_wp2_with fail
                refine (Writer_any _ _ _ H3.out).mono ?_
                rintro e w4 ⟨rfl, hE4⟩
                have H4 := Lib.hid (H3.out.ext hE4)
                have HE4 := Lib.hid (below_ext HE3.out hE4)
                clear hE4
                go_wp2_with fail
                refine (Idle_at _ _ true idle_empty _ H4.out).mono ?_
                rintro e w' ⟨rfl, rfl⟩
                go_wp2_with fail
                refine (Readers_any _ _ HL3.out _ H4.out).mono ?_
                rintro e w6 ⟨v6, rfl, hV6, hE6⟩
                obtain ⟨a6, c6, _, rfl, _⟩ := hV6.openI
                have H6 := Lib.hid (H4.out.ext hE6)
                have HE6 := Lib.hid (below_ext HE4.out hE6)
                clear hE6 hV6
                go_wp2_with fail
                go_roundg (len - (k + 1))
                case measure => omega
                case rel => exact ⟨k + 1, _, by go_num, by omega, H6.out, HI3.out, Nat.le_trans HZ3.out (by omega), HFr3.out, HE6.out, Nat.le_refl _⟩
              · have hnn := not_none hne
                have HN := Lib.hid hne
                clear hne
                go_wp2_with fail
                refine (Writer_any _ _ _ H3.out).mono ?_
                rintro e w4 ⟨rfl, hE4⟩
                have H4 := Lib.hid (H3.out.ext hE4)
                have HE4 := Lib.hid (below_ext HE3.out hE4)
                clear hE4
                go_wp2_with fail
                refine (Idle_at _ _ false (idle_some HN.out) _ H4.out).mono ?_
                rintro e w' ⟨rfl, rfl⟩
                go_wp2_with fail
                refine (Readers_any _ _ HL3.out _ H4.out).mono ?_
                rintro e w6 ⟨v6, rfl, hV6, hE6⟩
                obtain ⟨a6, c6, _, rfl, _⟩ := hV6.openI
                have H6 := Lib.hid (H4.out.ext hE6)
                have HE6 := Lib.hid (below_ext HE4.out hE6)
                clear hE6 hV6
                go_wp2_with fail
                go_roundg (len - (k + 1))
                case measure => omega
                case rel => exact ⟨k + 1, _, by go_num, by omega, H6.out, HI3.out, Nat.le_trans HZ3.out (by omega), HFr3.out, HE6.out, Nat.le_refl _⟩
            | some x3 =>
              obtain rfl : rs3 = [] := HI3.out.one rfl
              go_wp2_with fail
              refine (Writer_any _ _ _ H3.out).mono ?_
              rintro e w4 ⟨rfl, hE4⟩
              have H4 := Lib.hid (H3.out.ext hE4)
              have HE4 := Lib.hid (below_ext HE3.out hE4)
              clear hE4
              go_wp2_with fail
              refine (Readers_any _ _ HL3.out _ H4.out).mono ?_
              rintro e w6 ⟨v6, rfl, hV6, hE6⟩
              obtain ⟨a6, c6, _, rfl, _⟩ := hV6.openI
              have H6 := Lib.hid (H4.out.ext hE6)
              have HE6 := Lib.hid (below_ext HE4.out hE6)
              clear hE6 hV6
              go_wp2_with fail
              refine (Holds_at _ _ HI3.out HL3.out _ true holds_one _ H6.out).mono ?_
              rintro e w7 ⟨rfl, hE7⟩
              have H7 := Lib.hid (H6.out.ext hE7)
              have HE7 := Lib.hid (below_ext HE6.out hE7)
              clear hE7
              go_wp2_with fail
              refine (Idle_at _ _ false idle_one _ H7.out).mono ?_
              rintro e w' ⟨rfl, rfl⟩
              go_wp2_with fail
              go_roundg (len - (k + 1))
              case measure => omega
              case rel => exact ⟨k + 1, _, by go_num, by omega, H7.out, HI3.out, Nat.le_trans HZ3.out (by omega), HFr3.out, HE7.out, Nat.le_refl _⟩
          · obtain ⟨l3, hl3⟩ : ∃ l3, l.write (F k).2 = l3 := ⟨_, rfl⟩
            have HI3 : Hid (Inv l3) := by rw [← hl3]; exact HI.out.write _
            have HZ3 : Hid (l3.rs.length ≤ l.rs.length + 1) := by rw [← hl3]; exact Nat.le_succ_of_le (len_write _ _)
            have HL3 : Hid (l3.rs.length ≤ 1000000) := by have := HZ3.out; exact Lib.hid (by omega)
            have HFr3 : Hid (From F l3 0 (k + 1)) := by rw [← hl3]; exact HFr.out.write
            have hgot : l.mayWrite (F k).2 = false := by cases hm : l.mayWrite (F k).2 with
              | false => rfl
              | true => exact absurd (mayWrite_not hm) (by rw [HHad.out]; simp)
            have HGt := Lib.hid hgot
            clear hgot
            have HL := Lib.hid hl3
            clear hl3
            go_wp2_with fail
            refine (Holds_at _ _ HI.out hl6 _ _ HHad.out _ HB.out).mono ?_
            rintro e w2 ⟨rfl, hE2⟩
            have HB2 := Lib.hid (HB.out.ext hE2)
            have HE2 := Lib.hid (below_ext HE.out hE2)
            clear hE2 x0 x1
            obtain ⟨x0, x1⟩ := HK.out _ HE2.out
            go_wp2_with fail
            refine (Write_at _ _ HI.out hl6 _ _ HGt.out _ HL.out _ HB2.out).mono ?_
            rintro e w3 ⟨rfl, hB3, hC3⟩
            have H3 := Lib.hid hB3
            have HE3 := Lib.hid (below_lock HE2.out hC3 hbk)
            clear hB3 hC3 x0 x1
            clear HL
            obtain ⟨rs3, wr3⟩ := l3
            cases wr3 with
            | none =>
              by_cases hne : rs3 = []
              · subst hne
                go_wp2_with fail
                refine (Writer_any _ _ _ H3.out).mono ?_
                rintro e w4 ⟨rfl, hE4⟩
                have H4 := Lib.hid (H3.out.ext hE4)
                have HE4 := Lib.hid (below_ext HE3.out hE4)
                clear hE4
                go_wp2_with fail
                refine (Idle_at _ _ true idle_empty _ H4.out).mono ?_
                rintro e w' ⟨rfl, rfl⟩
                go_wp2_with fail
                refine (Readers_any _ _ HL3.out _ H4.out).mono ?_
                rintro e w6 ⟨v6, rfl, hV6, hE6⟩
                obtain ⟨a6, c6, _, rfl, _⟩ := hV6.openI
                have H6 := Lib.hid (H4.out.ext hE6)
                have HE6 := Lib.hid (below_ext HE4.out hE6)
                clear hE6 hV6
                go_wp2_with fail
                go_roundg (len - (k + 1))
                case measure => omega
                case rel => exact ⟨k + 1, _, by go_num, by omega, H6.out, HI3.out, Nat.le_trans HZ3.out (by omega), HFr3.out, HE6.out, Nat.le_refl _⟩
              · have hnn := not_none hne
                have HN := Lib.hid hne
                clear hne
                go_wp2_with fail
                refine (Writer_any _ _ _ H3.out).mono ?_
                rintro e w4 ⟨rfl, hE4⟩
                have H4 := Lib.hid (H3.out.ext hE4)
                have HE4 := Lib.hid (below_ext HE3.out hE4)
                clear hE4
                go_wp2_with fail
                refine (Idle_at _ _ false (idle_some HN.out) _ H4.out).mono ?_
                rintro e w' ⟨rfl, rfl⟩
                go_wp2_with fail
                refine (Readers_any _ _ HL3.out _ H4.out).mono ?_
                rintro e w6 ⟨v6, rfl, hV6, hE6⟩
                obtain ⟨a6, c6, _, rfl, _⟩ := hV6.openI
                have H6 := Lib.hid (H4.out.ext hE6)
                have HE6 := Lib.hid (below_ext HE4.out hE6)
                clear hE6 hV6
                go_wp2_with fail
                go_roundg (len - (k + 1))
                case measure => omega
                case rel => exact ⟨k + 1, _, by go_num, by omega, H6.out, HI3.out, Nat.le_trans HZ3.out (by omega), HFr3.out, HE6.out, Nat.le_refl _⟩
            | some x3 =>
              obtain rfl : rs3 = [] := HI3.out.one rfl
              go_wp2_with fail
              refine (Writer_any _ _ _ H3.out).mono ?_
              rintro e w4 ⟨rfl, hE4⟩
              have H4 := Lib.hid (H3.out.ext hE4)
              have HE4 := Lib.hid (below_ext HE3.out hE4)
              clear hE4
              go_wp2_with fail
              refine (Readers_any _ _ HL3.out _ H4.out).mono ?_
              rintro e w6 ⟨v6, rfl, hV6, hE6⟩
              obtain ⟨a6, c6, _, rfl, _⟩ := hV6.openI
              have H6 := Lib.hid (H4.out.ext hE6)
              have HE6 := Lib.hid (below_ext HE4.out hE6)
              clear hE6 hV6
              go_wp2_with fail
              refine (Holds_at _ _ HI3.out HL3.out _ true holds_one _ H6.out).mono ?_
              rintro e w7 ⟨rfl, hE7⟩
              have H7 := Lib.hid (H6.out.ext hE7)
              have HE7 := Lib.hid (below_ext HE6.out hE7)
              clear hE7
              go_wp2_with fail
              refine (Idle_at _ _ false idle_one _ H7.out).mono ?_
              rintro e w' ⟨rfl, rfl⟩
              go_wp2_with fail
              go_roundg (len - (k + 1))
              case measure => omega
              case rel => exact ⟨k + 1, _, by go_num, by omega, H7.out, HI3.out, Nat.le_trans HZ3.out (by omega), HFr3.out, HE7.out, Nat.le_refl _⟩
          · obtain ⟨l3, hl3⟩ : ∃ l3, l.free (F k).2 = l3 := ⟨_, rfl⟩
            have HI3 : Hid (Inv l3) := by rw [← hl3]; exact HI.out.free _
            have HZ3 : Hid (l3.rs.length ≤ l.rs.length + 1) := by rw [← hl3]; exact Nat.le_succ_of_le (len_free _ _)
            have HL3 : Hid (l3.rs.length ≤ 1000000) := by have := HZ3.out; exact Lib.hid (by omega)
            have HFr3 : Hid (From F l3 0 (k + 1)) := by rw [← hl3]; exact HFr.out.free HI.out
            have HG : Hid (l3.holds (F k).2 = false) := by
              rw [← hl3]
              cases hx : (l.free (F k).2).holds (F k).2 with
              | false => exact rfl
              | true => exact absurd rfl ((holds_free _ _ HI.out).1 hx).2
            have HL := Lib.hid hl3
            clear hl3
            go_wp2_with fail
            refine (Holds_at _ _ HI.out hl6 _ _ HHad.out _ HB.out).mono ?_
            rintro e w2 ⟨rfl, hE2⟩
            have HB2 := Lib.hid (HB.out.ext hE2)
            have HE2 := Lib.hid (below_ext HE.out hE2)
            clear hE2 x0 x1
            obtain ⟨x0, x1⟩ := HK.out _ HE2.out
            go_wp2_with fail
            refine (Free_at _ _ HI.out hl6 _ _ HHad.out _ HL.out _ HB2.out).mono ?_
            rintro e w3 ⟨rfl, hB3, hC3⟩
            have H3 := Lib.hid hB3
            have HE3 := Lib.hid (below_lock HE2.out hC3 hbk)
            clear hB3 hC3 x0 x1
            obtain ⟨x0, x1⟩ := HK.out _ HE3.out
            go_wp2_with fail
            refine (Holds_at _ _ HI3.out HL3.out _ false HG.out _ H3.out).mono ?_
            rintro e w3' ⟨rfl, hE3⟩
            have H3' := Lib.hid (H3.out.ext hE3)
            have HE3' := Lib.hid (below_ext HE3.out hE3)
            clear hE3 x0 x1 H3 HE3
            obtain ⟨w3, hw3⟩ : ∃ w3, w3 = w3' := ⟨_, rfl⟩
            subst hw3
            have H3 := H3'
            have HE3 := HE3'
            clear HL
            obtain ⟨rs3, wr3⟩ := l3
            cases wr3 with
            | none =>
              by_cases hne : rs3 = []
              · subst hne
                go_wp2_with fail
                refine (Writer_any _ _ _ H3.out).mono ?_
                rintro e w4 ⟨rfl, hE4⟩
                have H4 := Lib.hid (H3.out.ext hE4)
                have HE4 := Lib.hid (below_ext HE3.out hE4)
                clear hE4
                go_wp2_with fail
                refine (Idle_at _ _ true idle_empty _ H4.out).mono ?_
                rintro e w' ⟨rfl, rfl⟩
                go_wp2_with fail
                refine (Readers_any _ _ HL3.out _ H4.out).mono ?_
                rintro e w6 ⟨v6, rfl, hV6, hE6⟩
                obtain ⟨a6, c6, _, rfl, _⟩ := hV6.openI
                have H6 := Lib.hid (H4.out.ext hE6)
                have HE6 := Lib.hid (below_ext HE4.out hE6)
                clear hE6 hV6
                go_wp2_with fail
                go_roundg (len - (k + 1))
                case measure => omega
                case rel => exact ⟨k + 1, _, by go_num, by omega, H6.out, HI3.out, Nat.le_trans HZ3.out (by omega), HFr3.out, HE6.out, Nat.le_refl _⟩
              · have hnn := not_none hne
                have HN := Lib.hid hne
                clear hne
                go_wp2_with fail
                refine (Writer_any _ _ _ H3.out).mono ?_
                rintro e w4 ⟨rfl, hE4⟩
                have H4 := Lib.hid (H3.out.ext hE4)
                have HE4 := Lib.hid (below_ext HE3.out hE4)
                clear hE4
                go_wp2_with fail
                refine (Idle_at _ _ false (idle_some HN.out) _ H4.out).mono ?_
                rintro e w' ⟨rfl, rfl⟩
                go_wp2_with fail
                refine (Readers_any _ _ HL3.out _ H4.out).mono ?_
                rintro e w6 ⟨v6, rfl, hV6, hE6⟩
                obtain ⟨a6, c6, _, rfl, _⟩ := hV6.openI
                have H6 := Lib.hid (H4.out.ext hE6)
                have HE6 := Lib.hid (below_ext HE4.out hE6)
                clear hE6 hV6
                go_wp2_with fail
                go_roundg (len - (k + 1))
                case measure => omega
                case rel => exact ⟨k + 1, _, by go_num, by omega, H6.out, HI3.out, Nat.le_trans HZ3.out (by omega), HFr3.out, HE6.out, Nat.le_refl _⟩
            | some x3 =>
              obtain rfl : rs3 = [] := HI3.out.one rfl
              go_wp2_with fail
              refine (Writer_any _ _ _ H3.out).mono ?_
              rintro e w4 ⟨rfl, hE4⟩
              have H4 := Lib.hid (H3.out.ext hE4)
              have HE4 := Lib.hid (below_ext HE3.out hE4)
              clear hE4
              go_wp2_with fail
              refine (Readers_any _ _ HL3.out _ H4.out).mono ?_
              rintro e w6 ⟨v6, rfl, hV6, hE6⟩
              obtain ⟨a6, c6, _, rfl, _⟩ := hV6.openI
              have H6 := Lib.hid (H4.out.ext hE6)
              have HE6 := Lib.hid (below_ext HE4.out hE6)
              clear hE6 hV6
              go_wp2_with fail
              refine (Holds_at _ _ HI3.out HL3.out _ true holds_one _ H6.out).mono ?_
              rintro e w7 ⟨rfl, hE7⟩
              have H7 := Lib.hid (H6.out.ext hE7)
              have HE7 := Lib.hid (below_ext HE6.out hE7)
              clear hE7
              go_wp2_with fail
              refine (Idle_at _ _ false idle_one _ H7.out).mono ?_
              rintro e w' ⟨rfl, rfl⟩
              go_wp2_with fail
              go_roundg (len - (k + 1))
              case measure => omega
              case rel => exact ⟨k + 1, _, by go_num, by omega, H7.out, HI3.out, Nat.le_trans HZ3.out (by omega), HFr3.out, HE7.out, Nat.le_refl _⟩
        --A>
      · obtain rfl : k = len := by omega
        clear hik
        have hdk : decide ((k : Int) < (k : Int)) = false := decide_eq_false (by omega)
        go_wp2_with fail
        go_loopg [9] k (fun g i wr => ∃ (j : Nat) (l : L), i = .int .i64 j ∧ j ≤ k ∧ LockAt wr bk l ∧ Inv l ∧ l.rs.length ≤ k ∧ From F l j k ∧ Below w.heap.size w wr ∧ k - j ≤ g)
        case atStart => exact ⟨0, l, rfl, Nat.zero_le _, HB.out, HI.out, hsz, HFr.out, HE.out, Nat.le_refl _⟩
        case round =>
          obtain ⟨j, l2, rfl, hj, hBk2, hI2, hsz2, hFr2, hBel2, hg2⟩ := hrel
          have HB2 := Lib.hid hBk2
          have HI2 := Lib.hid hI2
          have HFr2 := Lib.hid hFr2
          have HE2 := Lib.hid hBel2
          have hl7 : l2.rs.length ≤ 1000000 := by omega
          clear hBk2 hI2 hBel2 hFr2
          by_cases hjk : j < k
          · obtain rfl := HA.out (by omega)
            obtain ⟨x0, x1⟩ := HF.out _ HE2.out j hjk
            go_wp2_with fail
            refine (Free_any _ _ HI2.out hl7 _ _ HB2.out).mono ?_
            rintro e w3 ⟨rfl, hB3, hC3⟩
            have HB3 := Lib.hid hB3
            have HE3 := Lib.hid (below_lock HE2.out hC3 hbk)
            clear hB3 hC3
            go_wp2_with fail
            go_roundg (k - (j + 1))
            case measure => omega
            case rel => exact ⟨j + 1, _, by go_num, by omega, HB3.out, HI2.out.free _, Nat.le_trans (len_free _ _) hsz2, HFr2.out.freed HI2.out, HE3.out, Nat.le_refl _⟩
          · obtain rfl : j = k := by omega
            have hdj : decide ((j : Int) < (j : Int)) = false := decide_eq_false (by omega)
            clear hjk
            go_wp2_with fail
            refine (Writer_nil _).mono ?_
            rintro e w' ⟨rfl, rfl⟩
            go_wp2_with fail
            refine (Idle_at _ _ true HFr2.out.idle _ HB2.out).mono ?_
            rintro e w' ⟨rfl, rfl⟩
            go_wp2_with fail
            refine (Idle_nil _).mono ?_
            rintro e w' ⟨rfl, rfl⟩
            go_wp2_with fail
            refine (Read_nil _ _).mono ?_
            rintro e w' ⟨rfl, rfl⟩
            go_wp2_with fail
            refine (Write_nil _ _).mono ?_
            rintro e w' ⟨rfl, rfl⟩
            go_wp2_with fail
            refine (Free_nil _ _).mono ?_
            rintro e w' ⟨rfl, rfl⟩
            go_wp2_with fail
            refine (Holds_nil _ _).mono ?_
            rintro e w' ⟨rfl, rfl⟩
            go_wp2_with fail
            refine (MayRead_nil _).mono ?_
            rintro e w' ⟨rfl, rfl⟩
            go_wp2_with fail
            refine (MayWrite_nil _).mono ?_
            rintro e w' ⟨rfl, rfl⟩
            go_wp2_with fail
            refine (Readers_nil _).mono ?_
            rintro e w' ⟨rfl, rfl⟩
            go_wp2_with fail
            refine (awake_any _).mono ?_
            rintro e w9 ⟨rfl, hE9⟩
            go_wp2_with fail
            go_ret
            exact ⟨rfl, below_ext HE2.out hE9⟩
end Go.Proofs.Ytlnmnnoibimknaa.Lo1
