/-
  Package lock: each function comes to what the plain lock says.
  Fewer than 1,000,000 readers; no other condition.
-/
import Derived.Test.YtlnmnnoibimknaaLockSl
import Derived.Test.YtlnmnnoibimknaaSegK
namespace Go.Proofs.Ytlnmnnoibimknaa.Lo1
open Go.RowKit Go.Seg Go.Open Go.Lib Lk

/-- A lock's block. -/
def LockAt (w : World) (b : Nat) (l : L) : Prop := ∃ v, Blk w b #[v, .int .i64 (l.wr.getD 0), .bool l.wr.isSome] 80 ∧ Ints w 0 v l.rs
theorem LockAt.ext {w w' : World} {b : Nat} {l : L} (h : LockAt w b l) (e : Ext w w') : LockAt w' b l := by
  obtain ⟨v, h1, h2⟩ := h
  exact ⟨v, h1.ext e, h2.ext e⟩
theorem LockAt.blk {w : World} {b : Nat} {l : L} : LockAt w b l → ∃ cs, Blk w b cs 80 := fun ⟨_, h, _⟩ => ⟨_, h⟩
/-- A lock's cells, written out. -/
theorem LockAt.cells {w : World} {b : Nat} {l : L} (h : LockAt w b l) : ∃ a cap, Blk w b #[.slice a l.rs.length cap, .int .i64 (l.wr.getD 0), .bool l.wr.isSome] 80 ∧ Ints w 0 (.slice a l.rs.length cap) l.rs := by
  obtain ⟨v, h1, h2⟩ := h
  obtain ⟨a, cap, _, rfl, _⟩ := h2.openI
  exact ⟨a, cap, h1, h2⟩

theorem New_any (w : World) : Calls Try.prog 30 #[] w fun e w' => ∃ b, e = .returned (.pointer (some ⟨b, 0, none⟩)) ∧ w.heap.size ≤ b ∧ LockAt w' b ⟨[], none⟩ ∧ Ext w w' := by
  go_enter Try.func30, Try.ntmps30
  go_wp2_with fail
  go_ret
  exact ⟨_, rfl, Nat.le_refl _, ⟨_, Blk.new _ _ _, World.ownsRow_nil _ _ _ _⟩, (Below.refl _ _).alloc (Nat.le_refl _) _⟩

theorem reads_any (b : Nat) (l : L) (hi : Inv l) (hl : l.rs.length ≤ 1000000) (id : Int) (w : World) (h : LockAt w b l) :
    Calls Try.prog 56 #[.pointer (some ⟨b, 0, none⟩), .int .i64 id] w fun e w' => e = .returned (.tuple #[.int .i64 (cnt l.rs id), .bool (has l.rs id)]) ∧ Ext w w' := by
  obtain ⟨a, cap, hB, hR⟩ := h.cells
  have b0 := hB.cell (i := 0) rfl
  have HR := Lib.hid hR
  clear hB hR h
  go_enter Try.func56, Try.ntmps56
  go_wp2_with fail
  refine (search_any _ _ _ hi.up _ _ HR.out hl).mono ?_
  rintro e w' ⟨rfl, hE⟩
  go_wp2_with fail
  go_ret2
  exact ⟨rfl, hE⟩

theorem Idle_any (b : Nat) (l : L) (w : World) (h : LockAt w b l) : Calls Try.prog 42 #[.pointer (some ⟨b, 0, none⟩)] w fun e w' => e = .returned (.bool l.idle) ∧ w = w' := by
  obtain ⟨a, cap, hB, hR⟩ := h.cells
  have b0 := hB.cell (i := 0) rfl
  have b2 := hB.cell (i := 2) rfl
  clear hB hR h
  obtain ⟨rs, wr⟩ := l
  cases wr with
  | some x =>
    cases rs
    all_goals
      go_enter Try.func42, Try.ntmps42
      go_wp2_with fail
      go_ret
      exact ⟨rfl, rfl⟩
  | none =>
    cases rs with
    | nil =>
      go_enter Try.func42, Try.ntmps42
      go_wp2_with fail
      go_ret
      exact ⟨rfl, rfl⟩
    | cons x rs =>
      obtain ⟨n, hn⟩ : ∃ n, (x :: rs).length = n := ⟨_, rfl⟩
      have hn0 : 0 < n := by rw [← hn]; simp
      have hne : ((n : Int) == 0) = false := beq_eq_false_iff_ne.2 (by omega)
      change w.cell? ⟨b, 0, none⟩ = some (.slice a (x :: rs).length cap) at b0
      rw [hn] at b0
      clear hn
      go_enter Try.func42, Try.ntmps42
      go_wp2_with fail
      go_ret
      exact ⟨rfl, rfl⟩
theorem Idle_nil (w : World) : Calls Try.prog 42 #[.pointer none] w fun e w' => e = .returned (.bool true) ∧ w = w' := by
  go_enter Try.func42, Try.ntmps42
  go_wp2_with fail
  go_ret
  exact ⟨rfl, rfl⟩

theorem MayRead_any (b : Nat) (l : L) (w : World) (h : LockAt w b l) : Calls Try.prog 43 #[.pointer (some ⟨b, 0, none⟩)] w fun e w' => e = .returned (.bool l.wr.isNone) ∧ w = w' := by
  obtain ⟨a, cap, hB, hR⟩ := h.cells
  have b2 := hB.cell (i := 2) rfl
  clear hB hR h
  obtain ⟨rs, wr⟩ := l
  cases wr
  all_goals
    go_enter Try.func43, Try.ntmps43
    go_wp2_with fail
    go_ret
    exact ⟨rfl, rfl⟩
theorem MayRead_nil (w : World) : Calls Try.prog 43 #[.pointer none] w fun e w' => e = .returned (.bool false) ∧ w = w' := by
  go_enter Try.func43, Try.ntmps43
  go_wp2_with fail
  go_ret
  exact ⟨rfl, rfl⟩
theorem MayWrite_any (b : Nat) (l : L) (w : World) (h : LockAt w b l) : Calls Try.prog 44 #[.pointer (some ⟨b, 0, none⟩)] w fun e w' => e = .returned (.bool l.idle) ∧ w = w' := by
  have H := Lib.hid h
  clear h
  go_enter Try.func44, Try.ntmps44
  go_wp2_with fail
  refine (Idle_any _ _ _ H.out).mono ?_
  rintro e w' ⟨rfl, rfl⟩
  go_wp2_with fail
  go_ret
  exact ⟨rfl, rfl⟩
theorem MayWrite_nil (w : World) : Calls Try.prog 44 #[.pointer none] w fun e w' => e = .returned (.bool false) ∧ w = w' := by
  go_enter Try.func44, Try.ntmps44
  go_wp2_with fail
  go_ret
  exact ⟨rfl, rfl⟩

theorem Holds_any (b : Nat) (l : L) (hi : Inv l) (hl : l.rs.length ≤ 1000000) (id : Int) (w : World) (h : LockAt w b l) :
    Calls Try.prog 38 #[.pointer (some ⟨b, 0, none⟩), .int .i64 id] w fun e w' => e = .returned (.bool (l.holds id)) ∧ Ext w w' := by
  have H := Lib.hid h
  obtain ⟨a, cap, hB, hR⟩ := h.cells
  have HB := Lib.hid hB
  clear h hB hR
  by_cases hc : has l.rs id = true
  · have e0 : l.holds id = true := by unfold L.holds; unfold has at hc; rw [hc]; rfl
    rw [e0]
    have HC := Lib.hid hc
    clear e0 hc
    go_enter Try.func38, Try.ntmps38
    go_wp2_with fail
    refine (reads_any _ _ hi hl _ _ H.out).mono ?_
    rw [HC.out]
    rintro e w1 ⟨rfl, hE⟩
    go_wp2_with fail
    go_ret
    exact ⟨rfl, hE⟩
  · have hc' : has l.rs id = false := by simpa using hc
    have HC := Lib.hid hc'
    cases hw : l.wr with
    | none =>
      have e0 : l.holds id = false := by unfold L.holds; unfold has at hc'; rw [hc', hw]; simp
      rw [e0]
      have HW := Lib.hid hw
      clear e0 hc hc' hw
      go_enter Try.func38, Try.ntmps38
      go_wp2_with fail
      refine (reads_any _ _ hi hl _ _ H.out).mono ?_
      rw [HC.out]
      rintro e w1 ⟨rfl, hE⟩
      have hB1 := HB.out.ext hE
      rw [HW.out] at hB1
      have c1 : w1.cell? ⟨b, 1, none⟩ = some (.int .i64 0) := hB1.cell (i := 1) rfl
      have c2 : w1.cell? ⟨b, 2, none⟩ = some (.bool false) := hB1.cell (i := 2) rfl
      clear hB1
      go_wp2_with fail
      go_ret
      exact ⟨rfl, hE⟩
    | some x =>
      have e0 : l.holds id = (x == id) := by
        unfold L.holds
        unfold has at hc'
        rw [hc', hw, Bool.false_or]
        by_cases hx : x = id <;> simp [hx]
      rw [e0]
      have HW := Lib.hid hw
      clear e0 hc hc' hw
      by_cases hx : x = id
      · subst hx
        go_enter Try.func38, Try.ntmps38
        go_wp2_with fail
        refine (reads_any _ _ hi hl _ _ H.out).mono ?_
        rw [HC.out]
        rintro e w1 ⟨rfl, hE⟩
        have hB1 := HB.out.ext hE
        rw [HW.out] at hB1
        have c1 : w1.cell? ⟨b, 1, none⟩ = some (.int .i64 x) := hB1.cell (i := 1) rfl
        have c2 : w1.cell? ⟨b, 2, none⟩ = some (.bool true) := hB1.cell (i := 2) rfl
        clear hB1
        go_wp2_with fail
        go_ret
        exact ⟨by simp, hE⟩
      · have hx' : (x == id) = false := beq_eq_false_iff_ne.2 hx
        rw [hx']
        go_enter Try.func38, Try.ntmps38
        go_wp2_with fail
        refine (reads_any _ _ hi hl _ _ H.out).mono ?_
        rw [HC.out]
        rintro e w1 ⟨rfl, hE⟩
        have hB1 := HB.out.ext hE
        rw [HW.out] at hB1
        have c1 : w1.cell? ⟨b, 1, none⟩ = some (.int .i64 x) := hB1.cell (i := 1) rfl
        have c2 : w1.cell? ⟨b, 2, none⟩ = some (.bool true) := hB1.cell (i := 2) rfl
        clear hB1 hx
        go_wp2_with fail
        go_ret
        exact ⟨rfl, hE⟩
theorem Holds_nil (id : Int) (w : World) : Calls Try.prog 38 #[.pointer none, .int .i64 id] w fun e w' => e = .returned (.bool false) ∧ w = w' := by
  go_enter Try.func38, Try.ntmps38
  go_wp2_with fail
  go_ret
  exact ⟨rfl, rfl⟩

/-- may, at a bound method whose answer is known. -/
theorem may_any (g : Nat) (p : Value) (r h : Bool) (w : World) (eg : ∀ args w, (callFunc g args).run Try.prog w = .ok (.enter g args) w) (hg : Calls Try.prog g #[p] w fun e w' => e = .returned (.bool r) ∧ w = w') :
    Calls Try.prog 55 #[.func (.func g) #[p] #[], .bool h] w fun e w' => e = .returned (.bool (r && !h)) ∧ w = w' := by
  have HG := Lib.hid hg
  clear hg
  cases r
  all_goals
    go_enter Try.func55, Try.ntmps55
    go_wp2_with fail
    refine HG.out.mono ?_
    rintro e w' ⟨rfl, rfl⟩
    go_wp2_with fail
    go_ret
    exact ⟨rfl, rfl⟩

theorem Writer_any (b : Nat) (l : L) (w : World) (h : LockAt w b l) : Calls Try.prog 40 #[.pointer (some ⟨b, 0, none⟩)] w fun e w' => e = .returned (.tuple #[.int .i64 (l.wr.getD 0), .bool l.wr.isSome]) ∧ Ext w w' := by
  obtain ⟨a, cap, hB, hR⟩ := h.cells
  have HB := Lib.hid hB
  clear hB hR h
  go_enter Try.func40, Try.ntmps40
  go_wp2_with fail
  refine wp_region_segsK [([3, 1, 3, 3], 0, 0), ([4], 2, 10)] (by kernel_rfl) (by kernel_rfl) ?_
  apply segsK_pure
  · intro W
    simp only [runsT, runsF, rep, pick]
    go_wp2_with fail
    exact ⟨rfl, rfl⟩
  simp only [runsT, runsF, rep, left]
  apply segsK_look
  · have c1 := (HB.out.ext (Ext.drew _)).cell (i := 1) rfl
    have c2 := (HB.out.ext (Ext.drew _)).cell (i := 2) rfl
    simp only [runsT, runsF, rep, pick]
    go_wp2_with fail
    exact ⟨rfl, rfl⟩
  simp only [runsT, runsF, rep, left]
  apply segsK_nil
  go_wp2_with fail
  go_ret2
  exact ⟨rfl, Ext.drew _⟩
theorem Writer_nil (w : World) : Calls Try.prog 40 #[.pointer none] w fun e w' => e = .returned (.tuple #[.int .i64 0, .bool false]) ∧ w = w' := by
  go_enter Try.func40, Try.ntmps40
  go_wp2_with fail
  go_ret2
  exact ⟨rfl, rfl⟩

theorem Readers_any (b : Nat) (l : L) (hl : l.rs.length ≤ 1000000) (w : World) (h : LockAt w b l) : Calls Try.prog 41 #[.pointer (some ⟨b, 0, none⟩)] w fun e w' => ∃ v, e = .returned v ∧ Ints w' w.heap.size v l.rs ∧ Ext w w' := by
  obtain ⟨a, cap, hB, hR⟩ := h.cells
  have b0 := hB.cell (i := 0) rfl
  have HR := Lib.hid hR
  clear hB hR h
  go_enter Try.func41, Try.ntmps41
  go_wp2_with fail
  refine (clone_any _ _ _ _ HR.out hl).mono ?_
  rintro e w' ⟨v, rfl, hv, hE⟩
  obtain ⟨av, cv, _, rfl, _⟩ := hv.openI
  have HV := Lib.hid hv
  clear hv
  go_wp2_with fail
  go_ret
  exact ⟨_, rfl, HV.out, hE⟩
theorem Readers_nil (w : World) : Calls Try.prog 41 #[.pointer none] w fun e w' => e = .returned (.slice none 0 0) ∧ w = w' := by
  go_enter Try.func41, Try.ntmps41
  go_wp2_with fail
  go_ret
  exact ⟨rfl, rfl⟩
end Go.Proofs.Ytlnmnnoibimknaa.Lo1
