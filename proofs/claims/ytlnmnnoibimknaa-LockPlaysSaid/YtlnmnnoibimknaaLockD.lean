/-
  Package lock: who comes and who goes: each function comes to what the plain lock says.
  Fewer than 1,000,000 readers; no other condition.
-/
import Derived.Test.YtlnmnnoibimknaaLockC
namespace Go.Proofs.Ytlnmnnoibimknaa.Lo1
open Go.RowKit Go.Seg Go.Open Go.Lib Go.Shelf Lk

def delAt (rs : List Int) (i : Nat) : List Int := rs.take i ++ rs.drop (i + 1)
theorem delete_any (B : Nat) (v : Value) (rs : List Int) (i : Nat) (w : World) (h : Ints w B v rs) (hl : rs.length ≤ 1000000) (hi : i < rs.length) :
    Calls Try.prog 59 #[v, .int .i64 i, .int .i64 ((i : Int) + 1)] w fun e w' => ∃ v', e = .returned v' ∧ Ints w' B v' (delAt rs i) ∧ Chg (fun k => v.ownBlock = some k) w w' := by
  have h0 := h
  obtain ⟨a, cap, b, rfl, h1, h2, h3, h4, h5⟩ := h0.openI
  obtain rfl := h3 (by omega)
  obtain ⟨hlen, hrow⟩ := h
  rcases hrow with ⟨hv, _⟩ | ⟨g, cap', cur, hv, hg, hh, hn, hm, hs, ht⟩
  · cases hv
  · obtain ⟨rfl, rfl⟩ : b = g ∧ cap = cap' := by simpa using hv
    have hfz : ∀ j, w.frozen? ⟨b, j, none⟩ = false := fun j => Blk.frozen (cs := cur) (E := 3) hh j
    have hmm := hm
    unfold maxLen at hmm
    have := Any.slices_Delete_int_cells Try.laysDelete b 0 rs.length cap i (i + 1) rs w (Nat.le_refl _) hn (by omega) (by omega) (by omega) (h5 w (Ext.refl _)) (fun j _ => hfz _)
    rw [show (((i + 1 : Nat)) : Int) = (i : Int) + 1 from by omega] at this
    refine this.mono ?_
    rintro e w' ⟨rfl, q, rfl⟩
    rw [Nat.mul_one] at ht hs
    rw [List.take_length]
    have hh' : (w.drewN q).heap[b]? = some (.cells cur 3 (0, 0)) := hh
    have hlL : ((rs.take i ++ rs.drop (i + 1) ++ List.replicate (i + 1 - i) 0).map (Value.int .i64)).length = rs.length := by simp; omega
    obtain ⟨c1, k1, k2⟩ := heap_setCells b 3 ((rs.take i ++ rs.drop (i + 1) ++ List.replicate (i + 1 - i) 0).map (Value.int .i64)) 0 _ cur hh' (by rw [hlL]; omega)
    have hc1 : c1.toList.length = cur.toList.length := by rw [k2]; exact over_length (by rw [hlL]; simp; omega)
    have hL : (delAt rs i).length = rs.length - (i + 1 - i) := by unfold delAt; simp; omega
    refine ⟨_, rfl, ?_, (chg_ext (ext_drewN w q) (chg_setCells b _ 0 _)).mono (fun k hk => by subst hk; rfl)⟩
    rw [← hL]
    refine ints_new (cur := c1) k1 hg (by omega) hm (by simp at hc1; omega) ?_
    rw [k2]
    unfold over
    rw [List.take_zero, List.nil_append, List.map_append, List.append_assoc]
    have e : (rs.take i ++ rs.drop (i + 1)).map (Value.int .i64) = ints (delAt rs i) := rfl
    rw [e, List.take_append_of_le_length (by unfold ints; simp), List.take_of_length_le (by unfold ints; simp)]

theorem may_at (g : Nat) (p : Value) (r h v : Bool) (hv : (r && !h) = v) (w : World) (eg : ∀ args w, (callFunc g args).run Try.prog w = .ok (.enter g args) w) (hg : Calls Try.prog g #[p] w fun e w' => e = .returned (.bool r) ∧ w = w') :
    Calls Try.prog 55 #[.func (.func g) #[p] #[], .bool h] w fun e w' => e = .returned (.bool v) ∧ w = w' := by rw [← hv]; exact may_any g p r h w eg hg
theorem eR : ∀ args w, (callFunc 43 args).run Try.prog w = .ok (.enter 43 args) w := enters_of Try.func43 (by kernel_rfl) rfl
theorem eW : ∀ args w, (callFunc 44 args).run Try.prog w = .ok (.enter 44 args) w := enters_of Try.func44 (by kernel_rfl) rfl

/-- A value put into a lock's field of readers. -/
theorem LockAt.putReaders {w : World} {b : Nat} {l : L} {v : Value} {rs' : List Int} (h : LockAt w b l) (hv : Ints w 0 v rs') : LockAt (w.setCell ⟨b, 0, none⟩ v) b { l with rs := rs' } := by
  obtain ⟨a, cap, hB, _⟩ := h.cells
  exact ⟨v, hB.set 0 v rfl, hv.chg (Chg.set w b 0 v) (.one hB (by decide))⟩
theorem LockAt.putWriter {w : World} {b : Nat} {l : L} (h : LockAt w b l) (wr' : Option Int) : LockAt ((w.setCell ⟨b, 1, none⟩ (.int .i64 (wr'.getD 0))).setCell ⟨b, 2, none⟩ (.bool wr'.isSome)) b { l with wr := wr' } := by
  obtain ⟨a, cap, hB, hR⟩ := h.cells
  have h1 := hB.set 1 (.int .i64 (wr'.getD 0)) rfl
  have h2 := h1.set 2 (.bool wr'.isSome) rfl
  refine ⟨_, h2, ?_⟩
  have k1 := hR.chg (Chg.set w b 1 (.int .i64 (wr'.getD 0))) (.one hB (by decide))
  exact k1.chg (Chg.set _ b 2 (.bool wr'.isSome)) (.one h1 (by decide))

set_option maxHeartbeats 1000000 in
theorem Read_any (b : Nat) (l : L) (hi : Inv l) (hl : l.rs.length ≤ 1000000) (id : Int) (w : World) (h : LockAt w b l) :
    Calls Try.prog 32 #[.pointer (some ⟨b, 0, none⟩), .int .i64 id] w fun e w' => e = .returned (.bool (l.mayRead id)) ∧ LockAt w' b (l.read id) ∧ Chg (· = b) w w' := by
  have H := Lib.hid h
  clear h
  cases hm : l.mayRead id with
  | false =>
    have e1 : l.read id = l := by unfold L.read; rw [hm]; simp
    rw [e1]
    have HM := Lib.hid (show (l.wr.isNone && !l.holds id) = false from hm)
    clear e1 hm
    go_enter Try.func32, Try.ntmps32
    go_wp2_with fail
    refine (Holds_any _ _ hi hl _ _ H.out).mono ?_
    rintro e w1 ⟨rfl, hE⟩
    have H1 := Lib.hid (H.out.ext hE)
    go_wp2_with fail
    refine (may_at _ _ _ _ _ HM.out _ eR (MayRead_any _ _ _ H1.out)).mono ?_
    rintro e w' ⟨rfl, rfl⟩
    go_wp2_with fail
    go_ret
    exact ⟨rfl, H1.out, Chg.of_below hE⟩
  | true =>
    have e1 : l.read id = { l with rs := insI l.rs id } := by unfold L.read; rw [hm]; simp
    rw [e1]
    have HM := Lib.hid (show (l.wr.isNone && !l.holds id) = true from hm)
    clear e1 hm
    have hcl := cnt_le l.rs id
    go_enter Try.func32, Try.ntmps32
    go_wp2_with fail
    refine (Holds_any _ _ hi hl _ _ H.out).mono ?_
    rintro e w1 ⟨rfl, hE1⟩
    have H1 := Lib.hid (H.out.ext hE1)
    go_wp2_with fail
    refine (may_at _ _ _ _ _ HM.out _ eR (MayRead_any _ _ _ H1.out)).mono ?_
    rintro e w' ⟨rfl, rfl⟩
    go_wp2_with fail
    refine (reads_any _ _ hi hl _ _ H1.out).mono ?_
    rintro e w2 ⟨rfl, hE2⟩
    have H2 := Lib.hid (H1.out.ext hE2)
    obtain ⟨a, cap, hB, hR⟩ := H2.out.cells
    have b0 := hB.cell (i := 0) rfl
    have HR := Lib.hid hR
    clear hB hR
    go_wp2_with fail
    refine (clone_any _ _ _ _ HR.out hl).mono ?_
    rintro e w3 ⟨v3, rfl, hV, hE3⟩
    obtain ⟨a3, cap3, _, rfl, _⟩ := hV.openI
    have hlt := World.ownsRow.lt hV
    have HV := Lib.hid hV
    have HLT := Lib.hid hlt
    have H3 := Lib.hid (H2.out.ext hE3)
    have hE0 : Ext w w3 := Ext.trans (Ext.trans hE1 hE2) hE3
    have HE := Lib.hid hE0
    have HZ := Lib.hid (show w.heap.size ≤ w2.heap.size from Nat.le_trans hE1.size hE2.size)
    have HZ3 := Lib.hid hE3.size
    clear hV hlt hE1 hE2 hE3 hE0 b0
    go_wp2_with fail
    refine (insert_any w2.heap.size _ l.rs (cnt l.rs id) id w3.heap.size _ (HV.out.ext ((Below.refl _ _).alloc (Nat.le_refl _) _)) (by have := HZ3.out; simp; omega) hl hcl (Blk.new _ _ _) (fun e => by have := (HLT.out _ e).2; omega)).mono ?_
    rintro e w4 ⟨v4, rfl, hV4, hC4⟩
    obtain ⟨a4, cap4, _, rfl, _⟩ := hV4.openI
    have hE4 : Ext w w4 := below_chg (HE.out.alloc HE.out.size _) hC4 (fun k hk => by have := (HLT.out _ hk).1; have := HZ.out; omega)
    have H4 := Lib.hid (H.out.ext hE4)
    have HV4 := Lib.hid (hV4.base (Nat.zero_le _))
    have HE4 := Lib.hid hE4
    obtain ⟨cs4, hb4⟩ := H4.out.blk
    obtain ⟨ax, cx, hB4, _⟩ := H4.out.cells
    have b0 := hB4.cell (i := 0) rfl
    have b1 := hB4.frozen 0
    clear hV4 hC4 hE4 hb4 hB4
    go_wp2_with fail
    go_ret
    exact ⟨rfl, H4.out.putReaders HV4.out, chg_ext HE4.out (Chg.set _ _ _ _)⟩

theorem Read_nil (id : Int) (w : World) : Calls Try.prog 32 #[.pointer none, .int .i64 id] w fun e w' => e = .returned (.bool false) ∧ w = w' := by
  go_enter Try.func32, Try.ntmps32
  go_wp2_with fail
  refine (Holds_nil _ _).mono ?_
  rintro e w' ⟨rfl, rfl⟩
  go_wp2_with fail
  refine (may_at _ _ false false false rfl _ eR (MayRead_nil _)).mono ?_
  rintro e w' ⟨rfl, rfl⟩
  go_wp2_with fail
  go_ret
  exact ⟨rfl, rfl⟩

set_option maxHeartbeats 1000000 in
theorem Write_any (b : Nat) (l : L) (hi : Inv l) (hl : l.rs.length ≤ 1000000) (id : Int) (w : World) (h : LockAt w b l) :
    Calls Try.prog 34 #[.pointer (some ⟨b, 0, none⟩), .int .i64 id] w fun e w' => e = .returned (.bool (l.mayWrite id)) ∧ LockAt w' b (l.write id) ∧ Chg (· = b) w w' := by
  have H := Lib.hid h
  clear h
  cases hm : l.mayWrite id with
  | false =>
    have e1 : l.write id = l := by unfold L.write; rw [hm]; simp
    rw [e1]
    have HM := Lib.hid (show (l.idle && !l.holds id) = false from hm)
    clear e1 hm
    go_enter Try.func34, Try.ntmps34
    go_wp2_with fail
    refine (Holds_any _ _ hi hl _ _ H.out).mono ?_
    rintro e w1 ⟨rfl, hE⟩
    have H1 := Lib.hid (H.out.ext hE)
    go_wp2_with fail
    refine (may_at _ _ _ _ _ HM.out _ eW (MayWrite_any _ _ _ H1.out)).mono ?_
    rintro e w' ⟨rfl, rfl⟩
    go_wp2_with fail
    go_ret
    exact ⟨rfl, H1.out, Chg.of_below hE⟩
  | true =>
    have e1 : l.write id = { l with wr := some id } := by unfold L.write; rw [hm]; simp
    rw [e1]
    have HM := Lib.hid (show (l.idle && !l.holds id) = true from hm)
    clear e1 hm
    go_enter Try.func34, Try.ntmps34
    go_wp2_with fail
    refine (Holds_any _ _ hi hl _ _ H.out).mono ?_
    rintro e w1 ⟨rfl, hE1⟩
    have H1 := Lib.hid (H.out.ext hE1)
    go_wp2_with fail
    refine (may_at _ _ _ _ _ HM.out _ eW (MayWrite_any _ _ _ H1.out)).mono ?_
    rintro e w' ⟨rfl, rfl⟩
    obtain ⟨a, cap, hB, _⟩ := H1.out.cells
    have b1 := hB.cell (i := 1) rfl
    have b2 := hB.cell (i := 2) rfl
    have f1 := hB.frozen 1
    have f2 := hB.frozen 2
    clear hB
    go_wp2_with fail
    go_ret
    exact ⟨rfl, H1.out.putWriter (some id), chg_ext hE1 ((Chg.set _ _ _ _).trans (Chg.set _ _ _ _))⟩
theorem Write_nil (id : Int) (w : World) : Calls Try.prog 34 #[.pointer none, .int .i64 id] w fun e w' => e = .returned (.bool false) ∧ w = w' := by
  go_enter Try.func34, Try.ntmps34
  go_wp2_with fail
  refine (Holds_nil _ _).mono ?_
  rintro e w' ⟨rfl, rfl⟩
  go_wp2_with fail
  refine (may_at _ _ false false false rfl _ eW (MayWrite_nil _)).mono ?_
  rintro e w' ⟨rfl, rfl⟩
  go_wp2_with fail
  go_ret
  exact ⟨rfl, rfl⟩

set_option maxHeartbeats 1000000 in
theorem Free_any (b : Nat) (l : L) (hi : Inv l) (hl : l.rs.length ≤ 1000000) (id : Int) (w : World) (h : LockAt w b l) :
    Calls Try.prog 36 #[.pointer (some ⟨b, 0, none⟩), .int .i64 id] w fun e w' => e = .returned (.bool (l.holds id)) ∧ LockAt w' b (l.free id) ∧ Chg (· = b) w w' := by
  have H := Lib.hid h
  clear h
  cases hm : l.holds id with
  | false =>
    have e1 : l.free id = l := by unfold L.free; rw [hm]; simp
    rw [e1]
    have HM := Lib.hid hm
    clear e1 hm
    go_enter Try.func36, Try.ntmps36
    go_wp2_with fail
    refine (Holds_any _ _ hi hl _ _ H.out).mono ?_
    rw [HM.out]
    rintro e w1 ⟨rfl, hE⟩
    have H1 := Lib.hid (H.out.ext hE)
    go_wp2_with fail
    go_ret
    exact ⟨rfl, H1.out, Chg.of_below hE⟩
  | true =>
    have HM := Lib.hid hm
    cases hw : l.wr with
    | some x =>
      have e1 : l.free id = { l with wr := none } := by unfold L.free; rw [hm, hw]; simp
      rw [e1]
      have HW := Lib.hid hw
      clear e1 hm hw
      go_enter Try.func36, Try.ntmps36
      go_wp2_with fail
      refine (Holds_any _ _ hi hl _ _ H.out).mono ?_
      rw [HM.out]
      rintro e w1 ⟨rfl, hE⟩
      have H1 := Lib.hid (H.out.ext hE)
      obtain ⟨a, cap, hB, _⟩ := H1.out.cells
      rw [HW.out] at hB
      have b1 : w1.cell? ⟨b, 1, none⟩ = some (.int .i64 x) := hB.cell (i := 1) rfl
      have b2 : w1.cell? ⟨b, 2, none⟩ = some (.bool true) := hB.cell (i := 2) rfl
      have f1 := hB.frozen 1
      have f2 := hB.frozen 2
      clear hB
      go_wp2_with fail
      go_ret
      exact ⟨rfl, H1.out.putWriter none, chg_ext hE ((Chg.set _ _ _ _).trans (Chg.set _ _ _ _))⟩
    | none =>
      have hmem : id ∈ l.rs := by simpa [L.holds, hw] using hm
      have e1 : l.free id = { l with rs := delI l.rs id } := by unfold L.free; rw [hm, hw]; simp
      rw [e1]
      have HW := Lib.hid hw
      have hcl := cnt_lt hi.up hmem
      clear e1 hm hw hmem
      go_enter Try.func36, Try.ntmps36
      go_wp2_with fail
      refine (Holds_any _ _ hi hl _ _ H.out).mono ?_
      rw [HM.out]
      rintro e w1 ⟨rfl, hE1⟩
      have H1 := Lib.hid (H.out.ext hE1)
      obtain ⟨a, cap, hB, hR⟩ := H1.out.cells
      rw [HW.out] at hB
      have b2 : w1.cell? ⟨b, 2, none⟩ = some (.bool false) := hB.cell (i := 2) rfl
      clear hB hR
      go_wp2_with fail
      refine (reads_any _ _ hi hl _ _ H1.out).mono ?_
      rintro e w2 ⟨rfl, hE2⟩
      have H2 := Lib.hid (H1.out.ext hE2)
      obtain ⟨a, cap, hB, hR⟩ := H2.out.cells
      have b0 := hB.cell (i := 0) rfl
      have HR := Lib.hid hR
      clear hB hR b2
      go_wp2_with fail
      refine (clone_any _ _ _ _ HR.out hl).mono ?_
      rintro e w3 ⟨v3, rfl, hV, hE3⟩
      obtain ⟨a3, cap3, _, rfl, _⟩ := hV.openI
      have hlt := World.ownsRow.lt hV
      have HV := Lib.hid hV
      have HLT := Lib.hid hlt
      have hE0 : Ext w w3 := Ext.trans (Ext.trans hE1 hE2) hE3
      have HE := Lib.hid hE0
      have HZ := Lib.hid (show w.heap.size ≤ w2.heap.size from Nat.le_trans hE1.size hE2.size)
      clear hV hlt hE1 hE2 hE3 hE0 b0
      go_wp2_with fail
      refine (delete_any w2.heap.size _ l.rs (cnt l.rs id) _ HV.out hl hcl).mono ?_
      rintro e w4 ⟨v4, rfl, hV4, hC4⟩
      obtain ⟨a4, cap4, _, rfl, _⟩ := hV4.openI
      have hE4 : Ext w w4 := below_chg HE.out hC4 (fun k hk => by have := (HLT.out _ hk).1; have := HZ.out; omega)
      have H4 := Lib.hid (H.out.ext hE4)
      have HV4 := Lib.hid (hV4.base (Nat.zero_le _))
      have HE4 := Lib.hid hE4
      obtain ⟨ax, cx, hB4, _⟩ := H4.out.cells
      have b0 := hB4.cell (i := 0) rfl
      have b1 := hB4.frozen 0
      clear hV4 hC4 hE4 hB4
      go_wp2_with fail
      go_ret
      exact ⟨rfl, H4.out.putReaders HV4.out, chg_ext HE4.out (Chg.set _ _ _ _)⟩
theorem Free_nil (id : Int) (w : World) : Calls Try.prog 36 #[.pointer none, .int .i64 id] w fun e w' => e = .returned (.bool false) ∧ w = w' := by
  go_enter Try.func36, Try.ntmps36
  go_wp2_with fail
  refine (Holds_nil _ _).mono ?_
  rintro e w' ⟨rfl, rfl⟩
  go_wp2_with fail
  go_ret
  exact ⟨rfl, rfl⟩

theorem awake_any (w : World) : Calls Try.prog 29 #[] w fun e w' => e = .returned (.bool true) ∧ Ext w w' := by
  have i0 : Inv ⟨[], none⟩ := Inv.nil
  have HI : Hid (Inv ⟨[], none⟩) := i0
  clear i0
  go_enter Try.func29, Try.ntmps29
  go_wp2_with fail
  refine (New_any _).mono ?_
  rintro e w1 ⟨b, rfl, hb, hB, hE⟩
  have H1 := Lib.hid hB
  clear hB
  go_wp2_with fail
  refine (Read_any b ⟨[], none⟩ HI.out (by simp) 1 _ H1.out).mono ?_
  rintro e w2 ⟨he, hB2, hC2⟩
  rw [show L.mayRead ⟨[], none⟩ 1 = true from by decide] at he
  rw [show L.read ⟨[], none⟩ 1 = ⟨[1], none⟩ from rfl] at hB2
  subst he
  have H2 := Lib.hid hB2
  have HC2 := Lib.hid (below_chg hE hC2 (fun i hi => by rw [hi]; exact hb))
  clear hB2 hC2
  go_wp2_with fail
  refine (Read_any b ⟨[1], none⟩ ⟨by simp, by simp⟩ (by simp) 2 _ H2.out).mono ?_
  rintro e w3 ⟨he, hB2, hC2⟩
  rw [show L.mayRead ⟨[1], none⟩ 2 = true from by decide] at he
  rw [show L.read ⟨[1], none⟩ 2 = ⟨[1, 2], none⟩ from rfl] at hB2
  subst he
  have H3 := Lib.hid hB2
  have HC3 := Lib.hid (below_chg HC2.out hC2 (fun i hi => by rw [hi]; exact hb))
  clear hB2 hC2
  go_wp2_with fail
  refine (Write_any b ⟨[1, 2], none⟩ ⟨by simp, by simp⟩ (by simp) 3 _ H3.out).mono ?_
  rintro e w4 ⟨he, hB2, hC2⟩
  rw [show L.mayWrite ⟨[1, 2], none⟩ 3 = false from by decide] at he
  rw [show L.write ⟨[1, 2], none⟩ 3 = ⟨[1, 2], none⟩ from rfl] at hB2
  subst he
  have H4 := Lib.hid hB2
  have HC4 := Lib.hid (below_chg HC3.out hC2 (fun i hi => by rw [hi]; exact hb))
  clear hB2 hC2
  go_wp2_with fail
  refine (Free_any b ⟨[1, 2], none⟩ ⟨by simp, by simp⟩ (by simp) 1 _ H4.out).mono ?_
  rintro e w5 ⟨he, hB2, hC2⟩
  rw [show L.holds ⟨[1, 2], none⟩ 1 = true from by decide] at he
  rw [show L.free ⟨[1, 2], none⟩ 1 = ⟨[2], none⟩ from rfl] at hB2
  subst he
  have H5 := Lib.hid hB2
  have HC5 := Lib.hid (below_chg HC4.out hC2 (fun i hi => by rw [hi]; exact hb))
  clear hB2 hC2
  go_wp2_with fail
  refine (Free_any b ⟨[2], none⟩ ⟨by simp, by simp⟩ (by simp) 2 _ H5.out).mono ?_
  rintro e w6 ⟨he, hB2, hC2⟩
  rw [show L.holds ⟨[2], none⟩ 2 = true from by decide] at he
  rw [show L.free ⟨[2], none⟩ 2 = ⟨[], none⟩ from rfl] at hB2
  subst he
  have H6 := Lib.hid hB2
  have HC6 := Lib.hid (below_chg HC5.out hC2 (fun i hi => by rw [hi]; exact hb))
  clear hB2 hC2
  go_wp2_with fail
  refine (Write_any b ⟨[], none⟩ HI.out (by simp) 3 _ H6.out).mono ?_
  rintro e w7 ⟨he, hB2, hC2⟩
  rw [show L.mayWrite ⟨[], none⟩ 3 = true from by decide] at he
  subst he
  have HC7 := Lib.hid (below_chg HC6.out hC2 (fun i hi => by rw [hi]; exact hb))
  clear hB2 hC2
  go_wp2_with fail
  go_ret
  exact ⟨rfl, HC7.out⟩
end Go.Proofs.Ytlnmnnoibimknaa.Lo1
