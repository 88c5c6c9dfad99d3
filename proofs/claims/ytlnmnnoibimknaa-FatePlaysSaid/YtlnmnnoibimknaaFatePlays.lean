/-
  FatePlays: the walk of the law, out of the contracts of package fate and of the document's answer.
  At most 60 notes (the law's own guard); no other condition.
-/
import Derived.Test.YtlnmnnoibimknaaFatePA
import Derived.Test.YtlnmnnoibimknaaRankAll
import Derived.Test.YtlnmnnoibimknaaSegK
import Derived.Test.YtlnmnnoibimknaaRangeX
import Derived.Laws.ResultCell
namespace Go.Proofs.Ytlnmnnoibimknaa.Fa
open Go.RowKit Go.Shelf Go.Seg Go.Open Go.Lib Rk TrII
attribute [local go_sem] Oper.semAt_some

/-- What lies there in the first loop. -/
structure St (w wr : World) (most : Int) (Bm Br Bx bk : Nat) (u : Value) (t : T Int Int) (c : C6) : Prop where
  bm : Blk wr Bm #[.int .u64 most] 43
  br : Blk wr Br #[.bool false] 4
  bx : Blk wr Bx #[u] 34
  row : Row wr w.heap.size u t.toL
  book : Book wr bk t c
  inv : InvC t c
  bel : Below w.heap.size w wr
  lm : w.heap.size ≤ Bm
  lr : w.heap.size ≤ Br
  lx : w.heap.size ≤ Bx
  lb : w.heap.size ≤ bk

theorem St.ext {w wr w' : World} {most : Int} {Bm Br Bx bk : Nat} {u : Value} {t : T Int Int} {c : C6} (h : St w wr most Bm Br Bx bk u t c) (e : Ext wr w') : St w w' most Bm Br Bx bk u t c :=
  ⟨h.bm.ext e, h.br.ext e, h.bx.ext e, own_ext h.row e, h.book.ext e, h.inv, below_ext h.bel e, h.lm, h.lr, h.lx, h.lb⟩
theorem St.size {w wr : World} {most : Int} {Bm Br Bx bk : Nat} {u : Value} {t : T Int Int} {c : C6} (h : St w wr most Bm Br Bx bk u t c) : w.heap.size ≤ wr.heap.size := h.bel.size
/-- The book is written. -/
theorem St.noted {w wr w' : World} {most : Int} {Bm Br Bx bk : Nat} {u : Value} {t t' : T Int Int} {c c' : C6} (h : St w wr most Bm Br Bx bk u t c) (hc : Chg (· = bk) wr w') (hB : Book w' bk t' c') (hi : InvC t' c') (hl : t'.toL = t.toL) : St w w' most Bm Br Bx bk u t' c' := by
  obtain ⟨cs, hb⟩ := h.book.blk
  refine ⟨h.bm.chg hc (.one hb (by decide)), h.br.chg hc (.one hb (by decide)), h.bx.chg hc (.one hb (by decide)), ?_, hB, hi, below_chg h.bel hc (fun i hi => by rw [hi]; exact h.lb), h.lm, h.lr, h.lx, h.lb⟩
  unfold Row
  rw [hl]
  exact own_chg h.row hc (.one hb (by decide))
/-- Between a note of both. -/
structure St2 (w wr : World) (most : Int) (Bm Br Bx bk : Nat) (u u' : Value) (t t' : T Int Int) (c : C6) : Prop where
  bm : Blk wr Bm #[.int .u64 most] 43
  br : Blk wr Br #[.bool false] 4
  bx : Blk wr Bx #[u] 34
  row : Row wr w.heap.size u' t'.toL
  book : Book wr bk t c
  bel : Below w.heap.size w wr
  lm : w.heap.size ≤ Bm
  lr : w.heap.size ≤ Br
  lx : w.heap.size ≤ Bx
  lb : w.heap.size ≤ bk
theorem St2.ext {w wr w' : World} {most : Int} {Bm Br Bx bk : Nat} {u u' : Value} {t t' : T Int Int} {c : C6} (h : St2 w wr most Bm Br Bx bk u u' t t' c) (e : Ext wr w') : St2 w w' most Bm Br Bx bk u u' t t' c :=
  ⟨h.bm.ext e, h.br.ext e, h.bx.ext e, own_ext h.row e, h.book.ext e, below_ext h.bel e, h.lm, h.lr, h.lx, h.lb⟩
theorem St2.noted {w wr w' : World} {most : Int} {Bm Br Bx bk : Nat} {u u' : Value} {t t' : T Int Int} {c c' : C6} (h : St2 w wr most Bm Br Bx bk u u' t t' c) (hc : Chg (· = bk) wr w') (hB : Book w' bk t' c') : St2 w w' most Bm Br Bx bk u u' t' t' c' := by
  obtain ⟨cs, hb⟩ := h.book.blk
  exact ⟨h.bm.chg hc (.one hb (by decide)), h.br.chg hc (.one hb (by decide)), h.bx.chg hc (.one hb (by decide)), own_chg h.row hc (.one hb (by decide)), hB, below_chg h.bel hc (fun i hi => by rw [hi]; exact h.lb), h.lm, h.lr, h.lx, h.lb⟩
theorem St2.stored {w wr : World} {most : Int} {Bm Br Bx bk : Nat} {u u' : Value} {t : T Int Int} {c : C6} (h : St2 w wr most Bm Br Bx bk u u' t t c) (hi : InvC t c) : St w (wr.setCell ⟨Bx, 0, none⟩ u') most Bm Br Bx bk u' t c := by
  have hc : Chg (· = Bx) wr (wr.setCell ⟨Bx, 0, none⟩ u') := Chg.set _ _ _ _
  exact ⟨h.bm.chg hc (.one h.bx (by decide)), h.br.chg hc (.one h.bx (by decide)), h.bx.set 0 u' rfl, own_chg h.row hc (.one h.bx (by decide)), h.book.chg hc (.one h.bx (by decide)) (.one h.bx (by decide)) (.one h.bx (by decide)), hi, below_chg h.bel hc (fun i hi => by rw [hi]; exact h.lx), h.lm, h.lr, h.lx, h.lb⟩

theorem St.st2 {w wr : World} {most : Int} {Bm Br Bx bk : Nat} {u u' : Value} {t t' : T Int Int} {c : C6} (h : St w wr most Bm Br Bx bk u t c) (hr : Row wr w.heap.size u' t'.toL) : St2 w wr most Bm Br Bx bk u u' t t' c :=
  ⟨h.bm, h.br, h.bx, hr, h.book, h.bel, h.lm, h.lr, h.lx, h.lb⟩
theorem sz_nat {t : T Int Int} {k : Nat} (h : t.sz ≤ k) (hk : k ≤ 100) : t.toL.length ≤ 1000000 := by
  have := t.sz_toL
  omega

theorem Name_at (k : Int) (s : ByteArray) (h : nameOf k = s) (w : World) : Calls Try.prog 27 #[.int .i64 k] w fun e w' => e = .returned (.string s) ∧ w = w' := by rw [← h]; exact Name_any k w
theorem Known_at (k : Int) (b : Bool) (h : known k = b) (w : World) : Calls Try.prog 22 #[.int .i64 k] w fun e w' => e = .returned (.bool b) ∧ w = w' := by rw [← h]; exact known_any k w
theorem Count_at (b : Nat) (t : T Int Int) (c : C6) (k : Int) (w : World) (h : Book w b t c) (hc : cntC c k = cnt k t.toL) : Calls Try.prog 23 #[.pointer (some ⟨b, 0, none⟩), .int .i64 k] w fun e w' => e = .returned (.int .i64 (cnt k t.toL)) ∧ w = w' := by rw [← hc]; exact Count_any b t c k w h

theorem BAll_any (b : Nat) (t : T Int Int) (c : C6) (w : World) (h : Book w b t c) : Calls Try.prog 28 #[.pointer (some ⟨b, 0, none⟩)] w fun e w' =>
    ∃ q, isTree w q t ∧ e = .returned (.func (.func 64) #[] #[.pointer (some ⟨w.heap.size, 0, none⟩)]) ∧ w' = w.alloc (.cells #[.pointer q] 70) := by
  obtain ⟨q, hB, hT⟩ := h
  have b0 := Blk.cell (i := 0) hB rfl
  have HT := Lib.hid hT
  clear hB hT
  go_enter Try.func28, Try.ntmps28
  go_wp2_with fail
  refine (All_any _ _).mono ?_
  rintro e w' ⟨rfl, rfl⟩
  go_wp2_with fail
  go_ret
  exact ⟨q, HT.out, rfl, rfl⟩

/-- What the second kind of loop keeps. -/
def RI (wr : World) (Bn : Nat) (l : List (Int × Int)) (m : Int) (pre : List (Int × Int)) (W : World) : Prop :=
  ((W.cell? ⟨Bn, 0, none⟩ = some (.int .i64 pre.length) ∧ W.frozen? ⟨Bn, 0, none⟩ = false) ∧ (pre <+: l ∧ (pre.length : Int) ≤ m)) ∧ Below wr.heap.size wr W
/-- .. and where it is left. -/
def RX (wr : World) (Bn : Nat) (l : List (Int × Int)) (m : Int) (c : Code) (pre : List (Int × Int)) (W : World) : Prop :=
  (c = .exit 4 ∧ (pre.length : Int) = m + 1 ∧ (W.cell? ⟨Bn, 0, none⟩ = some (.int .i64 m) ∧ W.frozen? ⟨Bn, 0, none⟩ = false) ∧ Below wr.heap.size wr W) ∨ (c = .ret ∧ ¬ pre <+: l)
theorem RI.own (wr : World) (Bn : Nat) (l : List (Int × Int)) (m : Int) {B : Nat} (hB : wr.heap.size ≤ B) : OwnFrom B (RI wr Bn l m) :=
  OwnFrom.and (Own.from (fun s A B row hs hg hr => ⟨⟨cell_kept hs.1.1 hg hr, (frozen_kept hs.1.1 hg hr).trans hs.1.2⟩, hs.2⟩) _) (ownFrom_below (Nat.le_refl _) hB)
theorem RX.own (wr : World) (Bn : Nat) (l : List (Int × Int)) (m : Int) {B : Nat} (hB : wr.heap.size ≤ B) (c : Code) : OwnFrom B (RX wr Bn l m c) :=
  have h0 : OwnFrom B (fun (_ : List (Int × Int)) W => (W.cell? ⟨Bn, 0, none⟩ = some (.int .i64 m) ∧ W.frozen? ⟨Bn, 0, none⟩ = false) ∧ Below wr.heap.size wr W) :=
    OwnFrom.and (Own.from (fun s A B row hs hg hr => ⟨cell_kept hs.1 hg hr, (frozen_kept hs.1 hg hr).trans hs.2⟩) _) (ownFrom_below (Nat.le_refl _) hB)
  fun s A B row hs hg hr => hs.elim (fun h => .inl ⟨h.1, h.2.1, h0 s A B row h.2.2 hg hr⟩) .inr
theorem pre_next {α : Type} {pre l : List α} {x : α} (h : pre <+: l) (hn : pre.length < l.length) : pre ++ [x] <+: l ↔ l[pre.length] = x := by
  obtain ⟨r, rfl⟩ := h
  cases r with
  | nil => simp at hn
  | cons y r =>
    constructor
    · rintro ⟨r', h⟩
      rw [List.append_assoc] at h
      have := List.append_cancel_left h
      simp at this
      simp [this.1]
    · intro h
      simp at h
      exact ⟨r, by rw [h]; simp⟩

theorem blk_at {w : World} {cs : Array Value} {E k : Nat} (h : k = w.heap.size) : Blk (w.alloc (.cells cs E)) k cs E := h ▸ Blk.new w cs E
theorem results_cell {fn : Func} {p : Tmp} {ty : TypeId} (h : fn.results = #[.cell p ty]) (tmps : Array Value) (P : Program) (w : World) :
    (results fn tmps).run P w = ((asAddr (tmps.getD p undef)).run P w).andThen fun a w₁ => (loadVar ty a).run P w₁ := by
  simp only [results, h]
  simp [Sem.run_bind, Result.andThen]
theorem leaves_ret {n : Nat} {P : Program} {fn : Func} {R : Ending → World → Prop} {tmps : Array Value} {w : World} {v : Value} (h : (results fn tmps).run P w = .ok v w) (hR : R (.returned v) w) : bodyPostM Fence.wide n P fn R .ret { tmps, defers := [] } w :=
  ⟨v, h, hR⟩

set_option maxRecDepth 100000 in
set_option maxHeartbeats 4000000 in
theorem plays_in (n : Nat) (hn1 : 1 ≤ n) (a : Option Addr) (len cap : Nat) (b off : Nat) (F : Nat → Int × Int) (most : Int) (w : World) (ha : 0 < len → a = some ⟨b, off, none⟩) (hl : len ≤ maxLen) (hm0 : 0 ≤ most) (hm1 : most ≤ 18446744073709551615)
    (hF : ∀ W, Below w.heap.size w W → ∀ i, i < len → W.cell? ⟨b, off + i * 2, none⟩ = some (.int .i64 (F i).1) ∧ W.cell? ⟨b, off + i * 2 + 1, none⟩ = some (.int .i64 (F i).2)) :
    CallsIn Fence.wide n Try.prog 5 #[.slice a len cap, .int .u64 most] w fun e w' => e = .returned (.bool true) ∧ Below w.heap.size w w' := by
  have HA := Lib.hid ha
  have HF := Lib.hid hF
  clear ha hF
  unfold maxLen at hl
  refine callsIn_of_wp_marks Try.func5 rfl trivial ?_ rfl
  simp only [Try.ntmps5, List.size_toArray, List.length_cons, List.length_nil, Nat.reduceAdd, Nat.reduceSub, Array.replicate_succ, Array.replicate_zero, List.push_toArray, List.append_toArray, List.nil_append, List.cons_append]
  refine wpIn_wide.2 ?_
  by_cases h60 : (60 : Int) < (len : Int)
  · go_wp2_with fail
    refine (awake_any _).mono ?_
    rintro e w1 ⟨rfl, hE⟩
    have hb2 : Blk w1 (w.heap.size + 1) #[.bool false] 4 := (blk_at (by simp)).ext hE
    have r0 := hb2.cell (i := 0) rfl
    have r1 := hb2.frozen 0
    go_wp2_with fail
    have r2 := (hb2.set 0 (.bool true) rfl).cell (i := 0) rfl
    refine leaves_ret (v := .bool true) (by rw [results_cell rfl]; simp [go_sem, r2]) ⟨rfl, ?_⟩
    exact (below_ext (((Below.refl _ _).alloc (Nat.le_refl _) _).alloc (by simp) _) hE).setCell (by simp) _
  · have h60' : len ≤ 60 := by omega
    have hd60 : decide ((60 : Int) < (len : Int)) = false := decide_eq_false h60
    clear h60
    go_wp2_with fail
    refine (New_book _).mono ?_
    rintro e w1 ⟨bk, rfl, hbk, hB, hE⟩
    have HB := Lib.hid hB
    have HE := Lib.hid hE
    clear hB hE
    go_wp2_with fail
    have hS0 : St w (w1.alloc (Obj.cells #[Value.slice none 0 0] 34)) most w.heap.size (w.heap.size + 1) w1.heap.size bk (Value.slice none 0 0) .nil ⟨0, 0, 0, 0, 0, 0⟩ := by
      have e1 : Ext ((w.alloc (.cells #[.int .u64 most] 43)).alloc (.cells #[.bool false] 4)) (w1.alloc (Obj.cells #[Value.slice none 0 0] 34)) := HE.out.trans ((Below.refl _ _).alloc (Nat.le_refl _) _)
      have e0 : Ext w ((w.alloc (.cells #[.int .u64 most] 43)).alloc (.cells #[.bool false] 4)) := ((Below.refl _ _).alloc (Nat.le_refl _) _).alloc (by simp) _
      have hsz := HE.out.size
      simp at hsz hbk
      exact ⟨Blk.ext (Blk.ext (Blk.new _ _ _) ((Below.refl _ _).alloc (Nat.le_refl _) _)) e1, Blk.ext (blk_at (by simp)) e1, Blk.new _ _ _, World.ownsRow_nil _ _ _ _, HB.out.ext ((Below.refl _ _).alloc (Nat.le_refl _) _), InvC.nil, below_ext e0 e1, Nat.le_refl _, by omega, by omega, by omega⟩
    have HS0 := Lib.hid hS0
    clear hS0
    obtain ⟨Bx, hBx⟩ : ∃ Bx, w1.heap.size = Bx := ⟨_, rfl⟩
    obtain ⟨Br, hBr⟩ : ∃ Br, w.heap.size + 1 = Br := ⟨_, rfl⟩
    rw [hBx, hBr] at HS0 ⊢
    clear hBx hBr
    go_loopg [7] len (fun g i wr => ∃ (k : Nat) (t : T Int Int) (c : C6) (u : Value), i = .int .i64 k ∧ k ≤ len ∧ St w wr most w.heap.size Br Bx bk u t c ∧ t.sz ≤ k ∧ len - k ≤ g)
    case atStart => exact ⟨0, .nil, _, _, rfl, Nat.zero_le _, HS0.out, by simp [T.sz], Nat.le_refl _⟩
    case round =>
      obtain ⟨k, t, c, u, rfl, hk, hS, hsz, hg⟩ := hrel
      have HS := Lib.hid hS
      have HL := Lib.hid (sz_nat hsz (by omega))
      have HZ := Lib.hid hsz
      obtain ⟨au, cu, bu, Fu, rfl, _⟩ := hS.row.openR
      clear hS hsz HS0
      by_cases hik : k < len
      · have HK := Lib.hid (fun W (h : Below w.heap.size w W) => HF.out W h k hik)
        obtain rfl := HA.out (by omega)
        --A<
        have HI := Lib.hid (noteT_inv HS.out.inv (F k).1 (F k).2)
        have HZ' := Lib.hid (show (noteT t (F k).1 (F k).2).sz ≤ k + 1 by have := noteT_sz t (F k).1 (F k).2; have := HZ.out; omega)
        have HL' := Lib.hid (sz_nat (t := noteT t (F k).1 (F k).2) (k := k + 1) (by have := HZ'.out; omega) (by omega))
        have n1 : (noteOk t.toL (F k).1 (F k).2 != noteOk t.toL (F k).1 (F k).2) = false := by simp
        have n2 : (ofT (noteT t (F k).1 (F k).2) (F k).1 != ofT (noteT t (F k).1 (F k).2) (F k).1) = false := by simp
        have n3 : ((noteT t (F k).1 (F k).2).sz != ((noteT t (F k).1 (F k).2).toL.length : Int)) = false := by rw [T.sz_toL]; simp
        go_wp2_with fail
        have HS1 := Lib.hid (HS.out.ext (Ext.drew _))
        refine wp_region_segsK [([0, 1, 4, 1, 4, 7], 0, 0), ([3, 6], 2, 11), ([1, 5], 1, 0), ([5], 0, 0)] (by kernel_rfl) (by kernel_rfl) ?_
        apply segsK_pure
        · intro W
          simp only [runsT, runsF, rep, pick]
          go_wp2_with fail
          exact ⟨rfl, rfl⟩
        simp only [runsT, runsF, rep, left]
        apply segsK_look
        · obtain ⟨x0, x1⟩ := HK.out _ HS1.out.bel
          have x6 := HS1.out.bx.cell (i := 0) rfl
          simp only [runsT, runsF, rep, pick]
          go_wp2_with fail
          exact ⟨rfl, rfl⟩
        simp only [runsT, runsF, rep, left]
        apply segsK_op
        go_wp2_with fail
        refine (rNote_t _ _ _ _ HS1.out.inv.inv _ _ _ HS1.out.row HS1.out.size HL.out).mono ?_
        rintro e w2 ⟨u2, rfl, hR2, hE2⟩
        obtain ⟨a2, cap2, b2, F2, rfl, _⟩ := hR2.openR
        have HS2 := Lib.hid ((HS1.out.ext hE2).st2 (t' := noteT t (F k).1 (F k).2) hR2)
        clear hR2
        go_wp2_with fail
        refine ⟨fun h => (by cases h), ?_⟩
        apply segsK_pure
        · intro W
          simp only [runsT, runsF, rep, pick]
          go_wp2_with fail
          exact ⟨rfl, rfl⟩
        simp only [runsT, runsF, rep, left]
        apply segsK_nil
        go_wp2_with fail
        have HS2d := Lib.hid (HS2.out.ext (Ext.drew _))
        refine wp_region_segsK [([5, 1, 4, 2, 1, 1], 0, 0), ([2, 2], 2, 11), ([1, 1], 1, 0), ([1], 0, 0)] (by kernel_rfl) (by kernel_rfl) ?_
        apply segsK_pure
        · intro W
          simp only [runsT, runsF, rep, pick]
          go_wp2_with fail
          exact ⟨rfl, rfl⟩
        simp only [runsT, runsF, rep, left]
        apply segsK_look
        · obtain ⟨x0, x1⟩ := HK.out _ HS2d.out.bel
          have x6 := HS2d.out.bx.cell (i := 0) rfl
          simp only [runsT, runsF, rep, pick]
          go_wp2_with fail
          exact ⟨rfl, rfl⟩
        simp only [runsT, runsF, rep, left]
        apply segsK_op
        go_wp2_with fail
        refine (Note_all _ _ _ _ _ _ HS2d.out.book HS.out.inv.inv (by have := HZ.out; omega)).mono ?_
        rintro e w3 ⟨rfl, hB3, hC3⟩
        have HS3 := Lib.hid (HS2d.out.noted hC3 hB3)
        clear hB3 hC3
        have b0 := HS3.out.bx.cell (i := 0) rfl
        have b1 := HS3.out.bx.frozen 0
        go_wp2_with fail
        refine ⟨fun h => (by cases h), ?_⟩
        apply segsK_pure
        · intro W
          simp only [runsT, runsF, rep, pick]
          go_wp2_with fail
          exact ⟨rfl, rfl⟩
        simp only [runsT, runsF, rep, left]
        apply segsK_nil
        go_wp2_with fail
        have HS4 := Lib.hid (HS3.out.stored HI.out)
        clear b0 b1
        have HS4d := Lib.hid (HS4.out.ext (Ext.drew _))
        refine wp_region_segsK [([0, 1, 4, 7], 0, 0), ([2, 6], 2, 6), ([1, 5], 1, 0), ([5], 0, 0)] (by kernel_rfl) (by kernel_rfl) ?_
        apply segsK_pure
        · intro W
          simp only [runsT, runsF, rep, pick]
          go_wp2_with fail
          exact ⟨rfl, rfl⟩
        simp only [runsT, runsF, rep, left]
        apply segsK_look
        · obtain ⟨x0, x1⟩ := HK.out _ HS4d.out.bel
          have x6 := HS4d.out.bx.cell (i := 0) rfl
          simp only [runsT, runsF, rep, pick]
          go_wp2_with fail
          exact ⟨rfl, rfl⟩
        simp only [runsT, runsF, rep, left]
        apply segsK_op
        go_wp2_with fail
        refine (rGet_of _ _ _ _ _ HS4d.out.row HI.out.inv.up HL'.out).mono ?_
        rintro e w' ⟨bb, rfl, rfl⟩
        go_wp2_with fail
        refine ⟨fun h => (by cases h), ?_⟩
        apply segsK_pure
        · intro W
          simp only [runsT, runsF, rep, pick]
          go_wp2_with fail
          exact ⟨rfl, rfl⟩
        simp only [runsT, runsF, rep, left]
        apply segsK_nil
        go_wp2_with fail
        have HS5 := Lib.hid (HS4d.out.ext (Ext.drew _))
        refine wp_region_segsK [([5, 2, 1, 8], 0, 0), ([1, 9], 2, 6), ([1, 8], 1, 0), ([3, 5], 0, 0), ([0, 1, 2, 2], 3, 14), ([2], 0, 0)] (by kernel_rfl) (by kernel_rfl) ?_
        apply segsK_pure
        · intro W
          simp only [runsT, runsF, rep, pick]
          go_wp2_with fail
          exact ⟨rfl, rfl⟩
        simp only [runsT, runsF, rep, left]
        apply segsK_look
        · obtain ⟨x0, x1⟩ := HK.out _ HS5.out.bel
          have x6 := HS5.out.bx.cell (i := 0) rfl
          simp only [runsT, runsF, rep, pick]
          go_wp2_with fail
          exact ⟨rfl, rfl⟩
        simp only [runsT, runsF, rep, left]
        apply segsK_op
        go_wp2_with fail
        refine (Of_any _ _ _ _ _ HS5.out.book (by have := HZ'.out; omega)).mono ?_
        rintro e w6 ⟨rfl, hE6⟩
        have HS6 := Lib.hid (HS5.out.ext hE6)
        go_wp2_with fail
        refine ⟨fun h => (by cases h), ?_⟩
        apply segsK_pure
        · intro W
          simp only [runsT, runsF, rep, pick]
          go_wp2_with fail
          exact ⟨rfl, rfl⟩
        simp only [runsT, runsF, rep, left]
        apply segsK_class
        · intro W hW
          obtain ⟨x0, x1⟩ := HK.out _ (HS6.out.ext hW).bel
          have x6 := (HS6.out.ext hW).bx.cell (i := 0) rfl
          simp only [runsT, runsF, rep, pick]
          go_wp2_with fail
          exact ⟨rfl, rfl⟩
        simp only [runsT, runsF, rep, left]
        go_wp2_with fail
        refine (Len_any' _ _ _ _ HS6.out.book).mono ?_
        rintro e w' ⟨rfl, rfl⟩
        go_wp2_with fail
        refine ⟨fun _ => Ext.refl _, ?_⟩
        apply segsK_pure
        · intro W
          simp only [runsT, runsF, rep, pick]
          go_wp2_with fail
          exact ⟨rfl, rfl⟩
        simp only [runsT, runsF, rep, left]
        apply segsK_nil
        go_wp2_with fail
        go_roundg (len - (k + 1))
        case measure => omega
        case rel => exact ⟨k + 1, _, _, _, by go_num, by omega, HS6.out, HZ'.out, Nat.le_refl _⟩
        --A>
      · obtain rfl : k = len := by omega
        have hdk : decide ((k : Int) < (k : Int)) = false := decide_eq_false (by omega)
        clear hik
        go_wp2_with fail
        go_loopg [12] 10 (fun g i wr => ∃ j : Int, i = .int .i64 j ∧ -1 ≤ j ∧ j ≤ 8 ∧ St w wr most w.heap.size Br Bx bk (.slice au t.toL.length cu) t c ∧ (8 - j).toNat ≤ g)
        case atStart => exact ⟨-1, rfl, by omega, by omega, HS.out, by omega⟩
        case round =>
          obtain ⟨j, rfl, hj1, hj2, hS2, hg2⟩ := hrel
          have HS2 := Lib.hid hS2
          have x6 := hS2.bx.cell (i := 0) rfl
          have HC := Lib.hid (HS2.out.inv.count j)
          clear hS2
          have hj : (j = -1 ∨ j = 0 ∨ j = 1 ∨ j = 2 ∨ j = 3 ∨ j = 4 ∨ j = 5 ∨ j = 6 ∨ j = 7) ∨ j = 8 := by omega
          clear hj1 hj2
          rcases hj with hj | rfl
          · --B<
            rcases hj with rfl | rfl | rfl | rfl | rfl | rfl | rfl | rfl | rfl
            · have hne : (cnt (-1) t.toL != cnt (-1) t.toL) = false := by simp
              go_wp2_with fail
              refine (rCount_any _ _ _ _ _ HS2.out.row HL.out).mono ?_
              rintro e w' ⟨rfl, rfl⟩
              clear x6
              go_wp2_with fail
              refine (Count_at _ _ _ _ _ HS2.out.book HC.out).mono ?_
              rintro e w' ⟨rfl, rfl⟩
              go_wp2_with fail
              refine (Name_at _ ⟨#[]⟩ rfl _).mono ?_
              rintro e w' ⟨rfl, rfl⟩
              go_wp2_with fail
              refine (Known_at _ false rfl _).mono ?_
              rintro e w' ⟨rfl, rfl⟩
              go_wp2_with fail
              go_roundg (8 - 0)
              case measure => omega
              case rel => exact ⟨0, by go_num, by omega, by omega, HS2.out, by omega⟩
            · have hne : (cnt (0) t.toL != cnt (0) t.toL) = false := by simp
              go_wp2_with fail
              refine (rCount_any _ _ _ _ _ HS2.out.row HL.out).mono ?_
              rintro e w' ⟨rfl, rfl⟩
              clear x6
              go_wp2_with fail
              refine (Count_at _ _ _ _ _ HS2.out.book HC.out).mono ?_
              rintro e w' ⟨rfl, rfl⟩
              go_wp2_with fail
              refine (Name_at _ ⟨#[]⟩ rfl _).mono ?_
              rintro e w' ⟨rfl, rfl⟩
              go_wp2_with fail
              refine (Known_at _ false rfl _).mono ?_
              rintro e w' ⟨rfl, rfl⟩
              go_wp2_with fail
              go_roundg (8 - 1)
              case measure => omega
              case rel => exact ⟨1, by go_num, by omega, by omega, HS2.out, by omega⟩
            · have hne : (cnt (1) t.toL != cnt (1) t.toL) = false := by simp
              go_wp2_with fail
              refine (rCount_any _ _ _ _ _ HS2.out.row HL.out).mono ?_
              rintro e w' ⟨rfl, rfl⟩
              clear x6
              go_wp2_with fail
              refine (Count_at _ _ _ _ _ (HS2.out.ext ((Below.refl _ _).alloc (Nat.le_refl _) _)).book HC.out).mono ?_
              rintro e w' ⟨rfl, rfl⟩
              go_wp2_with fail
              refine (Name_at _ ⟨#[97, 100, 109, 105, 116, 116, 101, 100]⟩ rfl _).mono ?_
              rintro e w' ⟨rfl, rfl⟩
              go_wp2_with fail
              refine (Known_at _ true rfl _).mono ?_
              rintro e w' ⟨rfl, rfl⟩
              go_wp2_with fail
              go_roundg (8 - 2)
              case measure => omega
              case rel => exact ⟨2, by go_num, by omega, by omega, HS2.out.ext ((Below.refl _ _).alloc (Nat.le_refl _) _), by omega⟩
            · have hne : (cnt (2) t.toL != cnt (2) t.toL) = false := by simp
              go_wp2_with fail
              refine (rCount_any _ _ _ _ _ HS2.out.row HL.out).mono ?_
              rintro e w' ⟨rfl, rfl⟩
              clear x6
              go_wp2_with fail
              refine (Count_at _ _ _ _ _ (HS2.out.ext ((Below.refl _ _).alloc (Nat.le_refl _) _)).book HC.out).mono ?_
              rintro e w' ⟨rfl, rfl⟩
              go_wp2_with fail
              refine (Name_at _ ⟨#[117, 112, 100, 97, 116, 101, 100]⟩ rfl _).mono ?_
              rintro e w' ⟨rfl, rfl⟩
              go_wp2_with fail
              refine (Known_at _ true rfl _).mono ?_
              rintro e w' ⟨rfl, rfl⟩
              go_wp2_with fail
              go_roundg (8 - 3)
              case measure => omega
              case rel => exact ⟨3, by go_num, by omega, by omega, HS2.out.ext ((Below.refl _ _).alloc (Nat.le_refl _) _), by omega⟩
            · have hne : (cnt (3) t.toL != cnt (3) t.toL) = false := by simp
              go_wp2_with fail
              refine (rCount_any _ _ _ _ _ HS2.out.row HL.out).mono ?_
              rintro e w' ⟨rfl, rfl⟩
              clear x6
              go_wp2_with fail
              refine (Count_at _ _ _ _ _ (HS2.out.ext ((Below.refl _ _).alloc (Nat.le_refl _) _)).book HC.out).mono ?_
              rintro e w' ⟨rfl, rfl⟩
              go_wp2_with fail
              refine (Name_at _ ⟨#[114, 101, 106, 101, 99, 116, 101, 100]⟩ rfl _).mono ?_
              rintro e w' ⟨rfl, rfl⟩
              go_wp2_with fail
              refine (Known_at _ true rfl _).mono ?_
              rintro e w' ⟨rfl, rfl⟩
              go_wp2_with fail
              go_roundg (8 - 4)
              case measure => omega
              case rel => exact ⟨4, by go_num, by omega, by omega, HS2.out.ext ((Below.refl _ _).alloc (Nat.le_refl _) _), by omega⟩
            · have hne : (cnt (4) t.toL != cnt (4) t.toL) = false := by simp
              go_wp2_with fail
              refine (rCount_any _ _ _ _ _ HS2.out.row HL.out).mono ?_
              rintro e w' ⟨rfl, rfl⟩
              clear x6
              go_wp2_with fail
              refine (Count_at _ _ _ _ _ (HS2.out.ext ((Below.refl _ _).alloc (Nat.le_refl _) _)).book HC.out).mono ?_
              rintro e w' ⟨rfl, rfl⟩
              go_wp2_with fail
              refine (Name_at _ ⟨#[100, 114, 111, 112, 112, 101, 100]⟩ rfl _).mono ?_
              rintro e w' ⟨rfl, rfl⟩
              go_wp2_with fail
              refine (Known_at _ true rfl _).mono ?_
              rintro e w' ⟨rfl, rfl⟩
              go_wp2_with fail
              go_roundg (8 - 5)
              case measure => omega
              case rel => exact ⟨5, by go_num, by omega, by omega, HS2.out.ext ((Below.refl _ _).alloc (Nat.le_refl _) _), by omega⟩
            · have hne : (cnt (5) t.toL != cnt (5) t.toL) = false := by simp
              go_wp2_with fail
              refine (rCount_any _ _ _ _ _ HS2.out.row HL.out).mono ?_
              rintro e w' ⟨rfl, rfl⟩
              clear x6
              go_wp2_with fail
              refine (Count_at _ _ _ _ _ (HS2.out.ext ((Below.refl _ _).alloc (Nat.le_refl _) _)).book HC.out).mono ?_
              rintro e w' ⟨rfl, rfl⟩
              go_wp2_with fail
              refine (Name_at _ ⟨#[100, 105, 115, 99, 97, 114, 100, 101, 100]⟩ rfl _).mono ?_
              rintro e w' ⟨rfl, rfl⟩
              go_wp2_with fail
              refine (Known_at _ true rfl _).mono ?_
              rintro e w' ⟨rfl, rfl⟩
              go_wp2_with fail
              go_roundg (8 - 6)
              case measure => omega
              case rel => exact ⟨6, by go_num, by omega, by omega, HS2.out.ext ((Below.refl _ _).alloc (Nat.le_refl _) _), by omega⟩
            · have hne : (cnt (6) t.toL != cnt (6) t.toL) = false := by simp
              go_wp2_with fail
              refine (rCount_any _ _ _ _ _ HS2.out.row HL.out).mono ?_
              rintro e w' ⟨rfl, rfl⟩
              clear x6
              go_wp2_with fail
              refine (Count_at _ _ _ _ _ HS2.out.book HC.out).mono ?_
              rintro e w' ⟨rfl, rfl⟩
              go_wp2_with fail
              refine (Name_at _ ⟨#[]⟩ rfl _).mono ?_
              rintro e w' ⟨rfl, rfl⟩
              go_wp2_with fail
              refine (Known_at _ false rfl _).mono ?_
              rintro e w' ⟨rfl, rfl⟩
              go_wp2_with fail
              go_roundg (8 - 7)
              case measure => omega
              case rel => exact ⟨7, by go_num, by omega, by omega, HS2.out, by omega⟩
            · have hne : (cnt (7) t.toL != cnt (7) t.toL) = false := by simp
              go_wp2_with fail
              refine (rCount_any _ _ _ _ _ HS2.out.row HL.out).mono ?_
              rintro e w' ⟨rfl, rfl⟩
              clear x6
              go_wp2_with fail
              refine (Count_at _ _ _ _ _ HS2.out.book HC.out).mono ?_
              rintro e w' ⟨rfl, rfl⟩
              go_wp2_with fail
              refine (Name_at _ ⟨#[]⟩ rfl _).mono ?_
              rintro e w' ⟨rfl, rfl⟩
              go_wp2_with fail
              refine (Known_at _ false rfl _).mono ?_
              rintro e w' ⟨rfl, rfl⟩
              go_wp2_with fail
              go_roundg (8 - 8)
              case measure => omega
              case rel => exact ⟨8, by go_num, by omega, by omega, HS2.out, by omega⟩
          --B>
          · have hfn := fun (w : World) (f : Fn) (x y : Array Value) => run_eq_func_nil (P := Try.prog) Try.underlying52 f x y w
            clear x6
            go_wp2_with fail
            refine (BAll_any _ _ _ _ HS2.out.book).mono ?_
            rintro e w' ⟨q, hT, rfl, rfl⟩
            have HTr := Lib.hid hT
            clear hT
            go_wp2_with fail
            refine wpIn_wide (n := n).1 ?_
            obtain ⟨au', cu', bu', Fu', hrow, hau', hFu', hcu'⟩ := HS2.out.row.openR
            have hee := hrow
            injection hee with he1 he2 he3
            subst he1 he3
            clear he2 hrow
            have HCU := Lib.hid hcu'
            have HAU := Lib.hid hau'
            have HFU := Lib.hid hFu'
            clear hcu' hau' hFu'
            obtain ⟨m, hm⟩ : ∃ m : Int, most % 65 = m := ⟨_, rfl⟩
            have hm65 : 0 ≤ m ∧ m < 65 := by omega
            have hM : Hid (most % 65 = m) := hm
            clear hm
            have hB1 : Below wr.heap.size wr ((wr.alloc (Obj.cells #[Value.pointer q] 70)).alloc (Obj.cells #[Value.int .i64 0] 3)) := ((Below.refl _ wr).alloc (Nat.le_refl _) _).alloc (by simp) _
            have hq0 : ((wr.alloc (Obj.cells #[Value.pointer q] 70)).alloc (Obj.cells #[Value.int .i64 0] 3)).cell? ⟨wr.heap.size, 0, none⟩ = some (.pointer q) := ((Blk.new wr #[Value.pointer q] 70).ext ((Below.refl _ _).alloc (Nat.le_refl _) _)).cell (i := 0) rfl
            have hn0 : Blk ((wr.alloc (Obj.cells #[Value.pointer q] 70)).alloc (Obj.cells #[Value.int .i64 0] 3)) (wr.heap.size + 1) #[Value.int .i64 0] 3 := blk_at (by simp)
            have HB1 := Lib.hid hB1
            clear hB1
            refine wpIn_rangeFunc_ownX rfl hn1 (gf := 64) (lb := #[.pointer (some ⟨wr.heap.size, 0, none⟩)]) rfl trivial (enters_of Try.func64 (by kernel_rfl) rfl)
              (all_stops (n - 1) wr.heap.size wr.heap.size q t _ (by simp; omega) (by simp; omega) hq0 (HTr.out.low.below HB1.out)) belowK_t (belowK_b (by simp; omega)) (Below.refl _ _) (fun _ => rfl)
              (RI wr (wr.heap.size + 1) t.toL m) (RX wr (wr.heap.size + 1) t.toL m) (RI.own _ _ _ _ (by simp; omega)) (RX.own _ _ _ _ (by simp; omega)) ⟨⟨⟨hn0.cell (i := 0) rfl, hn0.frozen 0⟩, List.nil_prefix, hm65.1⟩, HB1.out⟩ ?hab ?done ?stop
            case hab =>
              apply Exists.intro
              refine ⟨?assign, ?body⟩
              case assign =>
                intro l x W K hK
                gi_wp2
                exact hK
              case body =>
                rintro l pre x W ⟨⟨⟨hc, hf⟩, hp, hpm⟩, hB⟩ hN
                have HW := Lib.hid (HS2.out.ext hB)
                have HP := Lib.hid hp
                have HB := Lib.hid hB
                have hbm := HW.out.bm.cell (i := 0) rfl
                have x6 := HW.out.bx.cell (i := 0) rfl
                have hM' := hM.out
                clear hB hp hq0 hn0
                obtain ⟨x1, x2⟩ := x
                by_cases hm : (pre.length : Int) < m
                · have dm : decide (m ≤ (pre.length : Int)) = false := decide_eq_false (by omega)
                  have dl : decide (t.toL.length ≤ pre.length) = false := decide_eq_false (by omega)
                  obtain rfl := HAU.out (by omega)
                  obtain ⟨y0, y1⟩ := HCU.out W HB.out pre.length hN
                  rw [Nat.zero_add] at y0 y1
                  have hmx := HFU.out pre.length hN
                  have HF' := Lib.hid hmx
                  have hpl : (pre.length : Int) ≤ 64 := by omega
                  have r0 := HW.out.br.cell (i := 0) rfl
                  have r1 := HW.out.br.frozen 0
                  have HMM := Lib.hid hm
                  clear hmx hm hpm
                  by_cases e1 : (Fu' pre.length).1 = x1
                  · by_cases e2 : (Fu' pre.length).2 = x2
                    · have HE1 := Lib.hid (show Fu' pre.length = (x1, x2) by rw [← e1, ← e2])
                      gi_wp2
                      have hx := (pre_next HP.out hN (x := (x1, x2))).2 (HF'.out.symm.trans HE1.out)
                      exact ⟨KeepsOthers.setCell _ _ _, (Below.refl _ W).setCell (p := ⟨wr.heap.size + 1, 0, none⟩) (by simp) _, ⟨⟨by rw [show ((pre ++ [(x1, x2)]).length : Int) = (pre.length : Int) + 1 by simp]; exact World.cell?_setCell_same' _ _ _ (by rw [hc]; rfl), by rw [World.frozen?_setCell]; exact hf⟩, hx, by have := HMM.out; simp; omega⟩, HB.out.setCell (p := ⟨wr.heap.size + 1, 0, none⟩) (by simp) _⟩
                    · have HE2 := Lib.hid e2
                      gi_wp2
                      refine ⟨KeepsOthers.setCell _ _ _, .inr ⟨rfl, fun hx => HE2.out ?_⟩⟩
                      rw [HF'.out, (pre_next HP.out hN (x := (x1, x2))).1 hx]
                  · have HE1 := Lib.hid e1
                    gi_wp2
                    refine ⟨KeepsOthers.setCell _ _ _, .inr ⟨rfl, fun hx => HE1.out ?_⟩⟩
                    rw [HF'.out, (pre_next HP.out hN (x := (x1, x2))).1 hx]
                · have dm : decide (m ≤ (pre.length : Int)) = true := decide_eq_true (by omega)
                  gi_wp2
                  have hpe : (pre.length : Int) = m := by omega
                  rw [hpe] at hc
                  exact ⟨KeepsOthers.refl _, .inl ⟨rfl, by simp; omega, ⟨hc, hf⟩, HB.out⟩⟩
            case done =>
              rintro D ys W hD rfl ⟨⟨⟨hc, hf⟩, hp, hpm⟩, hB⟩ hK
              have hv : ((t.toL.length : Int) == min (t.toL.length : Int) m) = true := by rw [Int.min_eq_left hpm]; simp
              have HW := Lib.hid (HS2.out.ext hB)
              have hbm := HW.out.bm.cell (i := 0) rfl
              have x6 := HW.out.bx.cell (i := 0) rfl
              have hM' := hM.out
              have HV := Lib.hid hv
              have HK := Lib.hid hK
              have HD := Lib.hid hD
              clear hB hK hD hq0 hn0 hf
              gi_wp2
              go_wp2_with fail
              refine (awake_any _).mono ?_
              rintro e w5 ⟨rfl, hE5⟩
              have HW5 := Lib.hid (HW.out.ext hE5)
              have HE5 := Lib.hid hE5
              have r0 := HW5.out.br.cell (i := 0) rfl
              have r1 := HW5.out.br.frozen 0
              clear hE5 hbm x6 hM' hc
              go_wp2_with fail
              have hlD : D < W.heap.size := (Array.getElem?_eq_some_iff.1 HK.out).1
              have hK5 : w5.heap[D]? = some (.deferred (some [])) := by rw [HE5.out.block D hlD]; exact HK.out
              have hK6 := (KeepsOthers.setCell w5 ⟨Br, 0, none⟩ (.bool true)).same D _ hK5 rfl
              have hc6 := cell_kept (World.cell?_setCell_same' w5 ⟨Br, 0, none⟩ (.bool true) (by rw [r0]; rfl)) (grownBy_putObj' _ D (.deferred none)) (fun r e => by cases e; exact ⟨_, hK6, rfl⟩)
              have hDw : w.heap.size ≤ D := by have h1 := HD.out; have h2 := HS2.out.size; simp at h1; omega
              refine ⟨by simp, .inl ⟨_, _, rfl, run_takeDeferred hK6, ?_⟩⟩
              refine ⟨.bool true, by rw [results_cell rfl]; simp [go_sem, hc6], rfl, ?_⟩
              exact (HW5.out.bel.setCell (p := ⟨Br, 0, none⟩) HW5.out.lr _).trans (belowK_b (w := w) (Nat.le_refl _) _ D _ _ hDw hK6 rfl rfl)
            case stop =>
              rintro D cc pre W hD hpre (⟨rfl, hlen, ⟨hc, hf⟩, hB⟩ | ⟨rfl, hno⟩) hK
              · have hlt : m < (t.toL.length : Int) := by have := hpre.length_le; omega
                have hv : (m == min (t.toL.length : Int) m) = true := by
                  have := hpre.length_le
                  rw [Int.min_eq_right (by omega)]; simp
                have HW := Lib.hid (HS2.out.ext hB)
                have hbm := HW.out.bm.cell (i := 0) rfl
                have x6 := HW.out.bx.cell (i := 0) rfl
                have hM' := hM.out
                have HV := Lib.hid hv
                have HK := Lib.hid hK
                have HD := Lib.hid hD
                clear hB hK hD hq0 hn0 hf
                gi_wp2
                go_wp2_with fail
                refine (awake_any _).mono ?_
                rintro e w5 ⟨rfl, hE5⟩
                have HW5 := Lib.hid (HW.out.ext hE5)
                have HE5 := Lib.hid hE5
                have r0 := HW5.out.br.cell (i := 0) rfl
                have r1 := HW5.out.br.frozen 0
                clear hE5 hbm x6 hM' hc
                go_wp2_with fail
                have hlD : D < W.heap.size := (Array.getElem?_eq_some_iff.1 HK.out).1
                have hK5 : w5.heap[D]? = some (.deferred (some [])) := by rw [HE5.out.block D hlD]; exact HK.out
                have hK6 := (KeepsOthers.setCell w5 ⟨Br, 0, none⟩ (.bool true)).same D _ hK5 rfl
                have hc6 := cell_kept (World.cell?_setCell_same' w5 ⟨Br, 0, none⟩ (.bool true) (by rw [r0]; rfl)) (grownBy_putObj' _ D (.deferred none)) (fun r e => by cases e; exact ⟨_, hK6, rfl⟩)
                have hDw : w.heap.size ≤ D := by have h1 := HD.out; have h2 := HS2.out.size; simp at h1; omega
                refine ⟨by simp, .inl ⟨_, _, rfl, run_takeDeferred hK6, ?_⟩⟩
                refine ⟨.bool true, by rw [results_cell rfl]; simp [go_sem, hc6], rfl, ?_⟩
                exact (HW5.out.bel.setCell (p := ⟨Br, 0, none⟩) HW5.out.lr _).trans (belowK_b (w := w) (Nat.le_refl _) _ D _ _ hDw hK6 rfl rfl)
              · exact absurd hpre hno

theorem plays_walk (a : Option Addr) (len cap : Nat) (b off : Nat) (F : Nat → Int × Int) (most : Int) (w : World) (ha : 0 < len → a = some ⟨b, off, none⟩) (hl : len ≤ maxLen) (hm0 : 0 ≤ most) (hm1 : most ≤ 18446744073709551615)
    (hF : ∀ W, Below w.heap.size w W → ∀ i, i < len → W.cell? ⟨b, off + i * 2, none⟩ = some (.int .i64 (F i).1) ∧ W.cell? ⟨b, off + i * 2 + 1, none⟩ = some (.int .i64 (F i).2)) :
    Calls Try.prog 5 #[.slice a len cap, .int .u64 most] w fun e w' => e = .returned (.bool true) ∧ Below w.heap.size w w' :=
  callsIn_wide.1 (plays_in 3 (by omega) a len cap b off F most w ha hl hm0 hm1 hF)
end Go.Proofs.Ytlnmnnoibimknaa.Fa
