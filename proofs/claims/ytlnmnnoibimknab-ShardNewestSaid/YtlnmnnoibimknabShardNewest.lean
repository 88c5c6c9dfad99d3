/-
  ShardNewest: the walk of the law, out of the contracts of package shard.
  At most 40 items (the law's own guard); no other condition.
-/
import Derived.Test.YtlnmnnoibimknabShNew
import Derived.Laws.ResultCell
import Derived.Shelf.Abstract
namespace Go.Proofs.Ytlnmnnoibimknab.ShN
open Go.RowKit Go.Shelf Go.Seg Go.Open Go.Lib Rk
attribute [local go_sem] Oper.semAt_some

theorem leaves_ret {n : Nat} {P : Program} {fn : Func} {R : Ending → World → Prop} {tmps : Array Value} {w : World} {v : Value} (h : (results fn tmps).run P w = .ok v w) (hR : R (.returned v) w) : bodyPostM Fence.wide n P fn R .ret { tmps, defers := [] } w :=
  ⟨v, h, hR⟩
theorem blk_at {w : World} {cs : Array Value} {E k : Nat} (h : k = w.heap.size) : Blk (w.alloc (.cells cs E)) k cs E := h ▸ Blk.new w cs E

theorem run_ne_func_nil {P : Program} {t : TypeId} {a b : Array TypeId} {v : Bool} (h : P.underlying t = some (.func a b v)) (fn : Fn) (x y : Array Value) (w : World) : (binOp .neq t (.func fn x y) .nilFunc).run P w = .ok (.bool true) w := by
  show (Sem.bind (Op.equalIn (9999 + 1) t (.func fn x y) .nilFunc) _).run P w = _
  unfold Op.equalIn
  simp [underlying, program, h, Sem.bind, Sem.run, bind, pure]
theorem Wt.start {tw : T Int (Int × Int)} {h h' : Int} {u : Nat → Bool} {k : Nat} (H : Wt tw h h' k (nl u k) (2 * k)) : Wt tw h h' ((k : Int) - (0 : Nat)) (if 0 = k then 0 else nl u k) (2 * k + (0 : Nat)) := by
  have e : (if 0 = k then (0 : Int) else nl u k) = nl u k := by
    split
    · rename_i h; subst h; rfl
    · rfl
  rw [e]
  simpa using H
theorem nl_ge (u : Nat → Bool) : ∀ k : Nat, 0 < k → 2 * ((k : Int) - 1) ≤ nl u k
  | k + 1, _ => by unfold nl; split <;> omega

/-- A range over the things of no shard: no round. -/
theorem range_none {n : Nat} {Q : Exit → Act → World → Prop} {a : Act} {W0 : World} {Bt : Nat} {body : Code} (hn1 : 1 ≤ n)
    (hg : a.eval (.tmp 143) = .func (.func 134) #[] #[.pointer (some ⟨Bt, 0, none⟩)]) (hBt : Bt < W0.heap.size) (hc : W0.cell? ⟨Bt, 0, none⟩ = some (.pointer none))
    (hdone : ∀ (D : Nat) (W : World), W0.heap.size ≤ D → Ext W0 W → W.heap[D]? = some (.deferred (some [])) → Q .normal { a with defers := { target := .collected D, args := #[] } :: a.defers } W) :
    (Code.rangeFunc (.tmp 143) #[144, 145] Code.skip body).wpIn Fence.wide n Try.prog Q a W0 := by
  refine wpIn_rangeFunc_ownX rfl hn1 (gf := 134) (lb := #[.pointer (some ⟨Bt, 0, none⟩)]) hg trivial (enters_of Try.func134 (by kernel_rfl) rfl)
    (ShS.none_stops (n - 1) Bt W0.heap.size W0 hBt hc) belowK_t (belowK_b (Nat.le_refl _)) (Below.refl _ _) (fun _ => rfl)
    (fun _ W => Below W0.heap.size W0 W) (fun _ _ _ => False) (ownFrom_below (Nat.le_refl _) (Nat.le_refl _)) (fun _ _ _ _ _ h => h.elim) (Below.refl _ _) ?hab ?done ?stop
  case hab =>
    apply Exists.intro
    refine ⟨?assign, ?body⟩
    case assign =>
      intro l x W K hK
      gi_wp2
      exact hK
    case body =>
      intro l pre x W _ hN
      exact absurd hN (Nat.not_lt_zero _)
  case done =>
    intro D xs W hD _ hB hK
    exact hdone D W hD hB hK
  case stop =>
    intro D c pre W _ h _ _
    exact h.elim

set_option maxRecDepth 100000 in
set_option maxHeartbeats 4000000 in
theorem newest_in (n : Nat) (hn1 : 1 ≤ n) (h : Int) (a : Option Addr) (len cap : Nat) (b off : Nat) (F : Nat → Bool) (s : ByteArray) (w : World) (ha : 0 < len → a = some ⟨b, off, none⟩) (hl : len ≤ maxLen) (hm0 : 0 ≤ h) (hm1 : h ≤ 18446744073709551615)
    (hF : ∀ W, Below w.heap.size w W → ∀ i, i < len → W.cell? ⟨b, off + i, none⟩ = some (.bool (F i))) :
    CallsIn Fence.wide n Try.prog 6 #[.int .u64 h, .slice a len cap, .string s] w fun e w' => e = .returned (.bool true) ∧ Below w.heap.size w w' := by
  have HA := Lib.hid ha
  have HF := Lib.hid hF
  clear ha hF
  unfold maxLen at hl
  refine callsIn_of_wp_marks Try.func6 rfl trivial ?_ rfl
  simp only [Try.ntmps6, List.size_toArray, List.length_cons, List.length_nil, Nat.reduceAdd, Nat.reduceSub, Array.replicate_succ, Array.replicate_zero, List.push_toArray, List.append_toArray, List.nil_append, List.cons_append]
  refine wpIn_wide.2 ?_
  by_cases h40 : (40 : Int) < (len : Int)
  · --A<
    go_wp2_with fail
    refine (awake_any _).mono ?_
    rintro e w1 ⟨rfl, hE⟩
    have hb2 : Blk w1 w.heap.size #[.bool false] 4 := (Blk.new w _ _).ext hE
    have r0 := hb2.cell (i := 0) rfl
    have r1 := hb2.frozen 0
    go_wp2_with fail
    have r2 := (hb2.set 0 (.bool true) rfl).cell (i := 0) rfl
    refine leaves_ret (v := .bool true) (by rw [ShS.results_cell rfl]; simp [go_sem, r2]) ⟨rfl, ?_⟩
    exact (below_ext ((Below.refl _ _).alloc (Nat.le_refl _) _) hE).setCell (by simp) _
    --A>
  · have h40' : len ≤ 40 := by omega
    have hd40 : decide ((40 : Int) < (len : Int)) = false := decide_eq_false h40
    clear h40
    obtain ⟨h', hh⟩ : ∃ h', IntKind.u64.wrap (h + 1) = h' := ⟨_, rfl⟩
    have hne : h' ≠ h := by
      subst hh
      simp [IntKind.wrap, IntKind.bits, IntKind.signed]
      omega
    have HNE := Lib.hid hne
    have HH := Lib.hid hh
    clear hne hh
    go_wp2_with fail
    refine (ShS.New_shard _).mono ?_
    rintro e w1 ⟨sb, rfl, hsb, hS, hE⟩
    have HS0 := Lib.hid (show SS w w1 sb .nil .nil from ⟨(Blk.new w _ _).ext hE, hS, below_ext ((Below.refl _ _).alloc (Nat.le_refl _) _) hE, by simp at hsb; omega⟩)
    clear hS hE hsb
    go_wp2_with fail
    go_loopg [8] len (fun g i wr => ∃ (k : Nat) (tw : T Int (Int × Int)), i = .int .i64 k ∧ k ≤ len ∧ SS w wr sb .nil tw ∧ Wt tw h h' k (nl F k) (2 * k) ∧ len - k ≤ g)
    case atStart => exact ⟨0, .nil, rfl, Nat.zero_le _, HS0.out, Wt.nil _ _, Nat.le_refl _⟩
    case round =>
      obtain ⟨k, tw, rfl, hk, hS, hw, hg⟩ := hrel
      have HS := Lib.hid hS
      have HW := Lib.hid hw
      clear hS hw HS0
      by_cases hik : k < len
      · --B<
        have HK := Lib.hid (fun W (h : Below w.heap.size w W) => HF.out W h k hik)
        obtain rfl := HA.out (by omega)
        have HSz := Lib.hid (show tw.sz < 1000000 by have := HW.out.sz; omega)
        go_wp2_with fail
        refine (ShS.Wait_any _ _ _ _ _ k _ HS.out.sh HSz.out (by rw [HW.out.one]) (by omega) (by omega)).mono ?_
        rintro e w2 ⟨rfl, hS2, hC2⟩
        have HS2 := Lib.hid (HS.out.chg hC2 hS2)
        have HW2 := Lib.hid (HW.out.put HNE.out ((k : Int) + 1) (2 * (k : Int)))
        clear hS2 hC2
        have x0 := HK.out _ HS2.out.bel
        cases hFk : F k with
        | false =>
          rw [hFk] at x0
          have HFk := Lib.hid hFk
          clear hFk
          go_wp2_with fail
          go_roundg (len - (k + 1))
          case measure => omega
          case rel => exact ⟨k + 1, _, by go_num, by omega, HS2.out, by have := HW2.out; simp only [nl, HFk.out]; exact ⟨this.up, by have := this.one; simpa using this, this.other, by have := this.sz; omega⟩, Nat.le_refl _⟩
        | true =>
          rw [hFk] at x0
          have HFk := Lib.hid hFk
          clear hFk
          go_wp2_with fail
          refine (ShS.Bump_yes _ _ _ _ _ ((k : Int) + 1) _ HS2.out.sh (by have := HW2.out.sz; omega) (by rw [HW2.out.one]) (by omega)).mono ?_
          rintro e w3 ⟨rfl, hS3, hC3⟩
          have HS3 := Lib.hid (HS2.out.chg hC3 hS3)
          have HW3 := Lib.hid (HW2.out.put HNE.out ((k : Int) + 1) (2 * (k : Int) + 1))
          clear hS3 hC3
          go_wp2_with fail
          go_roundg (len - (k + 1))
          case measure => omega
          case rel => exact ⟨k + 1, _, by go_num, by omega, HS3.out, by have := HW3.out; simp only [nl, HFk.out]; exact ⟨this.up, by have := this.one; simpa using this, this.other, by have := this.sz; omega⟩, Nat.le_refl _⟩
        --B>
      · obtain rfl : k = len := by omega
        have hdk : decide ((k : Int) < (k : Int)) = false := decide_eq_false (by omega)
        have HSz := Lib.hid (show tw.sz < 1000000 by have := HW.out.sz; omega)
        clear hik
        go_wp2_with fail
        refine (ShS.Pending_any _ _ _ _ _ HS.out.sh HSz.out).mono ?_
        rw [HW.out.one]
        rintro e w2 ⟨rfl, hE2⟩
        have HS2 := Lib.hid (HS.out.ext hE2)
        clear hE2
        have d1 : ((k : Int) != (k : Int)) = false := by simp
        go_wp2_with fail
        rw [HH.out]
        refine (ShS.Pending_any _ _ _ _ _ HS2.out.sh HSz.out).mono ?_
        rw [HW.out.other]
        rintro e w3 ⟨rfl, hE3⟩
        have HS3 := Lib.hid (HS2.out.ext hE3)
        clear hE3
        go_wp2_with fail
        rw [HH.out]
        refine (ShS.Bump_no _ _ _ _ _ _ HS3.out.sh HSz.out (by rw [HW.out.other])).mono ?_
        rintro e w4 ⟨rfl, hE4⟩
        have HS4 := Lib.hid (HS3.out.ext hE4)
        clear hE4
        go_wp2_with fail
        go_loopg [9] k (fun g i wr => ∃ (j : Nat) (tw : T Int (Int × Int)), i = .int .i64 j ∧ j ≤ k ∧ SS w wr sb .nil tw ∧ Wt tw h h' ((k : Int) - j) (if j = k then 0 else nl F k) (2 * k + j) ∧ k - j ≤ g)
        case atStart => exact ⟨0, tw, rfl, Nat.zero_le _, HS4.out, HW.out.start, Nat.le_refl _⟩
        case round =>
          clear HS HS2 HS3 HS4 HW HSz
          obtain ⟨j, tw, rfl, hj, hS, hw, hg2⟩ := hrel
          have HS := Lib.hid hS
          have HW := Lib.hid hw
          have HSz := Lib.hid (show tw.sz < 1000000 by have := hw.sz; omega)
          clear hS hw
          by_cases hjk : j < k
          · --C<
            have HK := Lib.hid (fun W (h : Below w.heap.size w W) => HF.out W h j hjk)
            obtain rfl := HA.out (by omega)
            have hone := HW.out.one
            rw [if_neg (by omega)] at hone
            by_cases hjl : j + 1 = k
            · have HO := Lib.hid (show ShS.wayOf tw h = (1, nl F k) by rw [hone, show (k : Int) - j = 1 by omega])
              have d2 : ((j : Int) == (k : Int) - 1) = true := by simp; omega
              clear hone
              cases hFj : F j with
              | false =>
                have HV := Lib.hid (show (nl F k == 2 * (j : Int)) = true by rw [← hjl]; simp [nl, hFj])
                go_wp2_with fail
                refine (ShS.Done_one _ _ _ _ _ (nl F k) true _ HS.out.sh HSz.out HO.out HV.out).mono ?_
                rintro e w5 ⟨rfl, hS5, hC5⟩
                have HS5 := Lib.hid (HS.out.chg hC5 hS5)
                have HW5 := Lib.hid (HW.out.drop HNE.out)
                clear hS5 hC5
                have x0 := HK.out _ HS5.out.bel
                rw [hFj] at x0
                have HFj := Lib.hid hFj
                clear hFj
                go_wp2_with fail
                go_roundg (k - (j + 1))
                case measure => omega
                case rel => exact ⟨j + 1, _, by go_num, by omega, HS5.out, by have := HW5.out; rw [if_pos hjl]; exact ⟨this.up, by rw [this.one, show (k : Int) - ((j + 1 : Nat) : Int) = 0 by omega], this.other, by have := this.sz; omega⟩, Nat.le_refl _⟩
              | true =>
                have HV := Lib.hid (show (nl F k == 2 * (j : Int)) = false by rw [← hjl]; simp [nl, hFj]; omega)
                go_wp2_with fail
                refine (ShS.Done_one _ _ _ _ _ (nl F k) false _ HS.out.sh HSz.out HO.out HV.out).mono ?_
                rintro e w5 ⟨rfl, hS5, hC5⟩
                have HS5 := Lib.hid (HS.out.chg hC5 hS5)
                have HW5 := Lib.hid (HW.out.drop HNE.out)
                clear hS5 hC5
                have x0 := HK.out _ HS5.out.bel
                rw [hFj] at x0
                have HFj := Lib.hid hFj
                clear hFj
                go_wp2_with fail
                go_roundg (k - (j + 1))
                case measure => omega
                case rel => exact ⟨j + 1, _, by go_num, by omega, HS5.out, by have := HW5.out; rw [if_pos hjl]; exact ⟨this.up, by rw [this.one, show (k : Int) - ((j + 1 : Nat) : Int) = 0 by omega], this.other, by have := this.sz; omega⟩, Nat.le_refl _⟩
            · have HO := Lib.hid hone
              have d2 : ((j : Int) == (k : Int) - 1) = false := by simp; omega
              have HV := Lib.hid (show (nl F k == 2 * (j : Int)) = false by have := nl_ge F k (by omega); simp; omega)
              clear hone
              go_wp2_with fail
              refine (ShS.Done_more _ _ _ _ _ ((k : Int) - j) (nl F k) false _ HS.out.sh HSz.out HO.out (by omega) (by omega) HV.out).mono ?_
              rintro e w5 ⟨rfl, hS5, hC5⟩
              have HS5 := Lib.hid (HS.out.chg hC5 hS5)
              have HW5 := Lib.hid (HW.out.put HNE.out ((k : Int) - j - 1) (nl F k))
              clear hS5 hC5
              go_wp2_with fail
              go_roundg (k - (j + 1))
              case measure => omega
              case rel => exact ⟨j + 1, _, by go_num, by omega, HS5.out, by have := HW5.out; rw [if_neg hjl]; exact ⟨this.up, by rw [this.one, show (k : Int) - ((j + 1 : Nat) : Int) = (k : Int) - j - 1 by omega], this.other, by have := this.sz; omega⟩, Nat.le_refl _⟩
            --C>
          · obtain rfl : j = k := by omega
            clear hjk hdk
            have hdk : decide ((j : Int) < (j : Int)) = false := decide_eq_false (by omega)
            have HO := Lib.hid (show ShS.wayOf tw h = (0, 0) by rw [HW.out.one]; simp)
            --D<
            go_wp2_with fail
            refine (ShS.Put_entry _ _ _ _ (3, s, 0, 0, 0, 0) _ HS.out.sh (by simp [T.sz])).mono ?_
            rintro e w5 ⟨rfl, hS5, hC5⟩
            have HS5 := Lib.hid (HS.out.chg hC5 hS5)
            clear hS5 hC5
            have HTs := Lib.hid (show (T.put cint h ((3, s, 0, 0, 0, 0) : ShS.Ent) .nil).sz < 1000000 by have := T.sz_put_le cint h ((3, s, 0, 0, 0, 0) : ShS.Ent) .nil; simp [T.sz] at this ⊢; omega)
            have HTg := Lib.hid (get_put_self cint_lawful h ((3, s, 0, 0, 0, 0) : ShS.Ent) (up_nil (c := cint)))
            go_wp2_with fail
            refine (ShS.Find_some _ _ _ _ 3 (3, s, 0, 0, 0, 0) _ HS5.out.sh HTs.out HTg.out rfl).mono ?_
            rintro e w6 ⟨rfl, hE6⟩
            have HS6 := Lib.hid ((HS5.out.ext hE6).ext (w' := (w6.alloc (Obj.cells #[.int .u64 3, .string s, .int .i64 0, .int .i64 0, .int .i64 0, .int .i64 0] 82))) ((Below.refl _ _).alloc (Nat.le_refl _) _))
            have HT6 := Lib.hid (show Blk (w6.alloc (Obj.cells #[.int .u64 3, .string s, .int .i64 0, .int .i64 0, .int .i64 0, .int .i64 0] 82)) w6.heap.size #[.int .u64 3, .string s, .int .i64 0, .int .i64 0, .int .i64 0, .int .i64 0] 82 from Blk.new _ _ _)
            clear hE6
            have hst6 := Go.run_storeCells_new (P := Try.prog) w6 82 #[.int .u64 0, .string ⟨#[]⟩, .int .i64 0, .int .i64 0, .int .i64 0, .int .i64 0] #[.int .u64 3, .string s, .int .i64 0, .int .i64 0, .int .i64 0, .int .i64 0] (by kernel_rfl) rfl (by simp [Value.oneCell'])
            go_wp2_with fail
            clear hst6
            refine (ShS.Find_other _ _ _ _ 4 (3, s, 0, 0, 0, 0) _ HS6.out.sh HTs.out HTg.out (show (3 : Int) ≠ 4 by decide)).mono ?_
            rintro e w7 ⟨rfl, hE7⟩
            have HS7 := Lib.hid ((HS6.out.ext hE7).ext (w' := (w7.alloc (Obj.cells #[.int .u64 0, .string ⟨#[]⟩, .int .i64 0, .int .i64 0, .int .i64 0, .int .i64 0] 82))) ((Below.refl _ _).alloc (Nat.le_refl _) _))
            have HT7 := Lib.hid (HT6.out.ext (hE7.trans (c := (w7.alloc (Obj.cells #[.int .u64 0, .string ⟨#[]⟩, .int .i64 0, .int .i64 0, .int .i64 0, .int .i64 0] 82))) ((Below.refl _ _).alloc (Nat.le_refl _) _)))
            have HT7' := Lib.hid (HT6.out.ext hE7)
            have hlt7 : w6.heap.size < w7.heap.size := HT7'.out.lt
            have t0 := HT7'.out.cell (i := 0) rfl
            have t1 := HT7'.out.cell (i := 1) rfl
            have t2 := HT7'.out.cell (i := 2) rfl
            have t3 := HT7'.out.cell (i := 3) rfl
            have t4 := HT7'.out.cell (i := 4) rfl
            have t5 := HT7'.out.cell (i := 5) rfl
            clear hE7
            have hst7 := Go.run_storeCells_new (P := Try.prog) w7 82 #[.int .u64 0, .string ⟨#[]⟩, .int .i64 0, .int .i64 0, .int .i64 0, .int .i64 0] #[.int .u64 0, .string ⟨#[]⟩, .int .i64 0, .int .i64 0, .int .i64 0, .int .i64 0] (by kernel_rfl) rfl (by simp [Value.oneCell'])
            go_wp2_with fail
            clear hst7 hlt7 t0 t1 t2 t3 t4 t5
            refine (ShS.Put_nil _ (3, s, 0, 0, 0, 0) _).mono ?_
            rintro e w8 ⟨rfl, hE8⟩
            have HS8 := Lib.hid (HS7.out.ext hE8)
            have HT8 := Lib.hid (HT7.out.ext hE8)
            clear hE8
            go_wp2_with fail
            refine (ShS.Wait_nil _ _ _).mono ?_
            rintro e w8' ⟨rfl, rfl⟩
            go_wp2_with fail
            refine (ShS.Look_nil _ _).mono ?_
            rintro e w9 ⟨rfl, hE9⟩
            have HS9 := Lib.hid ((HS8.out.ext hE9).ext (w' := (w9.alloc (Obj.cells #[.int .u64 0, .string ⟨#[]⟩, .int .i64 0, .int .i64 0, .int .i64 0, .int .i64 0] 82))) ((Below.refl _ _).alloc (Nat.le_refl _) _))
            have HT9 := Lib.hid (HT8.out.ext (hE9.trans (c := (w9.alloc (Obj.cells #[.int .u64 0, .string ⟨#[]⟩, .int .i64 0, .int .i64 0, .int .i64 0, .int .i64 0] 82))) ((Below.refl _ _).alloc (Nat.le_refl _) _)))
            clear hE9
            have hst9 := Go.run_storeCells_new (P := Try.prog) w9 82 #[.int .u64 0, .string ⟨#[]⟩, .int .i64 0, .int .i64 0, .int .i64 0, .int .i64 0] #[.int .u64 0, .string ⟨#[]⟩, .int .i64 0, .int .i64 0, .int .i64 0, .int .i64 0] (by kernel_rfl) rfl (by simp [Value.oneCell'])
            go_wp2_with fail
            clear hst9
            refine (ShS.Remove_nil _ _).mono ?_
            rintro e w10 ⟨rfl, hE10⟩
            have HS10 := Lib.hid ((HS9.out.ext hE10).ext (w' := (w10.alloc (Obj.cells #[.int .u64 0, .string ⟨#[]⟩, .int .i64 0, .int .i64 0, .int .i64 0, .int .i64 0] 82))) ((Below.refl _ _).alloc (Nat.le_refl _) _))
            have HT10 := Lib.hid (HT9.out.ext (hE10.trans (c := (w10.alloc (Obj.cells #[.int .u64 0, .string ⟨#[]⟩, .int .i64 0, .int .i64 0, .int .i64 0, .int .i64 0] 82))) ((Below.refl _ _).alloc (Nat.le_refl _) _)))
            clear hE10
            have hst10 := Go.run_storeCells_new (P := Try.prog) w10 82 #[.int .u64 0, .string ⟨#[]⟩, .int .i64 0, .int .i64 0, .int .i64 0, .int .i64 0] #[.int .u64 0, .string ⟨#[]⟩, .int .i64 0, .int .i64 0, .int .i64 0, .int .i64 0] (by kernel_rfl) rfl (by simp [Value.oneCell'])
            go_wp2_with fail
            clear hst10
            refine (ShS.Cut_nil _ _ _).mono ?_
            rintro e w11 ⟨rfl, hE11⟩
            have HS11 := Lib.hid ((HS10.out.ext hE11).ext (w' := (w11.alloc (Obj.cells #[.int .u64 0, .string ⟨#[]⟩, .int .i64 0, .int .i64 0, .int .i64 0, .int .i64 0] 82))) ((Below.refl _ _).alloc (Nat.le_refl _) _))
            have HT11 := Lib.hid (HT10.out.ext (hE11.trans (c := (w11.alloc (Obj.cells #[.int .u64 0, .string ⟨#[]⟩, .int .i64 0, .int .i64 0, .int .i64 0, .int .i64 0] 82))) ((Below.refl _ _).alloc (Nat.le_refl _) _)))
            clear hE11
            have hst11 := Go.run_storeCells_new (P := Try.prog) w11 82 #[.int .u64 0, .string ⟨#[]⟩, .int .i64 0, .int .i64 0, .int .i64 0, .int .i64 0] #[.int .u64 0, .string ⟨#[]⟩, .int .i64 0, .int .i64 0, .int .i64 0, .int .i64 0] (by kernel_rfl) rfl (by simp [Value.oneCell'])
            go_wp2_with fail
            clear hst11
            refine (ShS.SAll_nil _).mono ?_
            rintro e w12 ⟨rfl, rfl⟩
            have hfn := fun (w : World) (f : Fn) (x y : Array Value) => run_ne_func_nil (P := Try.prog) Try.underlying87 f x y w
            go_wp2_with fail
            clear hfn
            refine wpIn_wide (n := n).1 ?_
            have e12 : Ext (w11.alloc (Obj.cells #[.int .u64 0, .string ⟨#[]⟩, .int .i64 0, .int .i64 0, .int .i64 0, .int .i64 0] 82)) ((w11.alloc (Obj.cells #[.int .u64 0, .string ⟨#[]⟩, .int .i64 0, .int .i64 0, .int .i64 0, .int .i64 0] 82)).alloc (Obj.cells #[Value.pointer none] 125)) := (Below.refl _ _).alloc (Nat.le_refl _) _
            refine range_none hn1 rfl (by simp) ((blk_at (E := 125) (cs := #[.pointer none]) (by simp)).cell (i := 0) rfl) ?_
            intro D W hD hB hK
            have HW2 := Lib.hid ((HS11.out.ext e12).ext hB)
            have HTW := Lib.hid ((HT11.out.ext e12).ext hB)
            have HK := Lib.hid hK
            have HD := Lib.hid hD
            have x1 := HTW.out.cell (i := 1) rfl
            have HWb := Lib.hid HW2.out.bel
            clear hB hK hD e12
            gi_wp2
            go_wp2_with fail
            refine (ShS.Done_no _ _ _ _ _ _ HW2.out.sh HSz.out (by rw [HO.out])).mono ?_
            rintro e w13 ⟨rfl, hE⟩
            have HE13 := Lib.hid hE
            have t0 := (HTW.out.ext hE).cell (i := 0) rfl
            have t1 := (HTW.out.ext hE).cell (i := 1) rfl
            have t2 := (HTW.out.ext hE).cell (i := 2) rfl
            have t3 := (HTW.out.ext hE).cell (i := 3) rfl
            have t4 := (HTW.out.ext hE).cell (i := 4) rfl
            have t5 := (HTW.out.ext hE).cell (i := 5) rfl
            clear hE x1
            go_wp2_with fail
            clear t0 t1 t2 t3 t4 t5
            refine (ShS.Renew_nil _ (3, s, 0, 0, 0, 0) _).mono ?_
            rintro e w14 ⟨rfl, hE⟩
            have HE14 := Lib.hid (HE13.out.trans hE)
            clear hE
            go_wp2_with fail
            refine (ShS.Bump_nil _ _ _).mono ?_
            rintro e w15 ⟨rfl, hE⟩
            have HE15 := Lib.hid (HE14.out.trans hE)
            clear hE
            go_wp2_with fail
            refine (ShS.Done_nil _ _ _).mono ?_
            rintro e w16 ⟨rfl, hE⟩
            have HE16 := Lib.hid (HE15.out.trans hE)
            clear hE
            go_wp2_with fail
            refine (ShS.SLen_nil _).mono ?_
            rintro e w17 ⟨rfl, rfl⟩
            go_wp2_with fail
            refine (ShS.Pending_nil _ _).mono ?_
            rintro e w17 ⟨rfl, hE⟩
            have HE17 := Lib.hid (HE16.out.trans hE)
            clear hE
            go_wp2_with fail
            refine (awake_any _).mono ?_
            rintro e w5 ⟨rfl, hE⟩
            have HE5 := Lib.hid (HE17.out.trans hE)
            have HW5 := Lib.hid (HW2.out.ext HE5.out)
            have r0 := HW5.out.br.cell (i := 0) rfl
            have r1 := HW5.out.br.frozen 0
            clear hE
            go_wp2_with fail
            have hlD : D < W.heap.size := (Array.getElem?_eq_some_iff.1 HK.out).1
            have hK5 : w5.heap[D]? = some (.deferred (some [])) := by rw [HE5.out.block D hlD]; exact HK.out
            have hK6 := (KeepsOthers.setCell w5 ⟨w.heap.size, 0, none⟩ (.bool true)).same D _ hK5 rfl
            have hc6 := cell_kept (World.cell?_setCell_same' w5 ⟨w.heap.size, 0, none⟩ (.bool true) (by rw [r0]; rfl)) (grownBy_putObj' _ D (.deferred none)) (fun r e => by cases e; exact ⟨_, hK6, rfl⟩)
            have hDw : w.heap.size ≤ D := by have h1 := HD.out; have h2 := HS11.out.size; simp at h1 h2; omega
            refine ⟨by simp, .inl ⟨_, _, rfl, run_takeDeferred hK6, ?_⟩⟩
            refine ⟨.bool true, by rw [ShS.results_cell rfl]; simp [go_sem, hc6], rfl, ?_⟩
            exact (HW5.out.bel.setCell (p := ⟨w.heap.size, 0, none⟩) (Nat.le_refl _) _).trans (belowK_b (w := w) (Nat.le_refl _) _ D _ _ hDw hK6 rfl rfl)
            --D>

theorem newest_walk (h : Int) (a : Option Addr) (len cap : Nat) (b off : Nat) (F : Nat → Bool) (s : ByteArray) (w : World) (ha : 0 < len → a = some ⟨b, off, none⟩) (hl : len ≤ maxLen) (hm0 : 0 ≤ h) (hm1 : h ≤ 18446744073709551615)
    (hF : ∀ W, Below w.heap.size w W → ∀ i, i < len → W.cell? ⟨b, off + i, none⟩ = some (.bool (F i))) :
    Calls Try.prog 6 #[.int .u64 h, .slice a len cap, .string s] w fun e w' => e = .returned (.bool true) ∧ Below w.heap.size w w' :=
  callsIn_wide.1 (newest_in 3 (by omega) h a len cap b off F s w ha hl hm0 hm1 hF)
end Go.Proofs.Ytlnmnnoibimknab.ShN
