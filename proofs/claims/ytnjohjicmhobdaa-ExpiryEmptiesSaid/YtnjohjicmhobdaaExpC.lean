/-
  An index of ends: each function comes to what the plain rows say.
  Fewer than 1,000,000 hashes; no other condition.
-/
import Derived.Test.YtnjohjicmhobdaaExpT2
import Derived.Test.YtnjohjicmhobdaaTrUI
import Derived.Test.YtnjohjicmhobdaaTrBk
import Derived.Test.YtnjohjicmhobdaaSegK
import Derived.Test.YtnjohjicmhobdaaOwnSet
namespace Go.Proofs.Ytnjohjicmhobdaa.Exi
open Go.RowKit Go.Seg Go.Open Go.Lib Rk Ex

def IndexAt (w : World) (b : Nat) (te : T Int Int) (tp : T Int (Option Addr)) (tt : Int → T Int Int) : Prop :=
  ∃ q1 q2, Blk w b #[.pointer q1, .pointer q2] 137 ∧ TrUI.isTree w q1 te ∧ TrBk.isTree w q2 tp ∧ ∀ x ∈ tp.toL, TrUI.isTree w x.2 (tt x.1)
theorem IndexAt.ext {w w' : World} {b : Nat} {te : T Int Int} {tp : T Int (Option Addr)} {tt : Int → T Int Int} (h : IndexAt w b te tp tt) (e : Ext w w') : IndexAt w' b te tp tt := by
  obtain ⟨q1, q2, h1, h2, h3, h4⟩ := h
  exact ⟨q1, q2, h1.ext e, h2.ext e, h3.ext e, fun x hx => (h4 x hx).ext e⟩
theorem IndexAt.setEnds {w : World} {b : Nat} {te te' : T Int Int} {tp : T Int (Option Addr)} {tt : Int → T Int Int} {q : Option Addr} (h : IndexAt w b te tp tt) (hq : TrUI.isTree w q te') : IndexAt (w.setCell ⟨b, 0, none⟩ (.pointer q)) b te' tp tt := by
  obtain ⟨q1, q2, h1, h2, h3, h4⟩ := h
  have hc := Chg.set w b 0 (.pointer q)
  exact ⟨q, q2, h1.set 0 _ rfl, hq.chg hc (.one h1 (by decide)) (.one h1 (by decide)), h3.chg hc (.one h1 (by decide)) (.one h1 (by decide)), fun x hx => (h4 x hx).chg hc (.one h1 (by decide)) (.one h1 (by decide))⟩
theorem IndexAt.setBks {w : World} {b : Nat} {te : T Int Int} {tp tp' : T Int (Option Addr)} {tt tt' : Int → T Int Int} {q : Option Addr} (h : IndexAt w b te tp tt) (hq : TrBk.isTree w q tp') (ht : ∀ x ∈ tp'.toL, TrUI.isTree w x.2 (tt' x.1)) : IndexAt (w.setCell ⟨b, 1, none⟩ (.pointer q)) b te tp' tt' := by
  obtain ⟨q1, q2, h1, h2, h3, h4⟩ := h
  have hc := Chg.set w b 1 (.pointer q)
  exact ⟨q1, q, h1.set 1 _ rfl, h2.chg hc (.one h1 (by decide)) (.one h1 (by decide)), hq.chg hc (.one h1 (by decide)) (.one h1 (by decide)), fun x hx => (ht x hx).chg hc (.one h1 (by decide)) (.one h1 (by decide))⟩

/-- An index of these rows. -/
def Idx (w : World) (b : Nat) (y : List (Int × Int)) : Prop := ∃ te tp tt, IndexAt w b te tp tt ∧ Inv te tp tt ∧ ordL tp.toL tt = y
theorem Idx.ext {w w' : World} {b : Nat} {y : List (Int × Int)} (h : Idx w b y) (e : Ext w w') : Idx w' b y := by
  obtain ⟨te, tp, tt, h1, h2⟩ := h
  exact ⟨te, tp, tt, h1.ext e, h2⟩
theorem Idx.blk {w : World} {b : Nat} {y : List (Int × Int)} (h : Idx w b y) : ∃ q1 q2, Blk w b #[.pointer q1, .pointer q2] 137 := by
  obtain ⟨te, tp, tt, ⟨q1, q2, h1, _⟩, _⟩ := h
  exact ⟨q1, q2, h1⟩

theorem Bucket_any (e : Int) (h1 : 1 ≤ e) (h2 : e ≤ 1099511627776) (w : World) : Calls Try.prog 87 #[.int .i64 e] w fun v w' => v = .returned (.int .i64 (bkt e)) ∧ w = w' := by
  have d1 : decide (e < 1) = false := decide_eq_false (by omega)
  go_enter Try.func87, Try.ntmps87
  go_wp2_with fail
  go_ret
  exact ⟨rfl, rfl⟩
theorem CDue_any (now n : Int) (h1 : 0 ≤ n) (h2 : n ≤ 274877906944) (w : World) : Calls Try.prog 100 #[.int .i64 n, .int .i64 now] w fun v w' => v = .returned (.bool (dueB now n)) ∧ w = w' := by
  have d1 : decide (n < 0) = false := decide_eq_false (by omega)
  have d2 : decide (274877906944 < n) = false := decide_eq_false (by omega)
  by_cases h : n < 274877906944
  · have d3 : (n == 274877906944) = false := beq_eq_false_iff_ne.2 (by omega)
    have e : dueB now n = decide (4 * n + 3 ≤ now) := by unfold dueB; rw [if_pos h]
    rw [e]
    by_cases hd : 4 * n + 3 ≤ now
    · have d4 : decide (n * 4 + 4 - 1 ≤ now) = true := decide_eq_true (by omega)
      rw [decide_eq_true hd]
      go_enter Try.func100, Try.ntmps100
      go_wp2_with fail
      go_ret
      refine ⟨?_, rfl⟩
      first | rfl | (congr 2; simp; omega)
    · have d4 : decide (n * 4 + 4 - 1 ≤ now) = false := decide_eq_false (by omega)
      rw [decide_eq_false hd]
      go_enter Try.func100, Try.ntmps100
      go_wp2_with fail
      go_ret
      refine ⟨?_, rfl⟩
      first | rfl | (congr 2; simp; omega)
  · obtain rfl : n = 274877906944 := by omega
    have e : dueB now 274877906944 = decide (1099511627776 ≤ now) := by unfold dueB; rw [if_neg (by omega)]
    rw [e]
    go_enter Try.func100, Try.ntmps100
    go_wp2_with fail
    go_ret
    exact ⟨rfl, rfl⟩

theorem New_idx (w : World) : Calls Try.prog 33 #[] w fun e w' => ∃ b, e = .returned (.pointer (some ⟨b, 0, none⟩)) ∧ w.heap.size ≤ b ∧ Idx w' b [] ∧ Ext w w' := by
  have hn : ∀ W, Calls Try.prog 83 #[] W fun e w' => ∃ q, e = .returned (.pointer q) ∧ TrUI.isTree w' q .nil ∧ Ext W w' := fun W => by
    go_enter Try.func83, Try.ntmps83
    go_wp2_with fail
    refine (TrUI.New_any _).mono ?_
    rintro e w' ⟨q, rfl, hq, hE⟩
    go_wp2_with fail
    go_ret
    exact ⟨q, rfl, hq, hE⟩
  have HN := Lib.hid hn
  clear hn
  go_enter Try.func33, Try.ntmps33
  go_wp2_with fail
  refine (HN.out _).mono ?_
  rintro e w1 ⟨q1, rfl, hq1, hE1⟩
  have HQ1 := Lib.hid hq1
  have HE1 := Lib.hid hE1
  clear hq1 hE1
  go_wp2_with fail
  refine (TrBk.New_any _).mono ?_
  rintro e w2 ⟨q2, rfl, hq2, hE2⟩
  have HQ2 := Lib.hid hq2
  have HE2 := Lib.hid hE2
  clear hq2 hE2
  go_wp2_with fail
  go_ret
  have hA : Ext w2 (w2.alloc (.cells #[.pointer q1, .pointer q2] 137)) := (Below.refl _ _).alloc (Nat.le_refl _) _
  exact ⟨_, rfl, Nat.le_trans HE1.out.size HE2.out.size, ⟨.nil, .nil, fun _ => .nil, ⟨q1, q2, Blk.new _ _ _, (HQ1.out.ext HE2.out).ext hA, HQ2.out.ext hA, fun x hx => by simp [T.toL] at hx⟩, Inv.nil, rfl⟩, (HE1.out.trans HE2.out).trans hA⟩

theorem End_any (b : Nat) (y : List (Int × Int)) (h : Int) (w : World) (hI : Idx w b y) (hl : y.length ≤ 1000000) : Calls Try.prog 43 #[.pointer (some ⟨b, 0, none⟩), .int .u64 h] w fun e w' => e = .returned (.int .i64 (endOf y h)) ∧ Ext w w' := by
  obtain ⟨te, tp, tt, ⟨q1, q2, hB, h1, _⟩, hInv, rfl⟩ := hI
  have hsz := ordL_len hInv
  rw [endOf_eq hInv h]
  have b0 := hB.cell (i := 0) rfl
  have H1 := Lib.hid h1
  obtain ⟨gv, hgv⟩ : ∃ gv, T.get cint h te = gv := ⟨_, rfl⟩
  rw [hgv]
  have HG := Lib.hid hgv
  clear hB h1 hInv hgv
  cases gv
  all_goals
    go_enter Try.func43, Try.ntmps43
    go_wp2_with fail
    refine (TrUI.Get_any h te _ _ H1.out (by omega)).mono ?_
    rintro e w' ⟨he, hE⟩
    rw [HG.out] at he
    obtain rfl := he
    go_wp2_with fail
    go_ret
    exact ⟨rfl, hE⟩
theorem End_nil (h : Int) (w : World) : Calls Try.prog 43 #[.pointer none, .int .u64 h] w fun e w' => e = .returned (.int .i64 0) ∧ w = w' := by
  go_enter Try.func43, Try.ntmps43
  go_wp2_with fail
  go_ret
  exact ⟨rfl, rfl⟩
theorem Len_idx (b : Nat) (y : List (Int × Int)) (w : World) (hI : Idx w b y) : Calls Try.prog 40 #[.pointer (some ⟨b, 0, none⟩)] w fun e w' => e = .returned (.int .i64 y.length) ∧ w = w' := by
  obtain ⟨te, tp, tt, ⟨q1, q2, hB, h1, _⟩, hInv, rfl⟩ := hI
  rw [ordL_len hInv]
  have b0 := hB.cell (i := 0) rfl
  have H1 := Lib.hid h1
  clear hB h1 hInv
  go_enter Try.func40, Try.ntmps40
  go_wp2_with fail
  refine (TrUI.Len_any te _ _ H1.out).mono ?_
  rintro e w' ⟨rfl, rfl⟩
  go_wp2_with fail
  go_ret
  exact ⟨rfl, rfl⟩
theorem Len_nil (w : World) : Calls Try.prog 40 #[.pointer none] w fun e w' => e = .returned (.int .i64 0) ∧ w = w' := by
  go_enter Try.func40, Try.ntmps40
  go_wp2_with fail
  go_ret
  exact ⟨rfl, rfl⟩
theorem Buckets_idx (b : Nat) (y : List (Int × Int)) (w : World) (hI : Idx w b y) : Calls Try.prog 41 #[.pointer (some ⟨b, 0, none⟩)] w fun e w' => e = .returned (.int .i64 (nb none y)) ∧ w = w' := by
  obtain ⟨te, tp, tt, ⟨q1, q2, hB, _, h1, _⟩, hInv, rfl⟩ := hI
  rw [nb_ordL hInv]
  have b0 := hB.cell (i := 1) rfl
  have H1 := Lib.hid h1
  clear hB h1 hInv
  go_enter Try.func41, Try.ntmps41
  go_wp2_with fail
  refine (TrBk.Len_any tp _ _ H1.out).mono ?_
  rintro e w' ⟨rfl, rfl⟩
  go_wp2_with fail
  go_ret
  exact ⟨rfl, rfl⟩
theorem Buckets_nil (w : World) : Calls Try.prog 41 #[.pointer none] w fun e w' => e = .returned (.int .i64 0) ∧ w = w' := by
  go_enter Try.func41, Try.ntmps41
  go_wp2_with fail
  go_ret
  exact ⟨rfl, rfl⟩
end Go.Proofs.Ytnjohjicmhobdaa.Exi
