/-
  Histories: the calls that are asked for, by a number of each.
  At most 60 calls; no other condition.
-/
import Derived.Test.YtbjkpiobfiebhaaHsJ
namespace Go.Proofs.Ytbjkpiobfiebhaa.Hs
open Go.RowKit Go.Seg Go.Open Go.Lib Go.Arr Go.Stab Go.Row

def cint (a b : Int) : Int := if a < b then -1 else if b < a then 1 else 0

theorem nan_any (a : Int) (w : World) : Calls Try.prog 55 #[.int .i64 a] w fun e w' => e = .returned (.bool false) ∧ w = w' := by
  go_enter Try.func55, Try.ntmps55
  go_wp2
  go_ret
  exact ⟨rfl, rfl⟩
theorem cmp_any (a b : Int) (w : World) : Calls Try.prog 46 #[.int .i64 a, .int .i64 b] w fun e w' => e = .returned (.int .i64 (cint a b)) ∧ w = w' := by
  go_enter Try.func46, Try.ntmps46
  go_wp2_with (go_at_call 55; refine (nan_any _ _).mono ?_; rintro e w' ⟨rfl, rfl⟩)
  all_goals
    go_ret
    refine ⟨?_, rfl⟩
    unfold cint
    first
      | (rw [if_pos (by omega)]; rfl)
      | (rw [if_neg (by omega), if_pos (by omega)]; rfl)
      | (rw [if_neg (by omega), if_neg (by omega)]; rfl)
theorem cint_lt (a b : Int) : cint a b < 0 ↔ a < b := by
  unfold cint
  split
  · omega
  · split <;> omega
/-- The comparison of two by a number of each. -/
def BV (k : Nat) : Value := .func (.func k) #[] #[]
def ByOk (k : Nat) (key : C → Int) : Prop := ∀ (W : World) (x : C), Calls Try.prog k #[CV x] W fun e w' => e = .returned (.int .i64 (key x)) ∧ Ext W w'
/-- A row of none is sorted. -/
theorem insertion_zero (v : Value) (a : Option Addr) (cap : Nat) (w : World) :
    Calls Try.prog 65 #[.slice a 0 cap, .int .i64 0, .int .i64 0, v] w fun e w' => e = .returned (.tuple #[]) ∧ w = w' := by
  go_enter Try.func65, Try.ntmps65
  go_wp2_with fail
  go_loopg [8] 0 (fun g s wr => s = .int .i64 1 ∧ wr = w)
  case atStart => exact ⟨rfl, rfl⟩
  case round =>
    obtain ⟨rfl, rfl⟩ := hrel
    go_wp2_with fail
    go_end0
    exact ⟨rfl, rfl⟩
theorem stable_zero (v : Value) (a : Option Addr) (cap : Nat) (w : World) :
    Calls Try.prog 54 #[.slice a 0 cap, .int .i64 0, v] w fun e w' => e = .returned (.tuple #[]) ∧ w = w' := by
  go_enter Try.func54, Try.ntmps54
  go_wp2_with fail
  go_loopg [7, 8] 0 (fun g s t wr => s = .int .i64 0 ∧ t = .int .i64 20 ∧ wr = w)
  case atStart => exact ⟨rfl, rfl, rfl⟩
  case round =>
    obtain ⟨rfl, rfl, rfl⟩ := hrel
    go_wp2_with fail
    refine (insertion_zero _ _ _ _).mono ?_
    rintro e w1 ⟨rfl, rfl⟩
    go_wp2_with fail
    go_loopg [6] 0 (fun g s w1 => s = .int .i64 20 ∧ w1 = wr)
    case atStart => exact ⟨rfl, rfl⟩
    case round =>
      obtain ⟨rfl, rfl⟩ := hrel
      go_wp2_with fail
      go_end0
      exact ⟨rfl, rfl⟩
theorem sort_zero (v : Value) (a : Option Addr) (cap : Nat) (w : World) :
    Calls Try.prog 44 #[.slice a 0 cap, v] w fun e w' => e = .returned (.tuple #[]) ∧ w = w' := by
  go_enter Try.func44, Try.ntmps44
  go_wp2_with fail
  refine (stable_zero _ _ _ _).mono ?_
  rintro e w1 ⟨rfl, rfl⟩
  go_wp2_with fail
  go_end0
  exact ⟨rfl, rfl⟩
theorem sort_any (b N cap bx : Nat) (K : World → Prop) (key : C → Int) (hK : CmpOk bx b K key) (T : List (C × Nat)) (htag : TagsUp T) (hN : T.length = N) (hm : N ≤ 1000000) (w : World) (h : AtC w b T) (hKw : K w) :
    Calls Try.prog 44 #[.slice (some ⟨b, 0, none⟩) N cap, FV bx] w fun e w' => e = .returned (.tuple #[]) ∧ (∃ M', Done key T M' ∧ AtC w' b M') ∧ Chg (· = b) w w' := by
  have HS := Lib.hid (stable_any b N cap bx K key hK T htag hN hm w h hKw)
  clear hK htag hN h hKw
  unfold FV at *
  go_enter Try.func44, Try.ntmps44
  go_wp2_with fail
  refine HS.out.mono ?_
  rintro e w1 ⟨rfl, h1⟩
  have H1 := Lib.hid h1
  clear h1
  go_wp2_with fail
  go_end0
  exact ⟨rfl, H1.out⟩
/-- Rows of calls of one's own. -/
def RC : Row.Ty Try.prog := ⟨22, 29, .agg ZC, 13, 104, Try.underlying22, by kernel_rfl, rfl, by decide, by decide⟩
/-- Those that are asked for, each with its place. -/
def sel (p : C → Bool) (T : List C) : List (C × Nat) := T.zipIdx.filter fun q => p q.1
theorem sel_snoc (p : C → Bool) (S : List C) (x : C) : sel p (S ++ [x]) = sel p S ++ if p x then [(x, S.length)] else [] := by
  unfold sel
  rw [List.zipIdx_append, List.filter_append]
  congr 1
  cases h : p x <;> simp [h]
theorem sel_yes {p : C → Bool} (S : List C) (x : C) (h : p x = true) : sel p (S ++ [x]) = sel p S ++ [(x, S.length)] := by rw [sel_snoc, h]; rfl
theorem sel_no {p : C → Bool} (S : List C) (x : C) (h : p x = false) : sel p (S ++ [x]) = sel p S := by rw [sel_snoc, h]; simp
theorem sel_tags (p : C → Bool) (T : List C) : TagsUp (sel p T) := by
  refine List.Pairwise.filter _ ?_
  rw [List.pairwise_iff_getElem]
  intro i j hi hj hij
  simp
  exact hij
theorem sel_map (p : C → Bool) (T : List C) : (sel p T).map Prod.fst = T.filter p := by
  unfold sel
  have h := List.filter_map (p := p) (f := Prod.fst) (l := T.zipIdx)
  rw [List.zipIdx_map_fst] at h
  exact h.symm
theorem sel_len (p : C → Bool) (T : List C) : (sel p T).length ≤ T.length := by
  unfold sel
  exact Nat.le_trans (List.length_filter_le _ _) (by simp)
theorem row_at {w : World} {B b n cap : Nat} {L : List (C × Nat)} (h : RowG RC enc w B (.slice (some ⟨b, 0, none⟩) n cap) (L.map Prod.fst)) : AtC w b L ∧ B ≤ b ∧ b < w.heap.size := by
  obtain ⟨h1, h2⟩ := h
  rcases h2 with ⟨h3, _⟩ | ⟨g, cap', cur, h3, h4, h5, h6, h7, h8, h9⟩
  · cases h3
  · simp only [Value.slice.injEq, Option.some.injEq, Addr.mk.injEq] at h3
    obtain ⟨⟨rfl, -, -⟩, -, rfl⟩ := h3
    rw [List.length_map] at h6 h9
    refine ⟨⟨cur, h5, ?_, ?_⟩, h4, (Array.getElem?_eq_some_iff.1 h5).1⟩
    · rw [h8]; exact Nat.mul_le_mul_right _ h6
    · rw [show (13 : Nat) = RC.size from rfl, h9, List.flatMap_map]
      rfl
theorem at_vc {w : World} {b : Nat} {L : List (C × Nat)} (h : AtC w b L) : VC w (some ⟨b, 0, none⟩) L.length b 0 (L.map Prod.fst) := by
  refine ⟨List.length_map _, fun _ => rfl, fun W hW i hi j hj => ?_⟩
  have hi' : i < L.length := by rw [List.length_map] at hi; exact hi
  have := At.cell encT_len (h.ext hW) i hi' j hj
  rw [Nat.zero_add, this, List.getElem_map]
  rfl

theorem by_cnt : ByOk 29 (fun x => x.at_) := by
  intro w x
  have HB := Lib.hid (one_box w x)
  have p : (w.alloc (.cells #[.int .i64 x.cl, .int .i64 x.id, .int .i64 x.k, .int .i64 x.a, .int .i64 x.b, .int .i64 x.c, .int .i64 x.d, .int .i64 x.bgn, .int .i64 x.at_, .int .i64 x.en, .int .i64 x.tick, .bool x.ok, .int .i64 x.val] 29)).cell? ⟨w.heap.size, 8, none⟩ = some (.int .i64 x.at_) := Blk.cell (i := 8) HB.out.1 rfl
  unfold CV enc
  go_enter Try.func29, Try.ntmps29
  go_wp2_with fail
  go_ret
  exact ⟨rfl, HB.out.2⟩
theorem is_cnt (x : C) (w : World) : Calls Try.prog 28 #[CV x] w fun e w' => e = .returned (.bool (decide (0 ≤ x.at_))) ∧ Ext w w' := by
  have HB := Lib.hid (one_box w x)
  have p : (w.alloc (.cells #[.int .i64 x.cl, .int .i64 x.id, .int .i64 x.k, .int .i64 x.a, .int .i64 x.b, .int .i64 x.c, .int .i64 x.d, .int .i64 x.bgn, .int .i64 x.at_, .int .i64 x.en, .int .i64 x.tick, .bool x.ok, .int .i64 x.val] 29)).cell? ⟨w.heap.size, 8, none⟩ = some (.int .i64 x.at_) := Blk.cell (i := 8) HB.out.1 rfl
  unfold CV enc
  go_enter Try.func28, Try.ntmps28
  go_wp2_with fail
  go_ret
  exact ⟨rfl, HB.out.2⟩
set_option maxRecDepth 100000 in
set_option maxHeartbeats 2000000 in
theorem less_cnt (bx : Nat) (x y : C) (w : World) (hB : Blk w bx #[BV 29] 42) :
    Calls Try.prog 45 #[CV x, CV y, .pointer (some ⟨bx, 0, none⟩)] w fun e w' => (∃ c : Int, e = .returned (.int .i64 c) ∧ (c < 0 ↔ (fun x => x.at_) x < (fun x => x.at_) y)) ∧ Ext w w' := by
  have HB := Lib.hid (two_boxes w x y)
  obtain ⟨w2, hw2⟩ : ∃ w2, w2 = (w.alloc (.cells (enc x).toArray 29)).alloc (.cells (enc y).toArray 29) := ⟨_, rfl⟩
  have HX := Lib.hid (show At1 w2 w.heap.size 0 x by rw [hw2]; exact at1_blk HB.out.1.1)
  have HY := Lib.hid (show At1 w2 (w.heap.size + 1) 0 y by rw [hw2]; exact at1_blk HB.out.1.2)
  have HE := Lib.hid (show Ext w w2 by rw [hw2]; exact HB.out.2)
  have HBy := Lib.hid (show Blk w2 bx #[BV 29] 42 from hB.ext HE.out)
  have HW := Lib.hid hw2
  clear HB hw2 hB
  unfold CV
  go_enter Try.func45, Try.ntmps45
  go_upto_region 1 with fail
  have hw2 := HW.out
  rw [← hw2]
  clear hw2
  refine wp_region_segsK [([2, 1, 2, 3], 3, 5), ([1, 2], 1, 0), ([1, 1], 1, 0), ([1], 0, 0)] (by kernel_rfl) (by kernel_rfl) ?_
  apply segsK_class
  · intro W hW
    have y0 := (HBy.out.ext (Ext.drew _)).ext hW
    have l0 := Blk.cell (i := 0) y0 rfl
    have l1 := HX.out.ld W ((Ext.drew _).trans hW)
    have l2 := HY.out.ld W ((Ext.drew _).trans hW)
    unfold BV at l0
    simp only [runsT, runsF, rep, pick]
    go_wp2_with (first | refine Arr.wpList_ldA rfl _ _ rfl _ l1 ?_ | refine Arr.wpList_ldA rfl _ _ rfl _ l2 ?_)
    exact ⟨rfl, rfl⟩
  simp only [runsT, runsF, rep, left]
  go_wp2_with fail
  refine (by_cnt _ x).mono ?_
  rintro e w3 ⟨rfl, hE3⟩
  have HE3 := Lib.hid hE3
  clear hE3
  go_wp2_with fail
  refine ⟨fun _ => HE3.out, ?_⟩
  apply segsK_op
  go_wp2_with fail
  refine (by_cnt _ y).mono ?_
  rintro e w4 ⟨rfl, hE4⟩
  have HE4 := Lib.hid hE4
  clear hE4
  go_wp2_with fail
  refine ⟨fun h => (by cases h), ?_⟩
  apply segsK_op
  go_wp2_with fail
  refine (cmp_any _ _ _).mono ?_
  rintro e w5 ⟨rfl, rfl⟩
  go_wp2_with fail
  refine ⟨fun h => (by cases h), ?_⟩
  apply segsK_pure
  · intro W
    simp only [runsT, runsF, rep, pick]
    go_wp2_with (first | refine Arr.wpList_ldA rfl _ _ rfl _ l1 ?_ | refine Arr.wpList_ldA rfl _ _ rfl _ l2 ?_)
    exact ⟨rfl, rfl⟩
  simp only [runsT, runsF, rep, left]
  apply segsK_nil
  go_wp2_with fail
  go_ret
  exact ⟨⟨_, rfl, by first | exact cint_lt _ _ | exact cint_lt 0 0⟩, HE.out.trans ((Ext.drew _).trans (HE3.out.trans HE4.out))⟩
theorem less_ok_cnt (bx b : Nat) (hne : bx ≠ b) : CmpOk bx b (fun W => Blk W bx #[BV 29] 42) (fun x => x.at_) :=
  ⟨fun W hW x y => less_cnt bx x y W hW, fun W W' hW hc => Prg.blk_chg1 hW hc hne⟩
set_option maxRecDepth 100000 in
set_option maxHeartbeats 4000000 in
theorem those_cnt (T : List C) (a : Option Addr) (len cap b off : Nat) (w : World) (hV : VC w a len b off T) (hl : len ≤ 60) :
    Calls Try.prog 27 #[.slice a len cap, .func (.func 28) #[] #[], .func (.func 29) #[] #[]] w fun e w' => (∃ (a' : Option Addr) (n cap' b' : Nat) (L : List (C × Nat)), e = .returned (.slice a' n cap') ∧ n ≤ cap' ∧ n ≤ 60 ∧ VC w' a' n b' 0 (L.map Prod.fst) ∧ Done (fun x => x.at_) (sel (fun x => decide (0 ≤ x.at_)) T) L) ∧ Ext w w' := by
  have hE1 : Ext w (w.alloc (.cells #[BV 29] 42)) := ext_alloc _ _
  have HE1 := Lib.hid hE1
  have HBX := Lib.hid (show Blk (w.alloc (.cells #[BV 29] 42)) w.heap.size #[BV 29] 42 from Blk.new _ _ _)
  have HV := Lib.hid (hV.ext hE1)
  skip
  clear hE1 hV
  go_enter Try.func27, Try.ntmps27
  go_upto_region 1 with fail
  obtain ⟨w1, hw1⟩ : ∃ w1, w1 = w.alloc (.cells #[BV 29] 42) := ⟨_, rfl⟩
  rw [← hw1] at HE1 HBX HV
  try rw [← hw1] at HC
  unfold BV at hw1
  rw [← hw1]
  have HSZ := Lib.hid (show w1.heap.size = w.heap.size + 1 by rw [hw1]; simp)
  clear hw1
  go_wp2_with fail
  go_loopg [7, 12] len (fun g v s wr => ∃ (i : Nat) (S R : List C), s = .int .i64 i ∧ i ≤ len ∧ Hid (T = S ++ R ∧ S.length = i) ∧ Hid (RowG RC enc wr w1.heap.size v ((sel (fun x => decide (0 ≤ x.at_)) S).map Prod.fst) ∧ Ext w1 wr) ∧ len - i ≤ g)
  case atStart => exact ⟨0, [], T, rfl, Nat.zero_le _, Lib.hid ⟨rfl, rfl⟩, Lib.hid ⟨RowG.nil _ _, Ext.refl _⟩, Nat.le_refl _⟩
  case round =>
    obtain ⟨i, S, R, rfl, hi, HX, HR, hg⟩ := hrel
    obtain ⟨av, cv, rfl⟩ := HR.out.1.val
    obtain ⟨n, hn⟩ : ∃ n, ((sel (fun x => decide (0 ≤ x.at_)) S).map Prod.fst).length = n := ⟨_, rfl⟩
    rw [hn]
    have HN := Lib.hid (show n ≤ i by rw [← hn, List.length_map, ← HX.out.2]; exact sel_len _ _)
    have HNE := Lib.hid hn
    have HRow := Lib.hid (show RowG RC enc wr w1.heap.size (.slice av n cv) ((sel (fun x => decide (0 ≤ x.at_)) S).map Prod.fst) by have := HR.out.1; rw [hn] at this; exact this)
    clear hn
    by_cases hil : i < len
    · have d0 : decide (i < len) = true := decide_eq_true hil
      obtain rfl := HV.out.ad (by omega)
      obtain ⟨x, R', rfl⟩ : ∃ x R', R = x :: R' := by
        cases R with
        | nil => have h1 := HX.out; have h2 := HV.out.len; rw [h1.1] at h2; simp at h2; omega
        | cons x R' => exact ⟨x, R', rfl⟩
      have hx := HV.out.at1 S R' x HX.out.1 i HX.out.2.symm
      have l1 := hx.ld wr HR.out.2
      have s1 := st_new wr x
      have HB := Lib.hid (one_box wr x)
      obtain ⟨w2, hw2⟩ : ∃ w2, w2 = wr.alloc (.cells (enc x).toArray 29) := ⟨_, rfl⟩
      rw [← hw2] at s1
      have HA := Lib.hid (show At1 w2 wr.heap.size 0 x by rw [hw2]; exact at1_blk HB.out.1)
      have HE2 := Lib.hid (show Ext wr w2 by rw [hw2]; exact HB.out.2)
      unfold ZC at s1
      have l2 := HA.out.ld w2 (Ext.refl _)
      clear hx HB hw2
      go_wp2_with (first | refine Arr.wpList_ldA rfl _ _ rfl _ l1 ?_ | refine Arr.wpList_stA rfl _ _ _ rfl rfl s1 ?_ | refine Arr.wpList_ldA rfl _ _ rfl _ l2 ?_)
      refine (is_cnt x _).mono ?_
      rintro e w3 ⟨rfl, hE3⟩
      have HE3 := Lib.hid hE3
      clear hE3
      obtain ⟨r, hr⟩ : ∃ r : Bool, (decide (0 ≤ x.at_)) = r := ⟨_, rfl⟩
      rw [hr]
      cases r with
      | true =>
        have HSN := Lib.hid (sel_yes (p := (fun x => decide (0 ≤ x.at_))) S x hr)
        clear hr
        have l3 := HA.out.ld w3 HE3.out
        have HRow3 := Lib.hid (HRow.out.ext (HE2.out.trans HE3.out))
        unfold CV enc at l3
        go_wp2_with (first | refine Arr.wpList_ldA rfl _ _ rfl _ l3 ?_ | (at_builtin; refine appG (R := RC) (f := enc) (W := w3) rfl _ _ rfl _ ((sel (fun x => decide (0 ≤ x.at_)) S).map Prod.fst) rfl HRow3.out x _ rfl rfl (enc_one _) w3.heap.size rfl rfl (by rw [HNE.out]; have := HN.out; omega) (HR.out.2.trans (HE2.out.trans HE3.out)) (Nat.le_refl _) (HR.out.2.trans (HE2.out.trans HE3.out)).size ?_))
        intro a1 c1 w4 hO1 hE4 hz1 hb1
        have HF := Lib.hid (And.intro hO1 hE4)
        clear hO1 hE4 hz1 hb1
        go_wp2_with fail
        go_roundg (len - (i + 1))
        case measure => omega
        case rel =>
          refine ⟨i + 1, S ++ [x], R', by go_num, by omega, Lib.hid ⟨by rw [HX.out.1]; simp, by rw [List.length_append, HX.out.2]; rfl⟩, Lib.hid ⟨?_, HF.out.2⟩, Nat.le_refl _⟩
          rw [HSN.out]
          have := HF.out.1
          simpa using this
      | false =>
        have HSN := Lib.hid (sel_no (p := (fun x => decide (0 ≤ x.at_))) S x hr)
        clear hr
        go_wp2_with fail
        go_roundg (len - (i + 1))
        case measure => omega
        case rel =>
          refine ⟨i + 1, S ++ [x], R', by go_num, by omega, Lib.hid ⟨by rw [HX.out.1]; simp, by rw [List.length_append, HX.out.2]; rfl⟩, Lib.hid ⟨?_, HR.out.2.trans (HE2.out.trans HE3.out)⟩, Nat.le_refl _⟩
          rw [HSN.out]
          have := (HRow.out.ext (HE2.out.trans HE3.out))
          simpa using this
    · obtain rfl : i = len := by omega
      have d0 : decide (i < i) = false := decide_eq_false (by omega)
      have HTS := Lib.hid (show T = S by
        have h1 := HX.out
        have h2 := HV.out.len
        rw [h1.1, List.length_append] at h2
        rw [h1.1, List.eq_nil_of_length_eq_zero (show R.length = 0 by omega), List.append_nil])
      go_upto_region 8 with fail
      have HSort : Calls Try.prog 44 #[.slice av n cv, .func (.func 45) #[] #[.pointer (some ⟨w.heap.size, 0, none⟩)]] wr fun e w' => e = .returned (.tuple #[]) ∧ (∃ b' L, VC w' av n b' 0 (L.map Prod.fst) ∧ Done (fun x => x.at_) (sel (fun x => decide (0 ≤ x.at_)) S) L) ∧ Ext w w' := by
        have hnl : (sel (fun x => decide (0 ≤ x.at_)) S).length = n := by have := HNE.out; rwa [List.length_map] at this
        cases av with
        | none =>
          have hz := Row.Own.none' (R := RC) HR.out.1 rfl
          have hz0 : n = 0 := by have := hz.1; rw [HNE.out] at this; exact this
          subst hz0
          have e0 : sel (fun x => decide (0 ≤ x.at_)) S = [] := List.eq_nil_of_length_eq_zero hnl
          refine (sort_zero _ _ _ _).mono ?_
          rintro e w' ⟨rfl, rfl⟩
          exact ⟨rfl, ⟨0, [], ⟨rfl, fun h => by omega, fun W hW i hi => by simp at hi⟩, by rw [e0]; exact Done.refl List.Pairwise.nil⟩, HE1.out.trans HR.out.2⟩
        | some ad =>
          obtain ⟨g, rfl⟩ : ∃ g, ad = ⟨g, 0, none⟩ := by
            rcases HRow.out.2 with ⟨h3, _⟩ | ⟨g, cap', cur, h3, _⟩
            · cases h3
            · simp only [Value.slice.injEq, Option.some.injEq] at h3
              exact ⟨g, h3.1⟩
          obtain ⟨k1, k2, k3⟩ := row_at (L := sel (fun x => decide (0 ≤ x.at_)) S) HRow.out
          refine (sort_any g n cv w.heap.size _ (fun x => x.at_) (less_ok_cnt w.heap.size g (by have := HSZ.out; omega)) _ (sel_tags _ S) hnl (by have := HN.out; omega) _ k1 (HBX.out.ext HR.out.2)).mono ?_
          rintro e w' ⟨rfl, ⟨M', q1, q2⟩, q3⟩
          refine ⟨rfl, ⟨g, M', ?_, q1⟩, below_chg (HE1.out.trans HR.out.2) q3 (fun i hi => by have := HSZ.out; omega)⟩
          have := at_vc q2
          rw [q1.1.length_eq, hnl] at this
          exact this
      have HS := Lib.hid HSort
      clear HSort
      go_wp2_with fail
      refine HS.out.mono ?_
      rintro e w5 ⟨rfl, h5⟩
      have H5 := Lib.hid h5
      clear h5
      go_wp2_with fail
      go_ret
      obtain ⟨⟨b', L, q1, q2⟩, q3⟩ := H5.out
      refine ⟨⟨av, n, cv, b', L, rfl, ?_, by have := HN.out; omega, q1, by rw [HTS.out]; exact q2⟩, q3⟩
      obtain ⟨a', c', h1, h2, h3, h4⟩ := Row.Own.val (R := RC) HRow.out
      simp only [Value.slice.injEq] at h1
      rw [h1.2.1, h1.2.2]
      exact h3

theorem by_ord : ByOk 37 (fun x => x.bgn) := by
  intro w x
  have HB := Lib.hid (one_box w x)
  have p : (w.alloc (.cells #[.int .i64 x.cl, .int .i64 x.id, .int .i64 x.k, .int .i64 x.a, .int .i64 x.b, .int .i64 x.c, .int .i64 x.d, .int .i64 x.bgn, .int .i64 x.at_, .int .i64 x.en, .int .i64 x.tick, .bool x.ok, .int .i64 x.val] 29)).cell? ⟨w.heap.size, 7, none⟩ = some (.int .i64 x.bgn) := Blk.cell (i := 7) HB.out.1 rfl
  unfold CV enc
  go_enter Try.func37, Try.ntmps37
  go_wp2_with fail
  go_ret
  exact ⟨rfl, HB.out.2⟩
theorem is_ord (x : C) (w : World) : Calls Try.prog 36 #[CV x] w fun e w' => e = .returned (.bool true) ∧ Ext w w' := by
  have HB := Lib.hid (one_box w x)
  skip
  unfold CV enc
  go_enter Try.func36, Try.ntmps36
  go_wp2_with fail
  go_ret
  exact ⟨rfl, HB.out.2⟩
set_option maxRecDepth 100000 in
set_option maxHeartbeats 2000000 in
theorem less_ord (bx : Nat) (x y : C) (w : World) (hB : Blk w bx #[BV 37] 42) :
    Calls Try.prog 45 #[CV x, CV y, .pointer (some ⟨bx, 0, none⟩)] w fun e w' => (∃ c : Int, e = .returned (.int .i64 c) ∧ (c < 0 ↔ (fun x => x.bgn) x < (fun x => x.bgn) y)) ∧ Ext w w' := by
  have HB := Lib.hid (two_boxes w x y)
  obtain ⟨w2, hw2⟩ : ∃ w2, w2 = (w.alloc (.cells (enc x).toArray 29)).alloc (.cells (enc y).toArray 29) := ⟨_, rfl⟩
  have HX := Lib.hid (show At1 w2 w.heap.size 0 x by rw [hw2]; exact at1_blk HB.out.1.1)
  have HY := Lib.hid (show At1 w2 (w.heap.size + 1) 0 y by rw [hw2]; exact at1_blk HB.out.1.2)
  have HE := Lib.hid (show Ext w w2 by rw [hw2]; exact HB.out.2)
  have HBy := Lib.hid (show Blk w2 bx #[BV 37] 42 from hB.ext HE.out)
  have HW := Lib.hid hw2
  clear HB hw2 hB
  unfold CV
  go_enter Try.func45, Try.ntmps45
  go_upto_region 1 with fail
  have hw2 := HW.out
  rw [← hw2]
  clear hw2
  refine wp_region_segsK [([2, 1, 2, 3], 3, 5), ([1, 2], 1, 0), ([1, 1], 1, 0), ([1], 0, 0)] (by kernel_rfl) (by kernel_rfl) ?_
  apply segsK_class
  · intro W hW
    have y0 := (HBy.out.ext (Ext.drew _)).ext hW
    have l0 := Blk.cell (i := 0) y0 rfl
    have l1 := HX.out.ld W ((Ext.drew _).trans hW)
    have l2 := HY.out.ld W ((Ext.drew _).trans hW)
    unfold BV at l0
    simp only [runsT, runsF, rep, pick]
    go_wp2_with (first | refine Arr.wpList_ldA rfl _ _ rfl _ l1 ?_ | refine Arr.wpList_ldA rfl _ _ rfl _ l2 ?_)
    exact ⟨rfl, rfl⟩
  simp only [runsT, runsF, rep, left]
  go_wp2_with fail
  refine (by_ord _ x).mono ?_
  rintro e w3 ⟨rfl, hE3⟩
  have HE3 := Lib.hid hE3
  clear hE3
  go_wp2_with fail
  refine ⟨fun _ => HE3.out, ?_⟩
  apply segsK_op
  go_wp2_with fail
  refine (by_ord _ y).mono ?_
  rintro e w4 ⟨rfl, hE4⟩
  have HE4 := Lib.hid hE4
  clear hE4
  go_wp2_with fail
  refine ⟨fun h => (by cases h), ?_⟩
  apply segsK_op
  go_wp2_with fail
  refine (cmp_any _ _ _).mono ?_
  rintro e w5 ⟨rfl, rfl⟩
  go_wp2_with fail
  refine ⟨fun h => (by cases h), ?_⟩
  apply segsK_pure
  · intro W
    simp only [runsT, runsF, rep, pick]
    go_wp2_with (first | refine Arr.wpList_ldA rfl _ _ rfl _ l1 ?_ | refine Arr.wpList_ldA rfl _ _ rfl _ l2 ?_)
    exact ⟨rfl, rfl⟩
  simp only [runsT, runsF, rep, left]
  apply segsK_nil
  go_wp2_with fail
  go_ret
  exact ⟨⟨_, rfl, by first | exact cint_lt _ _ | exact cint_lt 0 0⟩, HE.out.trans ((Ext.drew _).trans (HE3.out.trans HE4.out))⟩
theorem less_ok_ord (bx b : Nat) (hne : bx ≠ b) : CmpOk bx b (fun W => Blk W bx #[BV 37] 42) (fun x => x.bgn) :=
  ⟨fun W hW x y => less_ord bx x y W hW, fun W W' hW hc => Prg.blk_chg1 hW hc hne⟩
set_option maxRecDepth 100000 in
set_option maxHeartbeats 4000000 in
theorem those_ord (T : List C) (a : Option Addr) (len cap b off : Nat) (w : World) (hV : VC w a len b off T) (hl : len ≤ 60) :
    Calls Try.prog 27 #[.slice a len cap, .func (.func 36) #[] #[], .func (.func 37) #[] #[]] w fun e w' => (∃ (a' : Option Addr) (n cap' b' : Nat) (L : List (C × Nat)), e = .returned (.slice a' n cap') ∧ n ≤ cap' ∧ n ≤ 60 ∧ VC w' a' n b' 0 (L.map Prod.fst) ∧ Done (fun x => x.bgn) (sel (fun _ => true) T) L) ∧ Ext w w' := by
  have hE1 : Ext w (w.alloc (.cells #[BV 37] 42)) := ext_alloc _ _
  have HE1 := Lib.hid hE1
  have HBX := Lib.hid (show Blk (w.alloc (.cells #[BV 37] 42)) w.heap.size #[BV 37] 42 from Blk.new _ _ _)
  have HV := Lib.hid (hV.ext hE1)
  skip
  clear hE1 hV
  go_enter Try.func27, Try.ntmps27
  go_upto_region 1 with fail
  obtain ⟨w1, hw1⟩ : ∃ w1, w1 = w.alloc (.cells #[BV 37] 42) := ⟨_, rfl⟩
  rw [← hw1] at HE1 HBX HV
  try rw [← hw1] at HC
  unfold BV at hw1
  rw [← hw1]
  have HSZ := Lib.hid (show w1.heap.size = w.heap.size + 1 by rw [hw1]; simp)
  clear hw1
  go_wp2_with fail
  go_loopg [7, 12] len (fun g v s wr => ∃ (i : Nat) (S R : List C), s = .int .i64 i ∧ i ≤ len ∧ Hid (T = S ++ R ∧ S.length = i) ∧ Hid (RowG RC enc wr w1.heap.size v ((sel (fun _ => true) S).map Prod.fst) ∧ Ext w1 wr) ∧ len - i ≤ g)
  case atStart => exact ⟨0, [], T, rfl, Nat.zero_le _, Lib.hid ⟨rfl, rfl⟩, Lib.hid ⟨RowG.nil _ _, Ext.refl _⟩, Nat.le_refl _⟩
  case round =>
    obtain ⟨i, S, R, rfl, hi, HX, HR, hg⟩ := hrel
    obtain ⟨av, cv, rfl⟩ := HR.out.1.val
    obtain ⟨n, hn⟩ : ∃ n, ((sel (fun _ => true) S).map Prod.fst).length = n := ⟨_, rfl⟩
    rw [hn]
    have HN := Lib.hid (show n ≤ i by rw [← hn, List.length_map, ← HX.out.2]; exact sel_len _ _)
    have HNE := Lib.hid hn
    have HRow := Lib.hid (show RowG RC enc wr w1.heap.size (.slice av n cv) ((sel (fun _ => true) S).map Prod.fst) by have := HR.out.1; rw [hn] at this; exact this)
    clear hn
    by_cases hil : i < len
    · have d0 : decide (i < len) = true := decide_eq_true hil
      obtain rfl := HV.out.ad (by omega)
      obtain ⟨x, R', rfl⟩ : ∃ x R', R = x :: R' := by
        cases R with
        | nil => have h1 := HX.out; have h2 := HV.out.len; rw [h1.1] at h2; simp at h2; omega
        | cons x R' => exact ⟨x, R', rfl⟩
      have hx := HV.out.at1 S R' x HX.out.1 i HX.out.2.symm
      have l1 := hx.ld wr HR.out.2
      have s1 := st_new wr x
      have HB := Lib.hid (one_box wr x)
      obtain ⟨w2, hw2⟩ : ∃ w2, w2 = wr.alloc (.cells (enc x).toArray 29) := ⟨_, rfl⟩
      rw [← hw2] at s1
      have HA := Lib.hid (show At1 w2 wr.heap.size 0 x by rw [hw2]; exact at1_blk HB.out.1)
      have HE2 := Lib.hid (show Ext wr w2 by rw [hw2]; exact HB.out.2)
      unfold ZC at s1
      have l2 := HA.out.ld w2 (Ext.refl _)
      clear hx HB hw2
      go_wp2_with (first | refine Arr.wpList_ldA rfl _ _ rfl _ l1 ?_ | refine Arr.wpList_stA rfl _ _ _ rfl rfl s1 ?_ | refine Arr.wpList_ldA rfl _ _ rfl _ l2 ?_)
      refine (is_ord x _).mono ?_
      rintro e w3 ⟨rfl, hE3⟩
      have HE3 := Lib.hid hE3
      clear hE3
      obtain ⟨r, hr⟩ : ∃ r : Bool, true = r := ⟨_, rfl⟩
      rw [hr]
      cases r with
      | true =>
        have HSN := Lib.hid (sel_yes (p := (fun _ => true)) S x hr)
        clear hr
        have l3 := HA.out.ld w3 HE3.out
        have HRow3 := Lib.hid (HRow.out.ext (HE2.out.trans HE3.out))
        unfold CV enc at l3
        go_wp2_with (first | refine Arr.wpList_ldA rfl _ _ rfl _ l3 ?_ | (at_builtin; refine appG (R := RC) (f := enc) (W := w3) rfl _ _ rfl _ ((sel (fun _ => true) S).map Prod.fst) rfl HRow3.out x _ rfl rfl (enc_one _) w3.heap.size rfl rfl (by rw [HNE.out]; have := HN.out; omega) (HR.out.2.trans (HE2.out.trans HE3.out)) (Nat.le_refl _) (HR.out.2.trans (HE2.out.trans HE3.out)).size ?_))
        intro a1 c1 w4 hO1 hE4 hz1 hb1
        have HF := Lib.hid (And.intro hO1 hE4)
        clear hO1 hE4 hz1 hb1
        go_wp2_with fail
        go_roundg (len - (i + 1))
        case measure => omega
        case rel =>
          refine ⟨i + 1, S ++ [x], R', by go_num, by omega, Lib.hid ⟨by rw [HX.out.1]; simp, by rw [List.length_append, HX.out.2]; rfl⟩, Lib.hid ⟨?_, HF.out.2⟩, Nat.le_refl _⟩
          rw [HSN.out]
          have := HF.out.1
          simpa using this
      | false =>
        have HSN := Lib.hid (sel_no (p := (fun _ => true)) S x hr)
        clear hr
        go_wp2_with fail
        go_roundg (len - (i + 1))
        case measure => omega
        case rel =>
          refine ⟨i + 1, S ++ [x], R', by go_num, by omega, Lib.hid ⟨by rw [HX.out.1]; simp, by rw [List.length_append, HX.out.2]; rfl⟩, Lib.hid ⟨?_, HR.out.2.trans (HE2.out.trans HE3.out)⟩, Nat.le_refl _⟩
          rw [HSN.out]
          have := (HRow.out.ext (HE2.out.trans HE3.out))
          simpa using this
    · obtain rfl : i = len := by omega
      have d0 : decide (i < i) = false := decide_eq_false (by omega)
      have HTS := Lib.hid (show T = S by
        have h1 := HX.out
        have h2 := HV.out.len
        rw [h1.1, List.length_append] at h2
        rw [h1.1, List.eq_nil_of_length_eq_zero (show R.length = 0 by omega), List.append_nil])
      go_upto_region 8 with fail
      have HSort : Calls Try.prog 44 #[.slice av n cv, .func (.func 45) #[] #[.pointer (some ⟨w.heap.size, 0, none⟩)]] wr fun e w' => e = .returned (.tuple #[]) ∧ (∃ b' L, VC w' av n b' 0 (L.map Prod.fst) ∧ Done (fun x => x.bgn) (sel (fun _ => true) S) L) ∧ Ext w w' := by
        have hnl : (sel (fun _ => true) S).length = n := by have := HNE.out; rwa [List.length_map] at this
        cases av with
        | none =>
          have hz := Row.Own.none' (R := RC) HR.out.1 rfl
          have hz0 : n = 0 := by have := hz.1; rw [HNE.out] at this; exact this
          subst hz0
          have e0 : sel (fun _ => true) S = [] := List.eq_nil_of_length_eq_zero hnl
          refine (sort_zero _ _ _ _).mono ?_
          rintro e w' ⟨rfl, rfl⟩
          exact ⟨rfl, ⟨0, [], ⟨rfl, fun h => by omega, fun W hW i hi => by simp at hi⟩, by rw [e0]; exact Done.refl List.Pairwise.nil⟩, HE1.out.trans HR.out.2⟩
        | some ad =>
          obtain ⟨g, rfl⟩ : ∃ g, ad = ⟨g, 0, none⟩ := by
            rcases HRow.out.2 with ⟨h3, _⟩ | ⟨g, cap', cur, h3, _⟩
            · cases h3
            · simp only [Value.slice.injEq, Option.some.injEq] at h3
              exact ⟨g, h3.1⟩
          obtain ⟨k1, k2, k3⟩ := row_at (L := sel (fun _ => true) S) HRow.out
          refine (sort_any g n cv w.heap.size _ (fun x => x.bgn) (less_ok_ord w.heap.size g (by have := HSZ.out; omega)) _ (sel_tags _ S) hnl (by have := HN.out; omega) _ k1 (HBX.out.ext HR.out.2)).mono ?_
          rintro e w' ⟨rfl, ⟨M', q1, q2⟩, q3⟩
          refine ⟨rfl, ⟨g, M', ?_, q1⟩, below_chg (HE1.out.trans HR.out.2) q3 (fun i hi => by have := HSZ.out; omega)⟩
          have := at_vc q2
          rw [q1.1.length_eq, hnl] at this
          exact this
      have HS := Lib.hid HSort
      clear HSort
      go_wp2_with fail
      refine HS.out.mono ?_
      rintro e w5 ⟨rfl, h5⟩
      have H5 := Lib.hid h5
      clear h5
      go_wp2_with fail
      go_ret
      obtain ⟨⟨b', L, q1, q2⟩, q3⟩ := H5.out
      refine ⟨⟨av, n, cv, b', L, rfl, ?_, by have := HN.out; omega, q1, by rw [HTS.out]; exact q2⟩, q3⟩
      obtain ⟨a', c', h1, h2, h3, h4⟩ := Row.Own.val (R := RC) HRow.out
      simp only [Value.slice.injEq] at h1
      rw [h1.2.1, h1.2.2]
      exact h3

theorem by_of : ByOk 39 (fun _ => (0 : Int)) := by
  intro w x
  have HB := Lib.hid (one_box w x)
  skip
  unfold CV enc
  go_enter Try.func39, Try.ntmps39
  go_wp2_with fail
  go_ret
  exact ⟨rfl, HB.out.2⟩
theorem is_of (cl : Int) (bc : Nat) (x : C) (w : World) (hC : Blk w bc #[.int .i64 cl] 3) : Calls Try.prog 38 #[CV x, .pointer (some ⟨bc, 0, none⟩)] w fun e w' => e = .returned (.bool (x.cl == cl)) ∧ Ext w w' := by
  have HB := Lib.hid (one_box w x)
  have p : (w.alloc (.cells #[.int .i64 x.cl, .int .i64 x.id, .int .i64 x.k, .int .i64 x.a, .int .i64 x.b, .int .i64 x.c, .int .i64 x.d, .int .i64 x.bgn, .int .i64 x.at_, .int .i64 x.en, .int .i64 x.tick, .bool x.ok, .int .i64 x.val] 29)).cell? ⟨w.heap.size, 0, none⟩ = some (.int .i64 x.cl) := Blk.cell (i := 0) HB.out.1 rfl
  have q : (w.alloc (.cells #[.int .i64 x.cl, .int .i64 x.id, .int .i64 x.k, .int .i64 x.a, .int .i64 x.b, .int .i64 x.c, .int .i64 x.d, .int .i64 x.bgn, .int .i64 x.at_, .int .i64 x.en, .int .i64 x.tick, .bool x.ok, .int .i64 x.val] 29)).cell? ⟨bc, 0, none⟩ = some (.int .i64 cl) := Blk.cell (i := 0) (hC.ext HB.out.2) rfl
  unfold CV enc
  go_enter Try.func38, Try.ntmps38
  go_wp2_with fail
  go_ret
  exact ⟨rfl, HB.out.2⟩
set_option maxRecDepth 100000 in
set_option maxHeartbeats 2000000 in
theorem less_of (bx : Nat) (x y : C) (w : World) (hB : Blk w bx #[BV 39] 42) :
    Calls Try.prog 45 #[CV x, CV y, .pointer (some ⟨bx, 0, none⟩)] w fun e w' => (∃ c : Int, e = .returned (.int .i64 c) ∧ (c < 0 ↔ (fun _ => (0 : Int)) x < (fun _ => (0 : Int)) y)) ∧ Ext w w' := by
  have HB := Lib.hid (two_boxes w x y)
  obtain ⟨w2, hw2⟩ : ∃ w2, w2 = (w.alloc (.cells (enc x).toArray 29)).alloc (.cells (enc y).toArray 29) := ⟨_, rfl⟩
  have HX := Lib.hid (show At1 w2 w.heap.size 0 x by rw [hw2]; exact at1_blk HB.out.1.1)
  have HY := Lib.hid (show At1 w2 (w.heap.size + 1) 0 y by rw [hw2]; exact at1_blk HB.out.1.2)
  have HE := Lib.hid (show Ext w w2 by rw [hw2]; exact HB.out.2)
  have HBy := Lib.hid (show Blk w2 bx #[BV 39] 42 from hB.ext HE.out)
  have HW := Lib.hid hw2
  clear HB hw2 hB
  unfold CV
  go_enter Try.func45, Try.ntmps45
  go_upto_region 1 with fail
  have hw2 := HW.out
  rw [← hw2]
  clear hw2
  refine wp_region_segsK [([2, 1, 2, 3], 3, 5), ([1, 2], 1, 0), ([1, 1], 1, 0), ([1], 0, 0)] (by kernel_rfl) (by kernel_rfl) ?_
  apply segsK_class
  · intro W hW
    have y0 := (HBy.out.ext (Ext.drew _)).ext hW
    have l0 := Blk.cell (i := 0) y0 rfl
    have l1 := HX.out.ld W ((Ext.drew _).trans hW)
    have l2 := HY.out.ld W ((Ext.drew _).trans hW)
    unfold BV at l0
    simp only [runsT, runsF, rep, pick]
    go_wp2_with (first | refine Arr.wpList_ldA rfl _ _ rfl _ l1 ?_ | refine Arr.wpList_ldA rfl _ _ rfl _ l2 ?_)
    exact ⟨rfl, rfl⟩
  simp only [runsT, runsF, rep, left]
  go_wp2_with fail
  refine (by_of _ x).mono ?_
  rintro e w3 ⟨rfl, hE3⟩
  have HE3 := Lib.hid hE3
  clear hE3
  go_wp2_with fail
  refine ⟨fun _ => HE3.out, ?_⟩
  apply segsK_op
  go_wp2_with fail
  refine (by_of _ y).mono ?_
  rintro e w4 ⟨rfl, hE4⟩
  have HE4 := Lib.hid hE4
  clear hE4
  go_wp2_with fail
  refine ⟨fun h => (by cases h), ?_⟩
  apply segsK_op
  go_wp2_with fail
  refine (cmp_any _ _ _).mono ?_
  rintro e w5 ⟨rfl, rfl⟩
  go_wp2_with fail
  refine ⟨fun h => (by cases h), ?_⟩
  apply segsK_pure
  · intro W
    simp only [runsT, runsF, rep, pick]
    go_wp2_with (first | refine Arr.wpList_ldA rfl _ _ rfl _ l1 ?_ | refine Arr.wpList_ldA rfl _ _ rfl _ l2 ?_)
    exact ⟨rfl, rfl⟩
  simp only [runsT, runsF, rep, left]
  apply segsK_nil
  go_wp2_with fail
  go_ret
  exact ⟨⟨_, rfl, by first | exact cint_lt _ _ | exact cint_lt 0 0⟩, HE.out.trans ((Ext.drew _).trans (HE3.out.trans HE4.out))⟩
theorem less_ok_of (bx b : Nat) (hne : bx ≠ b) : CmpOk bx b (fun W => Blk W bx #[BV 39] 42) (fun _ => (0 : Int)) :=
  ⟨fun W hW x y => less_of bx x y W hW, fun W W' hW hc => Prg.blk_chg1 hW hc hne⟩
set_option maxRecDepth 100000 in
set_option maxHeartbeats 4000000 in
theorem those_of (cl : Int) (bc : Nat) (T : List C) (a : Option Addr) (len cap b off : Nat) (w : World) (hV : VC w a len b off T) (hl : len ≤ 60) (hC : Blk w bc #[.int .i64 cl] 3) :
    Calls Try.prog 27 #[.slice a len cap, .func (.func 38) #[] #[.pointer (some ⟨bc, 0, none⟩)], .func (.func 39) #[] #[]] w fun e w' => (∃ (a' : Option Addr) (n cap' b' : Nat) (L : List (C × Nat)), e = .returned (.slice a' n cap') ∧ n ≤ cap' ∧ n ≤ 60 ∧ VC w' a' n b' 0 (L.map Prod.fst) ∧ Done (fun _ => (0 : Int)) (sel (fun x => x.cl == cl) T) L) ∧ Ext w w' := by
  have hE1 : Ext w (w.alloc (.cells #[BV 39] 42)) := ext_alloc _ _
  have HE1 := Lib.hid hE1
  have HBX := Lib.hid (show Blk (w.alloc (.cells #[BV 39] 42)) w.heap.size #[BV 39] 42 from Blk.new _ _ _)
  have HV := Lib.hid (hV.ext hE1)
  have HC := Lib.hid (hC.ext HE1.out)
  clear hC
  clear hE1 hV
  go_enter Try.func27, Try.ntmps27
  go_upto_region 1 with fail
  obtain ⟨w1, hw1⟩ : ∃ w1, w1 = w.alloc (.cells #[BV 39] 42) := ⟨_, rfl⟩
  rw [← hw1] at HE1 HBX HV
  try rw [← hw1] at HC
  unfold BV at hw1
  rw [← hw1]
  have HSZ := Lib.hid (show w1.heap.size = w.heap.size + 1 by rw [hw1]; simp)
  clear hw1
  go_wp2_with fail
  go_loopg [7, 12] len (fun g v s wr => ∃ (i : Nat) (S R : List C), s = .int .i64 i ∧ i ≤ len ∧ Hid (T = S ++ R ∧ S.length = i) ∧ Hid (RowG RC enc wr w1.heap.size v ((sel (fun x => x.cl == cl) S).map Prod.fst) ∧ Ext w1 wr) ∧ len - i ≤ g)
  case atStart => exact ⟨0, [], T, rfl, Nat.zero_le _, Lib.hid ⟨rfl, rfl⟩, Lib.hid ⟨RowG.nil _ _, Ext.refl _⟩, Nat.le_refl _⟩
  case round =>
    obtain ⟨i, S, R, rfl, hi, HX, HR, hg⟩ := hrel
    obtain ⟨av, cv, rfl⟩ := HR.out.1.val
    obtain ⟨n, hn⟩ : ∃ n, ((sel (fun x => x.cl == cl) S).map Prod.fst).length = n := ⟨_, rfl⟩
    rw [hn]
    have HN := Lib.hid (show n ≤ i by rw [← hn, List.length_map, ← HX.out.2]; exact sel_len _ _)
    have HNE := Lib.hid hn
    have HRow := Lib.hid (show RowG RC enc wr w1.heap.size (.slice av n cv) ((sel (fun x => x.cl == cl) S).map Prod.fst) by have := HR.out.1; rw [hn] at this; exact this)
    clear hn
    by_cases hil : i < len
    · have d0 : decide (i < len) = true := decide_eq_true hil
      obtain rfl := HV.out.ad (by omega)
      obtain ⟨x, R', rfl⟩ : ∃ x R', R = x :: R' := by
        cases R with
        | nil => have h1 := HX.out; have h2 := HV.out.len; rw [h1.1] at h2; simp at h2; omega
        | cons x R' => exact ⟨x, R', rfl⟩
      have hx := HV.out.at1 S R' x HX.out.1 i HX.out.2.symm
      have l1 := hx.ld wr HR.out.2
      have s1 := st_new wr x
      have HB := Lib.hid (one_box wr x)
      obtain ⟨w2, hw2⟩ : ∃ w2, w2 = wr.alloc (.cells (enc x).toArray 29) := ⟨_, rfl⟩
      rw [← hw2] at s1
      have HA := Lib.hid (show At1 w2 wr.heap.size 0 x by rw [hw2]; exact at1_blk HB.out.1)
      have HE2 := Lib.hid (show Ext wr w2 by rw [hw2]; exact HB.out.2)
      unfold ZC at s1
      have l2 := HA.out.ld w2 (Ext.refl _)
      clear hx HB hw2
      go_wp2_with (first | refine Arr.wpList_ldA rfl _ _ rfl _ l1 ?_ | refine Arr.wpList_stA rfl _ _ _ rfl rfl s1 ?_ | refine Arr.wpList_ldA rfl _ _ rfl _ l2 ?_)
      refine (is_of cl bc x _ (HC.out.ext (HR.out.2.trans HE2.out))).mono ?_
      rintro e w3 ⟨rfl, hE3⟩
      have HE3 := Lib.hid hE3
      clear hE3
      obtain ⟨r, hr⟩ : ∃ r : Bool, (x.cl == cl) = r := ⟨_, rfl⟩
      rw [hr]
      cases r with
      | true =>
        have HSN := Lib.hid (sel_yes (p := (fun x => x.cl == cl)) S x hr)
        clear hr
        have l3 := HA.out.ld w3 HE3.out
        have HRow3 := Lib.hid (HRow.out.ext (HE2.out.trans HE3.out))
        unfold CV enc at l3
        go_wp2_with (first | refine Arr.wpList_ldA rfl _ _ rfl _ l3 ?_ | (at_builtin; refine appG (R := RC) (f := enc) (W := w3) rfl _ _ rfl _ ((sel (fun x => x.cl == cl) S).map Prod.fst) rfl HRow3.out x _ rfl rfl (enc_one _) w3.heap.size rfl rfl (by rw [HNE.out]; have := HN.out; omega) (HR.out.2.trans (HE2.out.trans HE3.out)) (Nat.le_refl _) (HR.out.2.trans (HE2.out.trans HE3.out)).size ?_))
        intro a1 c1 w4 hO1 hE4 hz1 hb1
        have HF := Lib.hid (And.intro hO1 hE4)
        clear hO1 hE4 hz1 hb1
        go_wp2_with fail
        go_roundg (len - (i + 1))
        case measure => omega
        case rel =>
          refine ⟨i + 1, S ++ [x], R', by go_num, by omega, Lib.hid ⟨by rw [HX.out.1]; simp, by rw [List.length_append, HX.out.2]; rfl⟩, Lib.hid ⟨?_, HF.out.2⟩, Nat.le_refl _⟩
          rw [HSN.out]
          have := HF.out.1
          simpa using this
      | false =>
        have HSN := Lib.hid (sel_no (p := (fun x => x.cl == cl)) S x hr)
        clear hr
        go_wp2_with fail
        go_roundg (len - (i + 1))
        case measure => omega
        case rel =>
          refine ⟨i + 1, S ++ [x], R', by go_num, by omega, Lib.hid ⟨by rw [HX.out.1]; simp, by rw [List.length_append, HX.out.2]; rfl⟩, Lib.hid ⟨?_, HR.out.2.trans (HE2.out.trans HE3.out)⟩, Nat.le_refl _⟩
          rw [HSN.out]
          have := (HRow.out.ext (HE2.out.trans HE3.out))
          simpa using this
    · obtain rfl : i = len := by omega
      have d0 : decide (i < i) = false := decide_eq_false (by omega)
      have HTS := Lib.hid (show T = S by
        have h1 := HX.out
        have h2 := HV.out.len
        rw [h1.1, List.length_append] at h2
        rw [h1.1, List.eq_nil_of_length_eq_zero (show R.length = 0 by omega), List.append_nil])
      go_upto_region 8 with fail
      have HSort : Calls Try.prog 44 #[.slice av n cv, .func (.func 45) #[] #[.pointer (some ⟨w.heap.size, 0, none⟩)]] wr fun e w' => e = .returned (.tuple #[]) ∧ (∃ b' L, VC w' av n b' 0 (L.map Prod.fst) ∧ Done (fun _ => (0 : Int)) (sel (fun x => x.cl == cl) S) L) ∧ Ext w w' := by
        have hnl : (sel (fun x => x.cl == cl) S).length = n := by have := HNE.out; rwa [List.length_map] at this
        cases av with
        | none =>
          have hz := Row.Own.none' (R := RC) HR.out.1 rfl
          have hz0 : n = 0 := by have := hz.1; rw [HNE.out] at this; exact this
          subst hz0
          have e0 : sel (fun x => x.cl == cl) S = [] := List.eq_nil_of_length_eq_zero hnl
          refine (sort_zero _ _ _ _).mono ?_
          rintro e w' ⟨rfl, rfl⟩
          exact ⟨rfl, ⟨0, [], ⟨rfl, fun h => by omega, fun W hW i hi => by simp at hi⟩, by rw [e0]; exact Done.refl List.Pairwise.nil⟩, HE1.out.trans HR.out.2⟩
        | some ad =>
          obtain ⟨g, rfl⟩ : ∃ g, ad = ⟨g, 0, none⟩ := by
            rcases HRow.out.2 with ⟨h3, _⟩ | ⟨g, cap', cur, h3, _⟩
            · cases h3
            · simp only [Value.slice.injEq, Option.some.injEq] at h3
              exact ⟨g, h3.1⟩
          obtain ⟨k1, k2, k3⟩ := row_at (L := sel (fun x => x.cl == cl) S) HRow.out
          refine (sort_any g n cv w.heap.size _ (fun _ => (0 : Int)) (less_ok_of w.heap.size g (by have := HSZ.out; omega)) _ (sel_tags _ S) hnl (by have := HN.out; omega) _ k1 (HBX.out.ext HR.out.2)).mono ?_
          rintro e w' ⟨rfl, ⟨M', q1, q2⟩, q3⟩
          refine ⟨rfl, ⟨g, M', ?_, q1⟩, below_chg (HE1.out.trans HR.out.2) q3 (fun i hi => by have := HSZ.out; omega)⟩
          have := at_vc q2
          rw [q1.1.length_eq, hnl] at this
          exact this
      have HS := Lib.hid HSort
      clear HSort
      go_wp2_with fail
      refine HS.out.mono ?_
      rintro e w5 ⟨rfl, h5⟩
      have H5 := Lib.hid h5
      clear h5
      go_wp2_with fail
      go_ret
      obtain ⟨⟨b', L, q1, q2⟩, q3⟩ := H5.out
      refine ⟨⟨av, n, cv, b', L, rfl, ?_, by have := HN.out; omega, q1, by rw [HTS.out]; exact q2⟩, q3⟩
      obtain ⟨a', c', h1, h2, h3, h4⟩ := Row.Own.val (R := RC) HRow.out
      simp only [Value.slice.injEq] at h1
      rw [h1.2.1, h1.2.2]
      exact h3

end Go.Proofs.Ytbjkpiobfiebhaa.Hs
