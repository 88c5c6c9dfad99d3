/-
  Histories: whether a row of calls is right, whether all have ended, how many pairs are swapped: the program's side.
  At most 60 calls; no other condition.
-/
import Derived.Test.YtbjkpiobfiebhaaHsI
namespace Go.Proofs.Ytbjkpiobfiebhaa.Hs
open Go.RowKit Go.Seg Go.Open Go.Lib Go.Arr Go.Stab Go.Row

def opR (x : C) : Bool := Prg.rightB (Prg.five x.k x.a x.b x.c x.d)
def OV (x : C) : Value := .agg #[.int .i64 x.k, .int .i64 x.a, .int .i64 x.b, .int .i64 x.c, .int .i64 x.d]
theorem opR_any (x : C) (w : World) : Calls Try.prog 30 #[OV x] w fun e w' => e = .returned (.bool (opR x)) ∧ Ext w w' := Prg.Right_any (Prg.five x.k x.a x.b x.c x.d) w
theorem rOpR_any (x : C) (w : World) : Calls Try.prog 26 #[OV x] w fun e w' => e = .returned (.bool (opR x)) ∧ Ext w w' := Prg.rRight (Prg.five x.k x.a x.b x.c x.d) w
theorem agg_op (w : World) : (isAgg 27).run Try.prog w = .ok true w := by kernel_rfl
theorem size_op (w : World) : (sizeOf 27).run Try.prog w = .ok 5 w := by kernel_rfl
/-- A call's Op, loaded whole. -/
theorem At1.op {w : World} {b o : Nat} {x : C} (h : At1 w b o x) (W : World) (hW : Ext w W) : (Instr.loadAt 27 (.pointer (some ⟨b, o + 2, none⟩))).run Try.prog W = .ok (OV x) W := by
  refine run_loadA (agg_op W) (size_op W) (loadE' (x := [.int .i64 x.k, .int .i64 x.a, .int .i64 x.b, .int .i64 x.c, .int .i64 x.d]) rfl (fun j hj => ?_))
  have h2 := h.cl W hW (2 + j)
  match j, hj with
  | 0, _ => exact h2 _ rfl
  | 1, _ => exact h2 _ rfl
  | 2, _ => exact h2 _ rfl
  | 3, _ => exact h2 _ rfl
  | 4, _ => exact h2 _ rfl
/-- A call laid into a new block. -/
def ZC : Array Value := #[.int .i64 0, .int .i64 0, .int .i64 0, .int .i64 0, .int .i64 0, .int .i64 0, .int .i64 0, .int .i64 0, .int .i64 0, .int .i64 0, .int .i64 0, .bool false, .int .i64 0]
theorem st_new (W : World) (x : C) : (Instr.storeAt 29 (.pointer (some ⟨W.heap.size, 0, none⟩)) (CV x)).run Try.prog (W.alloc (.cells ZC 29)) = .ok () (W.alloc (.cells (enc x).toArray 29)) :=
  run_storeA (size_ct _) rfl (run_storeCells_new (P := Try.prog) W 29 ZC (enc x).toArray (by kernel_rfl) rfl (by simp [enc, Value.oneCell']))
set_option maxRecDepth 100000 in
theorem idx_other (c : C) (bc : Nat) (T : List C) (a : Option Addr) (len cap b off : Nat) (w : World) (hV : VC w a len b off T) (hl : len ≤ 60) (hB : Blk w bc (enc c).toArray 29) :
    Calls Try.prog 49 #[.slice a len cap, .func (.func 32) #[] #[.pointer (some ⟨bc, 0, none⟩)]] w fun e w' => (∃ n : Int, e = .returned (.int .i64 n) ∧ (T.any (fun d => !apart c d) = true ↔ 0 ≤ n)) ∧ Ext w w' := by
  have HV := Lib.hid hV
  have HB := Lib.hid hB
  clear hB
  clear hV
  go_enter Try.func49, Try.ntmps49
  go_wp2_with fail
  go_loopg [8] len (fun g s wr => ∃ i : Nat, s = .int .i64 i ∧ i ≤ len ∧ Hid (Ext w wr ∧ ∀ S x R, T = S ++ x :: R → S.length < i → (fun d => !apart c d) x = false) ∧ len - i ≤ g)
  case atStart => exact ⟨0, rfl, Nat.zero_le _, Lib.hid ⟨Ext.refl _, fun S x R _ h => by omega⟩, Nat.le_refl _⟩
  case round =>
    obtain ⟨i, rfl, hi, HR, hg⟩ := hrel
    by_cases hil : i < len
    · have d0 : decide (i < len) = true := decide_eq_true hil
      obtain rfl := HV.out.ad (by omega)
      obtain ⟨S, x, R, eT, hS, hx⟩ := HV.out.get hil
      have HX := Lib.hid (And.intro eT hS)
      have l1 := hx.ld wr HR.out.1
      clear hx eT hS
      go_wp2_with (first | refine Arr.wpList_ldA rfl _ _ rfl _ l1 ?_)
      refine (other_any c x bc _ (HB.out.ext HR.out.1)).mono ?_
      rintro e w3 ⟨rfl, hE3⟩
      have HE3 := Lib.hid hE3
      clear hE3
      obtain ⟨r, hr⟩ : ∃ r, r = (!apart c x) := ⟨_, rfl⟩
      rw [← hr]
      have HRR := Lib.hid hr
      clear hr
      cases r with
      | true =>
        go_wp2_with fail
        go_ret
        exact ⟨⟨i, rfl, ⟨fun _ => by omega, fun _ => by
          have hr := HRR.out.symm
          rw [HX.out.1, List.any_append, List.any_cons, hr]
          simp⟩⟩, HR.out.1.trans HE3.out⟩
      | false =>
        go_wp2_with fail
        go_roundg (len - (i + 1))
        case measure => omega
        case rel =>
          refine ⟨i + 1, by go_num, by omega, Lib.hid ⟨HR.out.1.trans HE3.out, fun S' x' R' e' hlt => ?_⟩, Nat.le_refl _⟩
          by_cases hlt2 : S'.length < i
          · exact HR.out.2 S' x' R' e' hlt2
          · have := uniq_at (HX.out.1.symm.trans e') (by have := HX.out.2; omega)
            rw [← this]
            exact HRR.out.symm
    · obtain rfl : i = len := by omega
      have d0 : decide (i < i) = false := decide_eq_false (by omega)
      go_wp2_with fail
      go_ret
      refine ⟨⟨-1, rfl, ⟨fun h => ?_, fun h => by omega⟩⟩, HR.out.1⟩
      exfalso
      obtain ⟨x, hx, hp⟩ : ∃ x, x ∈ T ∧ (!apart c x) = true := by
        first
          | exact List.any_eq_true.1 h
          | (obtain ⟨x, hx, hp⟩ := h; exact ⟨x, hx, by simpa using hp⟩)
      obtain ⟨S, R, e⟩ := List.append_of_mem hx
      have h1 := HR.out.2 S x R e (by have := HV.out.len; rw [e] at this; simp at this; omega)
      rw [h1] at hp
      cases hp
theorem con_other (c : C) (bc : Nat) (T : List C) (a : Option Addr) (len cap b off : Nat) (w : World) (hV : VC w a len b off T) (hl : len ≤ 60) (hB : Blk w bc (enc c).toArray 29) :
    Calls Try.prog 34 #[.slice a len cap, .func (.func 32) #[] #[.pointer (some ⟨bc, 0, none⟩)]] w fun e w' => e = .returned (.bool (T.any (fun d => !apart c d))) ∧ Ext w w' := by
  have HV := Lib.hid hV
  have HB := Lib.hid hB
  clear hB
  clear hV
  go_enter Try.func34, Try.ntmps34
  go_wp2_with fail
  refine (idx_other c bc T _ len _ b off w HV.out hl HB.out).mono ?_
  rintro e w2 ⟨⟨n, rfl, hn⟩, hE⟩
  have HE := Lib.hid hE
  have HNN := Lib.hid hn
  clear hE hn
  go_wp2_with fail
  go_ret
  refine ⟨?_, HE.out⟩
  show Ending.returned (Value.bool _) = _
  congr 2
  cases h : T.any (fun d => !apart c d) with
  | true => exact decide_eq_true (HNN.out.1 h)
  | false => exact decide_eq_false (fun h0 => by have := HNN.out.2 h0; rw [h] at this; cases this)
set_option maxRecDepth 100000 in
theorem idx_open  (T : List C) (a : Option Addr) (len cap b off : Nat) (w : World) (hV : VC w a len b off T) (hl : len ≤ 60) :
    Calls Try.prog 49 #[.slice a len cap, .func (.func 35) #[] #[]] w fun e w' => (∃ n : Int, e = .returned (.int .i64 n) ∧ (T.any (fun d => decide (d.en < 0)) = true ↔ 0 ≤ n)) ∧ Ext w w' := by
  have HV := Lib.hid hV
  skip
  clear hV
  go_enter Try.func49, Try.ntmps49
  go_wp2_with fail
  go_loopg [8] len (fun g s wr => ∃ i : Nat, s = .int .i64 i ∧ i ≤ len ∧ Hid (Ext w wr ∧ ∀ S x R, T = S ++ x :: R → S.length < i → (fun d => decide (d.en < 0)) x = false) ∧ len - i ≤ g)
  case atStart => exact ⟨0, rfl, Nat.zero_le _, Lib.hid ⟨Ext.refl _, fun S x R _ h => by omega⟩, Nat.le_refl _⟩
  case round =>
    obtain ⟨i, rfl, hi, HR, hg⟩ := hrel
    by_cases hil : i < len
    · have d0 : decide (i < len) = true := decide_eq_true hil
      obtain rfl := HV.out.ad (by omega)
      obtain ⟨S, x, R, eT, hS, hx⟩ := HV.out.get hil
      have HX := Lib.hid (And.intro eT hS)
      have l1 := hx.ld wr HR.out.1
      clear hx eT hS
      go_wp2_with (first | refine Arr.wpList_ldA rfl _ _ rfl _ l1 ?_)
      refine (open_any x _).mono ?_
      rintro e w3 ⟨rfl, hE3⟩
      have HE3 := Lib.hid hE3
      clear hE3
      obtain ⟨r, hr⟩ : ∃ r, r = decide (x.en < 0) := ⟨_, rfl⟩
      rw [← hr]
      have HRR := Lib.hid hr
      clear hr
      cases r with
      | true =>
        go_wp2_with fail
        go_ret
        exact ⟨⟨i, rfl, ⟨fun _ => by omega, fun _ => by
          have hr := HRR.out.symm
          rw [HX.out.1, List.any_append, List.any_cons, hr]
          simp⟩⟩, HR.out.1.trans HE3.out⟩
      | false =>
        go_wp2_with fail
        go_roundg (len - (i + 1))
        case measure => omega
        case rel =>
          refine ⟨i + 1, by go_num, by omega, Lib.hid ⟨HR.out.1.trans HE3.out, fun S' x' R' e' hlt => ?_⟩, Nat.le_refl _⟩
          by_cases hlt2 : S'.length < i
          · exact HR.out.2 S' x' R' e' hlt2
          · have := uniq_at (HX.out.1.symm.trans e') (by have := HX.out.2; omega)
            rw [← this]
            exact HRR.out.symm
    · obtain rfl : i = len := by omega
      have d0 : decide (i < i) = false := decide_eq_false (by omega)
      go_wp2_with fail
      go_ret
      refine ⟨⟨-1, rfl, ⟨fun h => ?_, fun h => by omega⟩⟩, HR.out.1⟩
      exfalso
      obtain ⟨x, hx, hp⟩ : ∃ x, x ∈ T ∧ decide (x.en < 0) = true := by
        first
          | exact List.any_eq_true.1 h
          | (obtain ⟨x, hx, hp⟩ := h; exact ⟨x, hx, by simpa using hp⟩)
      obtain ⟨S, R, e⟩ := List.append_of_mem hx
      have h1 := HR.out.2 S x R e (by have := HV.out.len; rw [e] at this; simp at this; omega)
      rw [h1] at hp
      cases hp
theorem con_open  (T : List C) (a : Option Addr) (len cap b off : Nat) (w : World) (hV : VC w a len b off T) (hl : len ≤ 60) :
    Calls Try.prog 34 #[.slice a len cap, .func (.func 35) #[] #[]] w fun e w' => e = .returned (.bool (T.any (fun d => decide (d.en < 0)))) ∧ Ext w w' := by
  have HV := Lib.hid hV
  skip
  clear hV
  go_enter Try.func34, Try.ntmps34
  go_wp2_with fail
  refine (idx_open  T _ len _ b off w HV.out hl).mono ?_
  rintro e w2 ⟨⟨n, rfl, hn⟩, hE⟩
  have HE := Lib.hid hE
  have HNN := Lib.hid hn
  clear hE hn
  go_wp2_with fail
  go_ret
  refine ⟨?_, HE.out⟩
  show Ending.returned (Value.bool _) = _
  congr 2
  cases h : T.any (fun d => decide (d.en < 0)) with
  | true => exact decide_eq_true (HNN.out.1 h)
  | false => exact decide_eq_false (fun h0 => by have := HNN.out.2 h0; rw [h] at this; cases this)

/-- What a right history asks of each call. -/
def Good (S : List C) (x : C) : Prop := opR x = true ∧ timed x = true ∧ S.any (fun d => !apart x d) = false
def RightP (T : List C) : Prop := ∀ S x R, T = S ++ x :: R → Good S x
theorem split_uniq {α : Type} {S S' R R' : List α} {x x' : α} (h : S ++ x :: R = S' ++ x' :: R') (hl : S.length = S'.length) : S = S' ∧ x = x' ∧ R = R' := by
  obtain ⟨h1, h2⟩ := List.append_inj h hl
  injection h2 with h3 h4
  exact ⟨h1, h3, h4⟩
set_option maxRecDepth 100000 in
set_option maxHeartbeats 4000000 in
theorem Right_any (T : List C) (a : Option Addr) (len cap b off : Nat) (w : World) (hV : VC w a len b off T) (hl : len ≤ 60) (hc : len ≤ cap) :
    Calls Try.prog 11 #[.slice a len cap] w fun e w' => (∃ r : Bool, e = .returned (.bool r) ∧ (r = true ↔ RightP T)) ∧ Ext w w' := by
  have HV := Lib.hid hV
  clear hV
  go_enter Try.func11, Try.ntmps11
  go_wp2_with fail
  go_loopg [8] len (fun g s wr => ∃ i : Nat, s = .int .i64 i ∧ i ≤ len ∧ Hid (Ext w wr ∧ ∀ S x R, T = S ++ x :: R → S.length < i → Good S x) ∧ len - i ≤ g)
  case atStart => exact ⟨0, rfl, Nat.zero_le _, Lib.hid ⟨Ext.refl _, fun S x R _ h => by omega⟩, Nat.le_refl _⟩
  case round =>
    obtain ⟨i, rfl, hi, HR, hg⟩ := hrel
    by_cases hil : i < len
    · have d0 : decide (i < len) = true := decide_eq_true hil
      obtain rfl := HV.out.ad (by omega)
      obtain ⟨S, x, R, eT, hS, hx⟩ := HV.out.get hil
      have HX := Lib.hid (And.intro eT hS)
      have l1 := hx.ld wr HR.out.1
      have s1 := st_new wr x
      have HB := Lib.hid (one_box wr x)
      obtain ⟨w2, hw2⟩ : ∃ w2, w2 = wr.alloc (.cells (enc x).toArray 29) := ⟨_, rfl⟩
      rw [← hw2] at s1
      have HA := Lib.hid (show At1 w2 wr.heap.size 0 x by rw [hw2]; exact at1_blk HB.out.1)
      have HBK := Lib.hid (show Blk w2 wr.heap.size (enc x).toArray 29 by rw [hw2]; exact HB.out.1)
      have HE2 := Lib.hid (show Ext wr w2 by rw [hw2]; exact HB.out.2)
      unfold ZC at s1
      have l2 := HA.out.op w2 (Ext.refl _)
      simp only [Nat.zero_add] at l2
      have bi : i ≤ cap := by omega
      clear hx eT hS HB hw2
      go_wp2_with (first | refine Arr.wpList_ldA rfl _ _ rfl _ l1 ?_ | refine Arr.wpList_stA rfl _ _ _ rfl rfl s1 ?_ | refine Arr.wpList_ldA rfl _ _ rfl _ l2 ?_)
      refine (opR_any x _).mono ?_
      rintro e w3 ⟨rfl, hE3⟩
      have HE3 := Lib.hid hE3
      clear hE3
      have l3 := HA.out.ld w3 HE3.out
      cases h1 : opR x with
      | false =>
        have H1 := Lib.hid h1
        clear h1
        go_wp2_with fail
        go_ret
        refine ⟨⟨false, rfl, ⟨fun h => (by cases h), fun h => ?_⟩⟩, HR.out.1.trans (HE2.out.trans HE3.out)⟩
        have := (h S x R HX.out.1).1
        rw [H1.out] at this
        cases this
      | true =>
        have H1 := Lib.hid h1
        clear h1
        go_wp2_with (first | refine Arr.wpList_ldA rfl _ _ rfl _ l3 ?_)
        refine (timed_any x _).mono ?_
        rintro e w4 ⟨rfl, hE4⟩
        have HE4 := Lib.hid hE4
        clear hE4
        cases h2 : timed x with
        | false =>
          have H2 := Lib.hid h2
          clear h2
          go_wp2_with fail
          go_ret
          refine ⟨⟨false, rfl, ⟨fun h => (by cases h), fun h => ?_⟩⟩, HR.out.1.trans (HE2.out.trans (HE3.out.trans HE4.out))⟩
          have := (h S x R HX.out.1).2.1
          rw [H2.out] at this
          cases this
        | true =>
          have H2 := Lib.hid h2
          clear h2
          go_wp2_with fail
          have hx := HX.out
          have e2 : T.take i = S := by rw [hx.1, ← hx.2, List.take_left']; rfl
          have hv2 : VC w4 (some ⟨b, off, none⟩) i b off S := by rw [← e2]; exact ((HV.out.take hi).ext (HR.out.1.trans (HE2.out.trans (HE3.out.trans HE4.out))))
          refine (con_other x _ S _ i _ b off w4 hv2 (by omega) (HBK.out.ext (HE3.out.trans HE4.out))).mono ?_
          rintro e w5 ⟨rfl, hE5⟩
          have HE5 := Lib.hid (HR.out.1.trans (HE2.out.trans (HE3.out.trans (HE4.out.trans hE5))))
          clear hE5 hv2 e2 hx
          cases h3 : S.any (fun d => !apart x d) with
          | true =>
            have H3 := Lib.hid h3
            clear h3
            go_wp2_with fail
            go_ret
            refine ⟨⟨false, rfl, ⟨fun h => (by cases h), fun h => ?_⟩⟩, HE5.out⟩
            have := (h S x R HX.out.1).2.2
            rw [H3.out] at this
            cases this
          | false =>
            have H3 := Lib.hid h3
            clear h3
            go_wp2_with fail
            go_roundg (len - (i + 1))
            case measure => omega
            case rel =>
              refine ⟨i + 1, by go_num, by omega, Lib.hid ⟨HE5.out, fun S' x' R' e' hlt => ?_⟩, Nat.le_refl _⟩
              by_cases hlt2 : S'.length < i
              · exact HR.out.2 S' x' R' e' hlt2
              · obtain ⟨rfl, rfl, rfl⟩ := split_uniq (HX.out.1.symm.trans e') (by have := HX.out.2; omega)
                exact ⟨H1.out, H2.out, H3.out⟩
    · obtain rfl : i = len := by omega
      have d0 : decide (i < i) = false := decide_eq_false (by omega)
      go_wp2_with fail
      go_ret
      exact ⟨⟨true, rfl, ⟨fun _ S x R e => HR.out.2 S x R e (by have := HV.out.len; rw [e] at this; simp at this; omega), fun _ => rfl⟩⟩, HR.out.1⟩
theorem Ended_any (T : List C) (a : Option Addr) (len cap b off : Nat) (w : World) (hV : VC w a len b off T) (hl : len ≤ 60) :
    Calls Try.prog 13 #[.slice a len cap] w fun e w' => e = .returned (.bool (!T.any fun d => decide (d.en < 0))) ∧ Ext w w' := by
  have HV := Lib.hid hV
  clear hV
  go_enter Try.func13, Try.ntmps13
  go_wp2_with fail
  refine (con_open T _ len _ b off w HV.out hl).mono ?_
  rintro e w2 ⟨rfl, hE⟩
  have HE := Lib.hid hE
  clear hE
  go_wp2_with fail
  go_ret
  exact ⟨rfl, HE.out⟩
end Go.Proofs.Ytbjkpiobfiebhaa.Hs
