/-
  The document's answer for layer 8: Put: a new row.
-/
import Derived.Test.YtlnmnnoibimknaaFateRefs
import Derived.OwnWalk
import Derived.Laws.AppendOwn
namespace Go.Proofs.Ytlnmnnoibimknaa.Fa
open Go.RowKit Go.Seg Go.Open Go.Lib Rk TrII

theorem infoE : (Try.prog.info? 38).map (fun i => (i.zero, i.size, i.bytes)) = some (some (.agg #[.int .i64 0, .int .i64 0]), 2, 16) := by kernel_rfl

def cellsP (xs : List (Int × Int)) : List Value := xs.flatMap (fun x => [.int .i64 x.1, .int .i64 x.2])
def putL (F : Nat → Int × Int) (k v : Int) : Nat → List (Int × Int) × Bool
  | 0 => ([], false)
  | n + 1 =>
    let s := putL F k v n
    let s := if s.2 = false ∧ k ≤ (F n).1 then (s.1 ++ [(k, v)], true) else s
    if (F n).1 = k then s else (s.1 ++ [F n], s.2)

theorem putL_len (F : Nat → Int × Int) (k v : Int) : ∀ n, (putL F k v n).1.length ≤ n + (if (putL F k v n).2 then 1 else 0)
  | 0 => by simp [putL]
  | n + 1 => by
    have := putL_len F k v n
    simp only [putL]
    split <;> split <;> simp_all <;> omega
def putR (F : Nat → Int × Int) (k v : Int) (len : Nat) : List (Int × Int) := if (putL F k v len).2 = false then (putL F k v len).1 ++ [(k, v)] else (putL F k v len).1

set_option maxRecDepth 100000 in
set_option maxHeartbeats 8000000 in
theorem rPut (a : Option Addr) (len cap b off : Nat) (F : Nat → Int × Int) (k v : Int) (w : World) (ha : 0 < len → a = some ⟨b, off, none⟩) (hl : len ≤ 1000000)
    (hF : ∀ W, Below w.heap.size w W → ∀ i, i < len → W.cell? ⟨b, off + i * 2, none⟩ = some (.int .i64 (F i).1) ∧ W.cell? ⟨b, off + i * 2 + 1, none⟩ = some (.int .i64 (F i).2)) :
    Calls Try.prog 52 #[.slice a len cap, .int .i64 k, .int .i64 v] w fun e w' => ∃ u, e = .returned u ∧ w'.ownsRow w.heap.size 38 2 u (putR F k v len).length (cellsP (putR F k v len)) ∧ Below w.heap.size w w' := by
  obtain ⟨i0, hi, hz0, hz1, hz2⟩ := info_parts infoE
  have HA := Lib.hid ha
  have HF := Lib.hid hF
  clear ha hF
  go_enter Try.func52, Try.ntmps52
  go_wp2_with fail
  go_loopg [7, 8, 9] len (fun g u dn i wr => ∃ n : Nat, i = .int .i64 n ∧ n ≤ len ∧ dn = .bool (putL F k v n).2 ∧ wr.ownsRow w.heap.size 38 2 u (putL F k v n).1.length (cellsP (putL F k v n).1) ∧ Below w.heap.size w wr ∧ len - n ≤ g)
  case atStart => exact ⟨0, rfl, Nat.zero_le _, rfl, World.ownsRow_nil _ _ _ _, Below.refl _ _, Nat.le_refl _⟩
  case round =>
    obtain ⟨n, rfl, hn, rfl, hown, hnx, hg⟩ := hrel
    have HLen := Lib.hid (show (putL F k v n).1.length ≤ n + 1 by have := putL_len F k v n; split at this <;> omega)
    have HOwn := Lib.hid hown
    have HNx := Lib.hid hnx
    clear hown hnx
    by_cases hik : n < len
    · obtain rfl := HA.out (by omega)
      obtain ⟨x0, x1⟩ := HF.out _ HNx.out n hik
      by_cases h1 : (putL F k v n).2 = false ∧ k ≤ (F n).1
      · obtain ⟨hd, hge⟩ := h1
        have d0 : (!(putL F k v n).2) = true := by rw [hd]; rfl
        have d1 : decide (k ≤ (F n).1) = true := decide_eq_true hge
        have HD := Lib.hid (And.intro hd hge)
        clear hd hge
        go_wp2_with (at_builtin; refine wpList_append_own _ rfl _ _ 34 rfl w.heap.size 38 i0 (.agg #[.int .i64 0, .int .i64 0]) 2 16 Try.underlying34 hi hz0 hz1 hz2 rfl (by decide) _ _ _ rfl (HOwn.out.alloc _) ⟨wr.heap.size, 0, none⟩ 1 1 [.int .i64 k, .int .i64 v] rfl rfl ?c1_1 ?c2_1 ?c3_1 ?c4_1 ?c5_1 ?_)
        try case c1_1 =>
          intro j u hj
          match j, hj with
          | 0, hj => simp at hj; subst hj; simp [Addr.add]
          | 1, hj => simp at hj; subst hj; simp [Addr.add]
        case c2_1 => first | exact ⟨rfl, rfl⟩ | (intro u hu; simp at hu; rcases hu with rfl | rfl <;> rfl)
        case c3_1 => unfold maxLen; (have := HLen.out; omega)
        case c4_1 => (have := HLen.out; omega)
        case c5_1 => have := HNx.out.size; first | omega | (simp; omega)
        intro u1 w1 hown1 hgrow1 _
        have HB1 := Lib.hid ((HNx.out.alloc HNx.out.size _).grown hgrow1 (by have := HNx.out.size; simp; omega) (fun j hj => by have := (HOwn.out.lt j hj).1; omega))
        have HO1 := Lib.hid hown1
        clear hown1 hgrow1
        obtain ⟨y0, y1⟩ := HF.out _ HB1.out n hik
        have hd0 := HD.out.1
        have hg0 := HD.out.2
        clear hd0 hg0
        by_cases h2 : (F n).1 = k
        · have e : putL F k v (n + 1) = ((putL F k v n).1 ++ [(k, v)], true) := by simp only [putL]; rw [if_pos h2, if_pos ⟨HD.out.1, HD.out.2⟩]
          have E := Lib.hid e
          have d2 : ((F n).1 != k) = false := by simp [h2]
          clear h2 e
          go_wp2_with fail
          go_roundg (len - (n + 1))
          case measure => omega
          case rel => exact ⟨n + 1, by go_num, by omega, by rw [E.out], by rw [E.out]; simpa [cellsP] using HO1.out, HB1.out, Nat.le_refl _⟩
        · have e : putL F k v (n + 1) = ((putL F k v n).1 ++ [(k, v)] ++ [F n], true) := by simp only [putL]; rw [if_neg h2, if_pos ⟨HD.out.1, HD.out.2⟩]
          have E := Lib.hid e
          have d2 : ((F n).1 != k) = true := by simp [h2]
          clear h2 e
          go_wp2_with (at_builtin; refine wpList_append_own _ rfl _ _ 34 rfl w.heap.size 38 i0 (.agg #[.int .i64 0, .int .i64 0]) 2 16 Try.underlying34 hi hz0 hz1 hz2 rfl (by decide) _ _ _ rfl (HO1.out.alloc _) ⟨w1.heap.size, 0, none⟩ 1 1 [.int .i64 (F n).1, .int .i64 (F n).2] rfl rfl ?c1_2 ?c2_2 ?c3_2 ?c4_2 ?c5_2 ?_)
          try case c1_2 =>
            intro j u hj
            match j, hj with
            | 0, hj => simp at hj; subst hj; simp [Addr.add]
            | 1, hj => simp at hj; subst hj; simp [Addr.add]
          case c2_2 => first | exact ⟨rfl, rfl⟩ | (intro u hu; simp at hu; rcases hu with rfl | rfl <;> rfl)
          case c3_2 => unfold maxLen; have := HLen.out; omega
          case c4_2 => have := HLen.out; omega
          case c5_2 => have := HB1.out.size; first | omega | (simp; omega)
          intro u2 w2 hown2 hgrow2 _
          have HB2 := Lib.hid ((HB1.out.alloc HB1.out.size _).grown hgrow2 (by have := HB1.out.size; simp; omega) (fun j hj => by have := (HO1.out.lt j hj).1; omega))
          have HO2 := Lib.hid hown2
          clear hown2 hgrow2
          go_wp2_with fail
          go_roundg (len - (n + 1))
          case measure => omega
          case rel => exact ⟨n + 1, by go_num, by omega, by rw [E.out], by rw [E.out]; simpa [cellsP] using HO2.out, HB2.out, Nat.le_refl _⟩
      · by_cases hd : (putL F k v n).2 = false
        · have hge : ¬ k ≤ (F n).1 := fun x => h1 ⟨hd, x⟩
          have d0 : (!(putL F k v n).2) = true := by rw [hd]; rfl
          have d1 : decide (k ≤ (F n).1) = false := decide_eq_false hge
          have HD := Lib.hid (And.intro hd hge)
          clear hd hge h1
          by_cases h2 : (F n).1 = k
          · have e : putL F k v (n + 1) = ((putL F k v n).1, (putL F k v n).2) := by simp only [putL]; rw [if_pos h2, if_neg (fun x => HD.out.2 x.2)]
            have E := Lib.hid e
            have d2 : ((F n).1 != k) = false := by simp [h2]
            clear h2 e
            go_wp2_with fail
            go_roundg (len - (n + 1))
            case measure => omega
            case rel => exact ⟨n + 1, by go_num, by omega, by rw [E.out], by rw [E.out]; simpa [cellsP] using HOwn.out, HNx.out, Nat.le_refl _⟩
          · have e : putL F k v (n + 1) = ((putL F k v n).1 ++ [F n], (putL F k v n).2) := by simp only [putL]; rw [if_neg h2, if_neg (fun x => HD.out.2 x.2)]
            have E := Lib.hid e
            have d2 : ((F n).1 != k) = true := by simp [h2]
            clear h2 e
            go_wp2_with (at_builtin; refine wpList_append_own _ rfl _ _ 34 rfl w.heap.size 38 i0 (.agg #[.int .i64 0, .int .i64 0]) 2 16 Try.underlying34 hi hz0 hz1 hz2 rfl (by decide) _ _ _ rfl (HOwn.out.alloc _) ⟨wr.heap.size, 0, none⟩ 1 1 [.int .i64 (F n).1, .int .i64 (F n).2] rfl rfl ?c1_3 ?c2_3 ?c3_3 ?c4_3 ?c5_3 ?_)
            try case c1_3 =>
              intro j u hj
              match j, hj with
              | 0, hj => simp at hj; subst hj; simp [Addr.add]
              | 1, hj => simp at hj; subst hj; simp [Addr.add]
            case c2_3 => first | exact ⟨rfl, rfl⟩ | (intro u hu; simp at hu; rcases hu with rfl | rfl <;> rfl)
            case c3_3 => unfold maxLen; have := HLen.out; omega
            case c4_3 => have := HLen.out; omega
            case c5_3 => have := HNx.out.size; first | omega | (simp; omega)
            intro u2 w2 hown2 hgrow2 _
            have HB2 := Lib.hid ((HNx.out.alloc HNx.out.size _).grown hgrow2 (by have := HNx.out.size; simp; omega) (fun j hj => by have := (HOwn.out.lt j hj).1; omega))
            have HO2 := Lib.hid hown2
            clear hown2 hgrow2
            go_wp2_with fail
            go_roundg (len - (n + 1))
            case measure => omega
            case rel => exact ⟨n + 1, by go_num, by omega, by rw [E.out], by rw [E.out]; simpa [cellsP] using HO2.out, HB2.out, Nat.le_refl _⟩
        · have hd' : (putL F k v n).2 = true := by simpa using hd
          have d0 : (!(putL F k v n).2) = false := by rw [hd']; rfl
          have HD := Lib.hid hd'
          clear hd hd' h1
          by_cases h2 : (F n).1 = k
          · have e : putL F k v (n + 1) = ((putL F k v n).1, (putL F k v n).2) := by simp only [putL]; rw [if_pos h2, if_neg (fun x => by rw [HD.out] at x; exact absurd x.1 (by simp))]
            have E := Lib.hid e
            have d2 : ((F n).1 != k) = false := by simp [h2]
            clear h2 e
            go_wp2_with fail
            go_roundg (len - (n + 1))
            case measure => omega
            case rel => exact ⟨n + 1, by go_num, by omega, by rw [E.out], by rw [E.out]; simpa [cellsP] using HOwn.out, HNx.out, Nat.le_refl _⟩
          · have e : putL F k v (n + 1) = ((putL F k v n).1 ++ [F n], (putL F k v n).2) := by simp only [putL]; rw [if_neg h2, if_neg (fun x => by rw [HD.out] at x; exact absurd x.1 (by simp))]
            have E := Lib.hid e
            have d2 : ((F n).1 != k) = true := by simp [h2]
            clear h2 e
            go_wp2_with (at_builtin; refine wpList_append_own _ rfl _ _ 34 rfl w.heap.size 38 i0 (.agg #[.int .i64 0, .int .i64 0]) 2 16 Try.underlying34 hi hz0 hz1 hz2 rfl (by decide) _ _ _ rfl (HOwn.out.alloc _) ⟨wr.heap.size, 0, none⟩ 1 1 [.int .i64 (F n).1, .int .i64 (F n).2] rfl rfl ?c1_4 ?c2_4 ?c3_4 ?c4_4 ?c5_4 ?_)
            try case c1_4 =>
              intro j u hj
              match j, hj with
              | 0, hj => simp at hj; subst hj; simp [Addr.add]
              | 1, hj => simp at hj; subst hj; simp [Addr.add]
            case c2_4 => first | exact ⟨rfl, rfl⟩ | (intro u hu; simp at hu; rcases hu with rfl | rfl <;> rfl)
            case c3_4 => unfold maxLen; have := HLen.out; omega
            case c4_4 => have := HLen.out; omega
            case c5_4 => have := HNx.out.size; first | omega | (simp; omega)
            intro u2 w2 hown2 hgrow2 _
            have HB2 := Lib.hid ((HNx.out.alloc HNx.out.size _).grown hgrow2 (by have := HNx.out.size; simp; omega) (fun j hj => by have := (HOwn.out.lt j hj).1; omega))
            have HO2 := Lib.hid hown2
            clear hown2 hgrow2
            go_wp2_with fail
            go_roundg (len - (n + 1))
            case measure => omega
            case rel => exact ⟨n + 1, by go_num, by omega, by rw [E.out], by rw [E.out]; simpa [cellsP] using HO2.out, HB2.out, Nat.le_refl _⟩
    · obtain rfl : n = len := by omega
      have hdn : decide ((n : Int) < (n : Int)) = false := decide_eq_false (by omega)
      clear hik
      by_cases hd : (putL F k v n).2 = false
      · have d0 : (!(putL F k v n).2) = true := by rw [hd]; rfl
        have e : putR F k v n = (putL F k v n).1 ++ [(k, v)] := by unfold putR; rw [if_pos hd]
        have E := Lib.hid e
        clear hd e
        go_wp2_with (at_builtin; refine wpList_append_own _ rfl _ _ 34 rfl w.heap.size 38 i0 (.agg #[.int .i64 0, .int .i64 0]) 2 16 Try.underlying34 hi hz0 hz1 hz2 rfl (by decide) _ _ _ rfl (HOwn.out.alloc _) ⟨wr.heap.size, 0, none⟩ 1 1 [.int .i64 k, .int .i64 v] rfl rfl ?c1_5 ?c2_5 ?c3_5 ?c4_5 ?c5_5 ?_)
        try case c1_5 =>
          intro j u hj
          match j, hj with
          | 0, hj => simp at hj; subst hj; simp [Addr.add]
          | 1, hj => simp at hj; subst hj; simp [Addr.add]
        case c2_5 => first | exact ⟨rfl, rfl⟩ | (intro u hu; simp at hu; rcases hu with rfl | rfl <;> rfl)
        case c3_5 => unfold maxLen; (have := HLen.out; omega)
        case c4_5 => (have := HLen.out; omega)
        case c5_5 => have := HNx.out.size; first | omega | (simp; omega)
        intro u1 w1 hown1 hgrow1 _
        have HB1 := Lib.hid ((HNx.out.alloc HNx.out.size _).grown hgrow1 (by have := HNx.out.size; simp; omega) (fun j hj => by have := (HOwn.out.lt j hj).1; omega))
        have HO1 := Lib.hid hown1
        clear hown1 hgrow1
        go_wp2_with fail
        go_ret
        exact ⟨_, rfl, by rw [E.out]; simpa [cellsP] using HO1.out, HB1.out⟩
      · have d0 : (!(putL F k v n).2) = false := by simpa using hd
        have e : putR F k v n = (putL F k v n).1 := by unfold putR; rw [if_neg hd]
        have E := Lib.hid e
        clear hd e
        go_wp2_with fail
        go_ret
        exact ⟨_, rfl, by rw [E.out]; exact HOwn.out, HNx.out⟩
end Go.Proofs.Ytlnmnnoibimknaa.Fa

