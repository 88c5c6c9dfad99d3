/-
  The document's answer for layers 8 and 30: Get, Count over a row of pairs; the names of fates.
-/
import Derived.Test.YtlnmnnoibimknaaFate
namespace Go.Proofs.Ytlnmnnoibimknaa.Fa
open Go.RowKit Go.Seg Go.Open Go.Lib Rk TrII

set_option maxHeartbeats 1000000 in
theorem rGet (a : Option Addr) (len cap b off : Nat) (F : Nat → Int × Int) (k : Int) (w : World) (ha : 0 < len → a = some ⟨b, off, none⟩) (hl : len ≤ 1000000)
    (hF : ∀ i, i < len → w.cell? ⟨b, off + i * 2, none⟩ = some (.int .i64 (F i).1) ∧ w.cell? ⟨b, off + i * 2 + 1, none⟩ = some (.int .i64 (F i).2)) :
    Calls Try.prog 25 #[.slice a len cap, .int .i64 k] w fun e w' =>
      ((∃ i, i < len ∧ (F i).1 = k ∧ (∀ j, j < i → (F j).1 ≠ k) ∧ e = .returned (.tuple #[.int .i64 (F i).2, .bool true])) ∨
        ((∀ j, j < len → (F j).1 ≠ k) ∧ e = .returned (.tuple #[.int .i64 0, .bool false]))) ∧ w = w' := by
  have HA := Lib.hid ha
  have HF := Lib.hid hF
  clear ha hF
  go_enter Try.func25, Try.ntmps25
  go_wp2_with fail
  go_loop [6] (fun i => ∃ n : Nat, n ≤ len ∧ i = .int .i64 n ∧ Hid (∀ j, j < n → (F j).1 ≠ k)) (fun i => len - (intOf i).toNat)
  case atStart => exact ⟨0, Nat.zero_le _, rfl, Lib.hid (fun j h => absurd h (by omega))⟩
  case round =>
    obtain ⟨n, hn, rfl, HN⟩ := hrel
    by_cases hik : n < len
    · obtain rfl := HA.out (by omega)
      obtain ⟨x0, x1⟩ := HF.out n hik
      by_cases hk : (F n).1 = k
      · have d : ((F n).1 == k) = true := beq_iff_eq.2 hk
        have HK := Lib.hid hk
        clear hk
        go_wp2_with fail
        go_ret2
        exact ⟨.inl ⟨n, hik, HK.out, HN.out, rfl⟩, rfl⟩
      · have d : ((F n).1 == k) = false := beq_eq_false_iff_ne.2 hk
        have HK := Lib.hid hk
        clear hk
        go_wp2_with fail
        go_round
        case rel => exact ⟨n + 1, by omega, by go_num, Lib.hid (fun j hj => by
          by_cases e : j = n
          · rw [e]; exact HK.out
          · exact HN.out j (by omega))⟩
        case measure => simp [intOf]; omega
    · obtain rfl : n = len := by omega
      clear hik
      go_wp2_with fail
      go_ret2
      exact ⟨.inr ⟨HN.out, rfl⟩, rfl⟩

def cntF (F : Nat → Int × Int) (v : Int) : Nat → Int
  | 0 => 0
  | n + 1 => cntF F v n + (if (F n).2 = v then 1 else 0)
theorem cntF_le (F : Nat → Int × Int) (v : Int) : ∀ n, 0 ≤ cntF F v n ∧ cntF F v n ≤ n
  | 0 => by simp [cntF]
  | n + 1 => by have := cntF_le F v n; simp only [cntF]; split <;> omega

set_option maxHeartbeats 1000000 in
theorem rCount (a : Option Addr) (len cap b off : Nat) (F : Nat → Int × Int) (v : Int) (w : World) (ha : 0 < len → a = some ⟨b, off, none⟩) (hl : len ≤ 1000000)
    (hF : ∀ i, i < len → w.cell? ⟨b, off + i * 2, none⟩ = some (.int .i64 (F i).1) ∧ w.cell? ⟨b, off + i * 2 + 1, none⟩ = some (.int .i64 (F i).2)) :
    Calls Try.prog 26 #[.slice a len cap, .int .i64 v] w fun e w' => e = .returned (.int .i64 (cntF F v len)) ∧ w = w' := by
  have HA := Lib.hid ha
  have HF := Lib.hid hF
  clear ha hF
  go_enter Try.func26, Try.ntmps26
  go_wp2_with fail
  go_loop [5, 6] (fun c i => ∃ n : Nat, n ≤ len ∧ i = .int .i64 n ∧ c = .int .i64 (cntF F v n)) (fun _ i => len - (intOf i).toNat)
  case atStart => exact ⟨0, Nat.zero_le _, rfl, rfl⟩
  case round =>
    obtain ⟨n, hn, rfl, rfl⟩ := hrel
    have hc := cntF_le F v n
    by_cases hik : n < len
    · obtain rfl := HA.out (by omega)
      obtain ⟨x0, x1⟩ := HF.out n hik
      by_cases hk : (F n).2 = v
      · have d : ((F n).2 == v) = true := beq_iff_eq.2 hk
        have e : cntF F v (n + 1) = cntF F v n + 1 := by simp [cntF, hk]
        have E := Lib.hid e
        clear hk e
        go_wp2_with fail
        go_round
        case rel => exact ⟨n + 1, by omega, by go_num, by rw [E.out]⟩
        case measure => simp [intOf]; omega
      · have d : ((F n).2 == v) = false := beq_eq_false_iff_ne.2 hk
        have e : cntF F v (n + 1) = cntF F v n := by simp [cntF, hk]
        have E := Lib.hid e
        clear hk e
        go_wp2_with fail
        go_round
        case rel => exact ⟨n + 1, by omega, by go_num, by rw [E.out]⟩
        case measure => simp [intOf]; omega
    · obtain rfl : n = len := by omega
      clear hik
      go_wp2_with fail
      go_ret
      exact ⟨rfl, rfl⟩

/-- The names of fates. -/
def nameOf (k : Int) : ByteArray :=
  if k = 1 then ⟨#[97, 100, 109, 105, 116, 116, 101, 100]⟩ else if k = 2 then ⟨#[117, 112, 100, 97, 116, 101, 100]⟩ else if k = 3 then ⟨#[114, 101, 106, 101, 99, 116, 101, 100]⟩
  else if k = 4 then ⟨#[100, 114, 111, 112, 112, 101, 100]⟩ else if k = 5 then ⟨#[100, 105, 115, 99, 97, 114, 100, 101, 100]⟩ else ⟨#[]⟩

theorem Name_any (k : Int) (w : World) : Calls Try.prog 27 #[.int .i64 k] w fun e w' => e = .returned (.string (nameOf k)) ∧ w = w' := by
  by_cases h1 : k = 1
  · subst h1
    go_enter Try.func27, Try.ntmps27
    go_wp2_with fail
    go_ret
    exact ⟨rfl, rfl⟩
  by_cases h2 : k = 2
  · subst h2
    go_enter Try.func27, Try.ntmps27
    go_wp2_with fail
    go_ret
    exact ⟨rfl, rfl⟩
  by_cases h3 : k = 3
  · subst h3
    go_enter Try.func27, Try.ntmps27
    go_wp2_with fail
    go_ret
    exact ⟨rfl, rfl⟩
  by_cases h4 : k = 4
  · subst h4
    go_enter Try.func27, Try.ntmps27
    go_wp2_with fail
    go_ret
    exact ⟨rfl, rfl⟩
  by_cases h5 : k = 5
  · subst h5
    go_enter Try.func27, Try.ntmps27
    go_wp2_with fail
    go_ret
    exact ⟨rfl, rfl⟩
  have e : nameOf k = ⟨#[]⟩ := by unfold nameOf; rw [if_neg h1, if_neg h2, if_neg h3, if_neg h4, if_neg h5]
  rw [e]
  have d1 : (k == 1) = false := beq_eq_false_iff_ne.2 h1
  have d2 : (k == 2) = false := beq_eq_false_iff_ne.2 h2
  have d3 : (k == 3) = false := beq_eq_false_iff_ne.2 h3
  have d4 : (k == 4) = false := beq_eq_false_iff_ne.2 h4
  have d5 : (k == 5) = false := beq_eq_false_iff_ne.2 h5
  clear h1 h2 h3 h4 h5 e
  go_enter Try.func27, Try.ntmps27
  go_wp2_with fail
  go_ret
  exact ⟨rfl, rfl⟩
end Go.Proofs.Ytlnmnnoibimknaa.Fa
