/-
  Numbers and their texts, plain: a number's text parses as that number; what a row of bytes spells. No program in sight.
-/
import Derived.ProofKit
import Derived.Lib.ItoaLen
import Derived.Lib.ItoaNum
import Derived.Lib.ParseIntBTie
import Derived.Lib.DecodeN
import Derived.Lib.MapLaws
namespace Go.NumT
open Go.Lib

theorem dg_in (k : Nat) (h : k < 10) : 48 ≤ (UInt8.ofNat (48 + k)).toNat ∧ (UInt8.ofNat (48 + k)).toNat ≤ 57 ∧ (UInt8.ofNat (48 + k)).toNat - 48 = k := by
  have : ∀ k, k < 10 → 48 ≤ (UInt8.ofNat (48 + k)).toNat ∧ (UInt8.ofNat (48 + k)).toNat ≤ 57 ∧ (UInt8.ofNat (48 + k)).toNat - 48 = k := by decide
  exact this k h
theorem dec_digits : ∀ (u : Nat), ∀ c ∈ decDigits u, 48 ≤ c.toNat ∧ c.toNat ≤ 57 := by
  intro u
  induction u using Nat.strongRecOn with
  | _ u ih =>
    intro c hc
    rw [decDigits] at hc
    split at hc
    · rename_i h
      simp only [List.mem_singleton] at hc
      subst hc
      have := dg_in u h
      exact ⟨this.1, this.2.1⟩
    · rename_i h
      simp only [List.mem_append, List.mem_singleton] at hc
      rcases hc with hc | rfl
      · exact ih (u / 10) (by omega) c hc
      · have := dg_in (u % 10) (by omega)
        exact ⟨this.1, this.2.1⟩
theorem dec_ne (u : Nat) : decDigits u ≠ [] := fun h => by
  have := decDigits_length u
  rw [h] at this
  have := nDigits_pos u
  simp at *
  omega
theorem parse_dec : ∀ (u : Nat), u < 18446744073709551616 → ∀ r, parseUint10 0 (decDigits u ++ r) = parseUint10 u r := by
  intro u
  induction u using Nat.strongRecOn with
  | _ u ih =>
    intro hu r
    rw [decDigits]
    split
    · rename_i h
      obtain ⟨h1, h2, h3⟩ := dg_in u h
      show parseUint10 0 (UInt8.ofNat (48 + u) :: r) = _
      rw [parseUint10, if_pos ⟨h1, h2⟩, if_neg (by decide), if_neg (by omega), h3]
      simp
    · rename_i h
      rw [List.append_assoc, ih (u / 10) (by omega) (by omega)]
      obtain ⟨h1, h2, h3⟩ := dg_in (u % 10) (by omega)
      show parseUint10 (u / 10) (UInt8.ofNat (48 + u % 10) :: r) = _
      rw [parseUint10, if_pos ⟨h1, h2⟩, if_neg (by omega), if_neg (by omega), h3]
      congr 1
      omega
theorem parse_mag (u : Nat) (hu : u < 18446744073709551616) : parseMag (decDigits u) = .ok u := by
  unfold parseMag
  rw [if_neg (dec_ne u)]
  have := parse_dec u hu []
  rw [List.append_nil] at this
  rw [this]
  rfl
theorem parse_itoa (n : Int) (h0 : -9223372036854775808 ≤ n) (h1 : n ≤ 9223372036854775807) : parseIntB 64 (itoa n) = .ok n := by
  rw [parseIntB_64]
  by_cases hn : n < 0
  · have e : itoa n = 45 :: decDigits n.natAbs := by unfold itoa; rw [if_pos hn]
    rw [e]
    unfold atoiAll
    have hm := parse_mag n.natAbs (by omega)
    have h45 : (45 : UInt8).toNat = 45 := rfl
    simp only [h45, hm, or_true, if_true, not_true, false_and, if_false, true_and]
    rw [if_neg (by omega)]
    simp only [NumEnd.ok.injEq]
    omega
  · have e : itoa n = decDigits n.toNat := by unfold itoa; rw [if_neg hn]
    rw [e]
    have hd := dec_digits n.toNat
    have hm := parse_mag n.toNat (by omega)
    cases hl : decDigits n.toNat with
    | nil => exact absurd hl (dec_ne _)
    | cons c r =>
      rw [hl] at hd hm
      have hc := hd c (by simp)
      unfold atoiAll
      simp only [if_neg (show ¬ (c.toNat = 43 ∨ c.toNat = 45) by omega), hm]
      rw [if_neg (by omega), if_neg (by omega), if_neg (by omega)]
      congr 1
      omega
theorem itoa_inj {n m : Int} (hn : -9223372036854775808 ≤ n ∧ n ≤ 9223372036854775807) (hm : -9223372036854775808 ≤ m ∧ m ≤ 9223372036854775807) (h : itoa n = itoa m) : n = m := by
  have h1 := parse_itoa n hn.1 hn.2
  rw [h, parse_itoa m hm.1 hm.2] at h1
  injection h1 with h1
  exact h1.symm
/-- Each byte of a number's text is a digit, or the sign ahead. -/
theorem itoa_byte (n : Int) (k : Nat) (h : k < (itoa n).length) : (48 ≤ ((itoa n)[k]).toNat ∧ ((itoa n)[k]).toNat ≤ 57) ∨ (k = 0 ∧ ((itoa n)[k]).toNat = 45 ∧ n < 0) := by
  by_cases hn : n < 0
  · have e : itoa n = 45 :: decDigits n.natAbs := by unfold itoa; rw [if_pos hn]
    cases k with
    | zero => right; simp [e]; exact hn
    | succ k =>
      left
      have hk : k < (decDigits n.natAbs).length := by rw [e] at h; simpa using h
      have : (itoa n)[k + 1] = (decDigits n.natAbs)[k] := by simp [e]
      rw [this]
      exact dec_digits _ _ (List.getElem_mem hk)
  · have e : itoa n = decDigits n.toNat := by unfold itoa; rw [if_neg hn]
    left
    have hk : k < (decDigits n.toNat).length := by rw [e] at h; exact h
    have : (itoa n)[k] = (decDigits n.toNat)[k] := by simp [e]
    rw [this]
    exact dec_digits _ _ (List.getElem_mem hk)
/-- What a row of digits spells. -/
def dv (l : List UInt8) : Int := l.foldl (fun a c => 10 * a + ((c.toNat : Int) - 48)) 0
theorem dv_snoc (l : List UInt8) (c : UInt8) : dv (l ++ [c]) = 10 * dv l + ((c.toNat : Int) - 48) := by simp [dv]
theorem dv_dec : ∀ u : Nat, dv (decDigits u) = u := by
  intro u
  induction u using Nat.strongRecOn with
  | _ u ih =>
    rw [decDigits]
    split
    · rename_i h
      obtain ⟨h1, h2, h3⟩ := dg_in u h
      have : dv [UInt8.ofNat (48 + u)] = ((UInt8.ofNat (48 + u)).toNat : Int) - 48 := by simp [dv]
      rw [this]
      omega
    · rename_i h
      rw [dv_snoc, ih (u / 10) (by omega)]
      obtain ⟨h1, h2, h3⟩ := dg_in (u % 10) (by omega)
      omega
theorem decode_pos (s : ByteArray) (i : Nat) : 1 ≤ (Utf8.decode s i).2 := by
  rw [decode_at]
  rcases decodeN_shape (s.size - i) (s.get! i).toNat (s.get! (i + 1)).toNat (s.get! (i + 2)).toNat (s.get! (i + 3)).toNat with ⟨_, h⟩ | ⟨_, _, _, _, h⟩ | ⟨_, _, _, _, _, _, h⟩ | ⟨_, _, _, _, _, _, _, h⟩ | h
  all_goals (rw [h]; simp)
end Go.NumT
