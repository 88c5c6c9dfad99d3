/-
  Belady: the document's next uses: the walks of use and Next.
  At most 4096 requests; no other condition.
-/
import Derived.Test.YtnjohjicmhobdaaBelAw
import Derived.Test.YtnjohjicmhobdaaSegE
namespace Go.Proofs.Ytnjohjicmhobdaa.Bl
open Go.RowKit Go.Seg Go.Open Go.Lib Bel

theorem nxt_is {l : List Int} {k : Nat} {x : Int} (hk : k < l.length) (hx : l.getD k 0 = x) : ∀ (d i : Nat), i + d = k → (∀ j, i ≤ j → j < k → l.getD j 0 ≠ x) → nxt l i x = k
  | 0, i, h, _ => by
    obtain rfl : i = k := by omega
    rw [nxt_step hk, if_pos (by rw [← getD_eq hk]; exact hx)]
  | d + 1, i, h, hno => by
    rw [nxt_step (show i < l.length by omega), if_neg (by rw [← getD_eq (show i < l.length by omega)]; exact hno i (Nat.le_refl _) (by omega))]
    exact nxt_is hk hx d (i + 1) (by omega) (fun j h1 h2 => hno j (by omega) h2)
theorem nxt_none {l : List Int} {x : Int} : ∀ (d i : Nat), i + d = l.length → (∀ j, i ≤ j → j < l.length → l.getD j 0 ≠ x) → nxt l i x = l.length
  | 0, i, h, _ => by
    have h1 := nxt_ge l i x
    have h2 := nxt_le l i x (by omega)
    omega
  | d + 1, i, h, hno => by
    rw [nxt_step (show i < l.length by omega), if_neg (by rw [← getD_eq (show i < l.length by omega)]; exact hno i (Nat.le_refl _) (by omega))]
    exact nxt_none d (i + 1) (by omega) (fun j h1 h2 => hno j (by omega) h2)
theorem lst_getD' {F : Nat → Int} {len j : Nat} (h : j < len) : (lst F len).getD j 0 = F j := by
  rw [getD_eq (by rw [lst_len]; exact h), lst_get]

set_option maxRecDepth 100000 in
theorem use_any (a : Option Addr) (len cap b off : Nat) (F : Nat → Int) (i : Nat) (x : Int) (w : World) (ha : 0 < len → a = some ⟨b, off, none⟩) (hl : len ≤ 4096) (hi : i < len) (hF : ∀ j, j < len → w.cell? ⟨b, off + j, none⟩ = some (.int .i64 (F j))) :
    Calls Try.prog 57 #[.slice a len cap, .int .i64 i, .int .i64 x] w fun e w' => e = .returned (.int .i64 (nxt (lst F len) (i + 1) x)) ∧ w = w' := by
  obtain rfl := ha (by omega)
  have HF := Lib.hid hF
  have HI : Hid (∀ k, i + 1 ≤ k → k < len → F k = x → (∀ j, i + 1 ≤ j → j < k → F j ≠ x) → nxt (lst F len) (i + 1) x = k) := Lib.hid (fun k h1 h2 h3 h4 =>
    nxt_is (by rw [lst_len]; exact h2) (by rw [lst_getD' h2]; exact h3) (k - (i + 1)) (i + 1) (by omega) (fun j g1 g2 => by rw [lst_getD' (by omega)]; exact h4 j g1 g2))
  have HN : Hid ((∀ j, i + 1 ≤ j → j < len → F j ≠ x) → nxt (lst F len) (i + 1) x = len) := Lib.hid (fun h => by
    have := nxt_none (l := lst F len) (x := x) (len - (i + 1)) (i + 1) (by rw [lst_len]; omega) (fun j g1 g2 => by rw [lst_len] at g2; rw [lst_getD' g2]; exact h j g1 g2)
    rwa [lst_len] at this)
  clear ha hF
  go_enter Try.func57, Try.ntmps57
  go_wp2_with fail
  go_loopg [7] len (fun g s wr => ∃ k : Nat, s = .int .i64 k ∧ i + 1 ≤ k ∧ k ≤ len ∧ wr = w ∧ Hid (∀ j, i + 1 ≤ j → j < k → F j ≠ x) ∧ len - k ≤ g)
  case atStart => exact ⟨i + 1, by go_num, Nat.le_refl _, by omega, rfl, Lib.hid (fun j h1 h2 => absurd h1 (by omega)), by omega⟩
  case round =>
    obtain ⟨k, rfl, hk1, hk, rfl, hno, hg⟩ := hrel
    by_cases hik : k < len
    · have x0 := HF.out k hik
      by_cases hx : F k = x
      · have d : (F k == x) = true := by simp [hx]
        have HX := Lib.hid hx
        clear hx
        go_wp2_with fail
        go_ret
        exact ⟨by rw [HI.out k hk1 hik HX.out hno.out]; rfl, rfl⟩
      · have d : (F k == x) = false := by simp [hx]
        have HX := Lib.hid hx
        clear hx
        go_wp2_with fail
        go_roundg (len - (k + 1))
        case measure => omega
        case rel => exact ⟨k + 1, by go_num, by omega, by omega, rfl, Lib.hid (fun j h1 h2 e => by
          by_cases h : j < k
          · exact hno.out j h1 h e
          · have : j = k := by omega
            subst this
            exact HX.out e), Nat.le_refl _⟩
    · obtain rfl : k = len := by omega
      have hdk : decide ((k : Int) < (k : Int)) = false := decide_eq_false (by omega)
      clear hik
      go_wp2_with fail
      go_ret
      exact ⟨by rw [HN.out hno.out]; rfl, rfl⟩

set_option maxRecDepth 100000 in
theorem rNext_any (a : Option Addr) (len cap b off : Nat) (F : Nat → Int) (i : Nat) (w : World) (ha : 0 < len → a = some ⟨b, off, none⟩) (hl : len ≤ 4096) (hi : i < len) (hF : ∀ W, Ext w W → ∀ j, j < len → W.cell? ⟨b, off + j, none⟩ = some (.int .i64 (F j))) :
    Calls Try.prog 15 #[.slice a len cap, .int .i64 i] w fun e w' => e = .returned (.int .i64 (nxt (lst F len) (i + 1) (F i))) ∧ Ext w w' := by
  obtain rfl := ha (by omega)
  have HF := Lib.hid hF
  have HI : Hid (∀ k, i + 1 ≤ k → k < len → F k = F i → (∀ j, i + 1 ≤ j → j < k → F j ≠ F i) → nxt (lst F len) (i + 1) (F i) = k) := Lib.hid (fun k h1 h2 h3 h4 =>
    nxt_is (by rw [lst_len]; exact h2) (by rw [lst_getD' h2]; exact h3) (k - (i + 1)) (i + 1) (by omega) (fun j g1 g2 => by rw [lst_getD' (by omega)]; exact h4 j g1 g2))
  have HN : Hid ((∀ j, i + 1 ≤ j → j < len → F j ≠ F i) → nxt (lst F len) (i + 1) (F i) = len) := Lib.hid (fun h => by
    have := nxt_none (l := lst F len) (x := F i) (len - (i + 1)) (i + 1) (by rw [lst_len]; omega) (fun j g1 g2 => by rw [lst_len] at g2; rw [lst_getD' g2]; exact h j g1 g2)
    rwa [lst_len] at this)
  clear ha hF
  go_enter Try.func15, Try.ntmps15
  go_wp2_with fail
  go_loopg [5] len (fun g s wr => ∃ k : Nat, s = .int .i64 k ∧ i + 1 ≤ k ∧ k ≤ len ∧ Ext w wr ∧ Hid (∀ j, i + 1 ≤ j → j < k → F j ≠ F i) ∧ len - k ≤ g)
  case atStart => exact ⟨i + 1, by go_num, Nat.le_refl _, by omega, Ext.refl _, Lib.hid (fun j h1 h2 => absurd h1 (by omega)), by omega⟩
  case round =>
    obtain ⟨k, rfl, hk1, hk, hE, hno, hg⟩ := hrel
    have HE := Lib.hid hE
    clear hE
    by_cases hik : k < len
    · by_cases hx : F k = F i
      · have d : (F k == F i) = true := by simp [hx]
        have HX := Lib.hid hx
        clear hx
        go_wp2_with fail
        refine wp_region_segsE (Ext wr) (.quiet [9] .done) (by kernel_rfl) (by kernel_rfl) (Ext.drew _) ?_
        apply segE_quiet
        · intro W hW
          have x0 := HF.out _ (HE.out.trans hW) k hik
          have x1 := HF.out _ (HE.out.trans hW) i hi
          simp only [runsT, runsF, rep, pick]
          go_wp2_with fail
          exact ⟨rfl, rfl⟩
        simp only [runsT, runsF, rep, left]
        apply segE_done
        go_wp2_with fail
        go_ret
        exact ⟨by rw [HI.out k hk1 hik HX.out hno.out]; rfl, HE.out.trans (Ext.drew _)⟩
      · have d : (F k == F i) = false := by simp [hx]
        have HX := Lib.hid hx
        clear hx
        go_wp2_with fail
        refine wp_region_segsE (Ext wr) (.quiet [9] .done) (by kernel_rfl) (by kernel_rfl) (Ext.drew _) ?_
        apply segE_quiet
        · intro W hW
          have x0 := HF.out _ (HE.out.trans hW) k hik
          have x1 := HF.out _ (HE.out.trans hW) i hi
          simp only [runsT, runsF, rep, pick]
          go_wp2_with fail
          exact ⟨rfl, rfl⟩
        simp only [runsT, runsF, rep, left]
        apply segE_done
        go_wp2_with fail
        go_roundg (len - (k + 1))
        case measure => omega
        case rel => exact ⟨k + 1, by go_num, by omega, by omega, HE.out.trans (Ext.drew _), Lib.hid (fun j h1 h2 e => by
          by_cases h : j < k
          · exact hno.out j h1 h e
          · have : j = k := by omega
            subst this
            exact HX.out e), Nat.le_refl _⟩
    · obtain rfl : k = len := by omega
      have hdk : decide ((k : Int) < (k : Int)) = false := decide_eq_false (by omega)
      clear hik
      go_wp2_with fail
      go_ret
      exact ⟨by rw [HN.out hno.out]; rfl, HE.out⟩
end Go.Proofs.Ytnjohjicmhobdaa.Bl
