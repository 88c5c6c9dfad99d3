/-
  Belady: how many hits there are: the walk of Hits; and whether a key is among some.
  At most 4096 requests (the program's own bound); no other condition.
-/
import Derived.Test.YtnjohjicmhobdaaBelPl
namespace Go.Proofs.Ytnjohjicmhobdaa.Bl
open Go.RowKit Go.Seg Go.Open Go.Lib Bel Rk TrUs

theorem hits_le (o : List Bool) (k : Nat) : 0 ≤ hits (o.take k) ∧ hits (o.take k) ≤ k := by
  unfold hits
  have h1 : (o.take k).countP id ≤ (o.take k).length := List.countP_le_length
  have h2 : (o.take k).length ≤ k := by rw [List.length_take]; omega
  omega
theorem hits_take {o : List Bool} {k : Nat} (h : k < o.length) : hits (o.take (k + 1)) = hits (o.take k) + (if o[k] then 1 else 0) := by
  rw [← hits_snoc]
  congr 1
  rw [List.take_add_one, List.getElem?_eq_getElem h]
  rfl

set_option maxRecDepth 100000 in
set_option maxHeartbeats 2000000 in
theorem Hits_any (a : Option Addr) (len cap b off : Nat) (F : Nat → Int) (room r : Int) (w : World) (ha : 0 < len → a = some ⟨b, off, none⟩) (hl : len ≤ 4096) (hwf : ∀ i, i < len → (Lit.int .i64 (F i)).wf = true)
    (hF : ∀ W, Ext w W → ∀ i, i < len → W.cell? ⟨b, off + i, none⟩ = some (.int .i64 (F i))) (hr : (room < 0 ∧ r = 0) ∨ (0 ≤ room ∧ room = r)) :
    Calls Try.prog 10 #[.slice a len cap, .int .i64 room] w fun e w' => e = .returned (.int .i64 (B (lst F len) r len 0 (fun _ => 0))) ∧ Ext w w' := by
  have hP := Lib.hid (Plan_at a len cap b off F room r w ha hl hwf hF hr)
  have HR0 := Lib.hid (show 0 ≤ r by omega)
  clear ha hF hwf hr
  go_enter Try.func10, Try.ntmps10
  go_wp2_with fail
  refine hP.out.mono ?_
  rintro e w1 ⟨g, keys, o, rfl, hg, hB, hp, hE⟩
  have hlen := hp.len
  have HH := Lib.hid (show hits o = B (lst F len) r len 0 (fun _ => 0) by
    have := Pre.hits_eq (l := lst F len) HR0.out (keys := keys) (o := o) (by rw [lst_len]; exact hp)
    rw [lst_len] at this
    exact this)
  have HB := Lib.hid hB
  have HE := Lib.hid hE
  clear hB hp hE hP
  go_wp2_with fail
  go_loopg [4, 11] len (fun g c i wr => ∃ k : Nat, c = .int .i64 (hits (o.take k)) ∧ i = .int .i64 k ∧ k ≤ len ∧ wr = w1 ∧ len - k ≤ g)
  case atStart => exact ⟨0, by simp [hits], rfl, Nat.zero_le _, rfl, Nat.le_refl _⟩
  case round =>
    obtain ⟨k, rfl, rfl, hk, rfl, hgk⟩ := hrel
    obtain ⟨hh0, hh1⟩ := hits_le o k
    obtain ⟨n, hn⟩ : ∃ n, hits (o.take k) = n := ⟨_, rfl⟩
    rw [hn] at hh0 hh1 ⊢
    have HN := Lib.hid hn
    clear hn
    by_cases hik : k < len
    · have hko : k < o.length := by omega
      have x0 := HB.out.cell (i := k) (bools_get (List.getElem?_eq_getElem hko))
      have HT := Lib.hid (hits_take hko)
      cases hb : o[k] with
      | false =>
        rw [hb] at x0
        have HBk := Lib.hid hb
        clear hb
        go_wp2_with fail
        go_roundg (len - (k + 1))
        case measure => omega
        case rel => exact ⟨k + 1, by rw [HT.out, HBk.out, HN.out]; simp, by go_num, by omega, rfl, Nat.le_refl _⟩
      | true =>
        rw [hb] at x0
        have HBk := Lib.hid hb
        clear hb
        go_wp2_with fail
        go_roundg (len - (k + 1))
        case measure => omega
        case rel => exact ⟨k + 1, by rw [HT.out, HBk.out, HN.out]; simp, by go_num, by omega, rfl, Nat.le_refl _⟩
    · obtain rfl : k = len := by omega
      have hdk : decide ((k : Int) < (k : Int)) = false := decide_eq_false (by omega)
      clear hik
      go_wp2_with fail
      go_ret
      exact ⟨by rw [← HH.out, ← HN.out, List.take_of_length_le (by omega)]; rfl, HE.out⟩
end Go.Proofs.Ytnjohjicmhobdaa.Bl
