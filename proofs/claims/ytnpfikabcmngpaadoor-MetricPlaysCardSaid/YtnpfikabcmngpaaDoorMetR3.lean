/-
  The document's answer for package metric: Dec, Text.
-/
import Derived.Test.YtnpfikabcmngpaaDoorMetR2
import Derived.Laws.IdiomStrings
namespace Go.Proofs.YtnpfikabcmngpaaDoor.Met
open Go.RowKit Go.Seg Go.Open Go.Lib

set_option maxHeartbeats 1000000 in
theorem _root_.Go.Seg.Ext.alloc' {w W : World} (h : Ext w W) (o : Obj) : Ext w (W.alloc o) := Below.alloc h h.size o
theorem first_of {j : Nat} (h : IntKind.u64.wrap ((j : Int) / 10) = (j : Int) / 10) : Value.int .u64 (IntKind.u64.wrap ((j : Int) / 10)) = Value.int .u64 ((j / 10 : Nat) : Int) := by rw [h]; rfl
/-- string([]byte{c}). -/
theorem conv1 (W : World) (c : Nat) (hc : c < 256) : (convert 70 9 (.slice (some ⟨W.heap.size, 0, none⟩) 1 1)).run Tryd.prog (W.alloc (.cells #[.int .u8 (c : Int)] 5)) = .ok (.string ⟨#[UInt8.ofNat c]⟩) (W.alloc (.cells #[.int .u8 (c : Int)] 5)) := by
  have h := run_convert_bytes_back (P := Tryd.prog) (W.alloc (.cells #[.int .u8 (c : Int)] 5)) 70 9 5 ⟨W.heap.size, 0, none⟩ 1 [UInt8.ofNat c] Tryd.underlying70 Tryd.underlying5 Tryd.underlying9 (fun j hj => by
    obtain rfl : j = 0 := by simpa using hj
    show World.cell? _ ⟨W.heap.size, 0, none⟩ = _
    rw [(Blk.new W #[.int .u8 (c : Int)] 5).cells 0]
    simp
    omega)
  exact h
set_option maxRecDepth 100000 in
theorem rDec (n : Nat) (w : World) (hn : n < 18446744073709551616) : Calls Tryd.prog 37 #[.int .u64 n] w fun e w' => e = .returned (.string ⟨(decDigits n).toArray⟩) ∧ Ext w w' := by
  have hlen : (decDigits n).length ≤ 20 := by rw [Lib.decDigits_length]; exact Lib.nDigits_le20 n hn
  have HL := Lib.hid hlen
  clear hlen
  go_enter Tryd.func37, Tryd.ntmps37
  go_wp2_with fail
  go_loopg [0, 3] n (fun m v s wr => ∃ (j : Nat) (l : List UInt8), v = .int .u64 j ∧ s = .string ⟨l.toArray⟩ ∧ decDigits n = decDigits j ++ l ∧ j ≤ n ∧ Ext w wr ∧ j ≤ m)
  case atStart => exact ⟨n, [], rfl, rfl, by simp, Nat.le_refl _, Ext.refl _, Nat.le_refl _⟩
  case round =>
    obtain ⟨j, l, rfl, rfl, hd, hj, hX, hm⟩ := hrel
    have HD := Lib.hid hd
    have HX := Lib.hid hX
    have HM := Lib.hid (And.intro hm (And.intro hj hn))
    clear hd hX hm hj hn
    by_cases h9 : 9 < j
    · have d : decide ((9 : Int) < (j : Int)) = true := decide_eq_true (by omega)
      have d' : decide (9 < j) = true := decide_eq_true h9
      have c1 := conv1 wr (48 + j % 10) (by omega)
      rw [show ((48 + j % 10 : Nat) : Int) = 48 + (j : Int) % 10 by omega] at c1
      have hl := HD.out ▸ HL.out
      rw [List.length_append] at hl
      obtain ⟨c, hce⟩ : ∃ c, UInt8.ofNat (48 + j % 10) = c := ⟨_, rfl⟩
      rw [hce] at c1
      have HC := Lib.hid hce
      clear hce
      have a1 : ∀ W, (Op.stringOp .add ⟨#[c]⟩ ⟨l.toArray⟩).run Tryd.prog W = .ok (.string ⟨(c :: l).toArray⟩) W := fun W => run_string_add_lists W [_] l (by simp) (by omega)
      clear hl
      have wq : IntKind.u64.wrap ((j : Int) / 10) = (j : Int) / 10 := wr_id (by have := HM.out; omega)
      go_wp2_with fail
      go_roundg (j / 10)
      case measure => have := HM.out; omega
      case rel => exact ⟨j / 10, c :: l, rfl, rfl, by
        have e : decDigits j = decDigits (j / 10) ++ [c] := by rw [decDigits, dif_neg (by omega), HC.out]
        rw [HD.out, e, List.append_assoc]; rfl, by have := HM.out; omega, HX.out.alloc' _, Nat.le_refl _⟩
    · have d : decide ((9 : Int) < (j : Int)) = false := decide_eq_false (by omega)
      have d' : decide (9 < j) = false := decide_eq_false h9
      have c1 := conv1 wr (48 + j) (by omega)
      rw [show ((48 + j : Nat) : Int) = 48 + (j : Int) by omega] at c1
      have hl := HD.out ▸ HL.out
      rw [List.length_append] at hl
      obtain ⟨c, hce⟩ : ∃ c, UInt8.ofNat (48 + j) = c := ⟨_, rfl⟩
      rw [hce] at c1
      have HC := Lib.hid hce
      clear hce
      have a1 : ∀ W, (Op.stringOp .add ⟨#[c]⟩ ⟨l.toArray⟩).run Tryd.prog W = .ok (.string ⟨(c :: l).toArray⟩) W := fun W => run_string_add_lists W [_] l (by simp) (by omega)
      clear hl
      go_wp2_with fail
      go_ret
      have e : decDigits j = [c] := by rw [decDigits_one (by omega), HC.out]
      exact ⟨by rw [HD.out, e]; rfl, HX.out.alloc' _⟩
set_option maxRecDepth 100000 in
set_option maxHeartbeats 1000000 in
theorem rText (v : Value) (l : List Int) (B0 : Nat) (w : World) (h : UU w B0 v l) (hl : l.length = 13) (hr : InR l) : Calls Tryd.prog 21 #[v] w fun e w' => e = .returned (.string ⟨(text l).toArray⟩) ∧ Ext w w' := by
  obtain ⟨cap, b, rfl, _, _, _, hc⟩ := UU.openU h hl
  have HC := Lib.hid hc
  have HR := Lib.hid hr
  clear h hc hr
  go_enter Tryd.func21, Tryd.ntmps21
  go_wp2_with fail
  go_loopg [3, 4] 13 (fun m s i wr => ∃ k : Nat, k ≤ 13 ∧ i = .int .i64 k ∧ s = .string ⟨(textTo l k).toArray⟩ ∧ Ext w wr ∧ 13 - k ≤ m)
  case atStart => exact ⟨0, by omega, rfl, rfl, Ext.refl _, by omega⟩
  case round =>
    obtain ⟨k, hk, rfl, rfl, hX, hm⟩ := hrel
    have HX := Lib.hid hX
    clear hX
    by_cases hlt : k < 13
    · have d : decide ((k : Int) < 13) = true := decide_eq_true (by omega)
      have d' : decide (k < 13) = true := decide_eq_true hlt
      obtain ⟨u, hu⟩ : ∃ u : Nat, l.getD k 0 = u := ⟨(l.getD k 0).toNat, by have := HR.out k; omega⟩
      have hu64 : u < 18446744073709551616 := by have := HR.out k; omega
      have HCu := Lib.hid (fun W (h : Ext w W) => show W.cell? ⟨b, k, none⟩ = some (.int .u64 (u : Int)) from by rw [← hu]; exact HC.out W h k hlt)
      have HU := Lib.hid (And.intro hu hu64)
      have hlin : (textTo l k).length ≤ 34 * k := textTo_len HR.out k
      obtain ⟨tx, htx⟩ : ∃ tx, textTo l k = tx := ⟨_, rfl⟩
      have HTX := Lib.hid htx
      rw [htx] at hlin ⊢
      have HTL := Lib.hid hlin
      clear hu hu64 htx hlin
      have c0 := HCu.out _ HX.out
      by_cases h0 : 0 < u
      · have d0 : decide (0 < u) = true := decide_eq_true h0
        have HL := Lib.hid (show line l k = nm k ++ 32 :: (Lib.decDigits u ++ [10]) by unfold line; rw [HU.out.1, if_pos (by omega), Int.toNat_natCast]; simp)
        have hn := nm_len k
        have hd : (Lib.decDigits u).length ≤ 20 := by rw [Lib.decDigits_length]; exact Lib.nDigits_le20 u HU.out.2
        have a1 : ∀ W, (Op.stringOp .add ⟨(nm k).toArray⟩ ⟨[32].toArray⟩).run Tryd.prog W = .ok (.string ⟨(nm k ++ [32]).toArray⟩) W := fun W => run_string_add_lists W _ _ (by omega) (by decide)
        have a2 : ∀ W, (Op.stringOp .add ⟨(nm k ++ [32]).toArray⟩ ⟨(Lib.decDigits u).toArray⟩).run Tryd.prog W = .ok (.string ⟨(nm k ++ 32 :: Lib.decDigits u).toArray⟩) W := fun W => (run_string_add_lists W _ _ (by simp; omega) (by omega)).trans (by simp)
        have a3 : ∀ W, (Op.stringOp .add ⟨(nm k ++ 32 :: Lib.decDigits u).toArray⟩ ⟨[10].toArray⟩).run Tryd.prog W = .ok (.string ⟨(nm k ++ 32 :: (Lib.decDigits u ++ [10])).toArray⟩) W := fun W => (run_string_add_lists W _ _ (by simp; omega) (by decide)).trans (by simp)
        have a4 : ∀ W, (Op.stringOp .add ⟨tx.toArray⟩ ⟨(nm k ++ 32 :: (Lib.decDigits u ++ [10])).toArray⟩).run Tryd.prog W = .ok (.string ⟨(tx ++ (nm k ++ 32 :: (Lib.decDigits u ++ [10]))).toArray⟩) W := fun W => run_string_add_lists W _ _ (by have := HTL.out; omega) (by simp; omega)
        have b0 : (0 : Int) ≤ (k : Int) := by omega
        have b1 : (k : Int) < 13 := by omega
        clear hn hd
        go_wp2_with fail
        refine wp_region_segs 15 [([1, 1, 1, 3, 4, 5], false), ([3, 5], false), ([4], false)] (by kernel_rfl) (by kernel_rfl) ?_
        apply segs_cons
        · intro W hW
          have x0 := HCu.out _ (HX.out.trans hW.of_drew)
          simp only [runsT, runsF, rep, pick]
          go_wp2_with fail
          exact ⟨rfl, rfl⟩
        simp only [runsT, runsF, rep, left]
        go_wp2_with fail
        refine (rNames _).mono ?_
        rintro e w1 ⟨bn, rfl, hN1, hE1⟩
        have HNm := Lib.hid hN1
        have HE1 := Lib.hid (HX.out.trans (Ext.trans (Ext.drew _) hE1))
        clear hN1
        go_wp2_with fail
        refine ⟨fun _ => hE1, ?_⟩
        apply segs_cons
        · intro W hW
          have x1 := HNm.out _ hW k hlt
          simp only [runsT, runsF, rep, pick]
          go_wp2_with fail
          exact ⟨rfl, rfl⟩
        simp only [runsT, runsF, rep, left]
        go_wp2_with fail
        refine (rDec u _ HU.out.2).mono ?_
        rintro e w2 ⟨rfl, hE2⟩
        have HE2 := Lib.hid (HE1.out.trans hE2)
        go_wp2_with fail
        refine ⟨fun _ => hE2, ?_⟩
        apply segs_cons
        · intro W hW
          simp only [runsT, runsF, rep, pick]
          go_wp2_with fail
          exact ⟨rfl, rfl⟩
        simp only [runsT, runsF, rep, left]
        go_wp2_with fail
        go_wp2_with fail
        go_roundg (13 - (k + 1))
        case measure => omega
        case rel => exact ⟨k + 1, by omega, by go_num, by simp only [textTo]; rw [HL.out, HTX.out], HE2.out, by omega⟩
      · obtain rfl : u = 0 := by omega
        have HL := Lib.hid (show line l k = [] by unfold line; rw [HU.out.1, if_neg (by decide)])
        have d0 : decide (0 < 0) = false := by decide
        clear h0
        go_wp2_with fail
        go_roundg (13 - (k + 1))
        case measure => omega
        case rel => exact ⟨k + 1, by omega, by go_num, by simp only [textTo]; rw [HL.out, HTX.out, List.append_nil], HX.out, by omega⟩
    · obtain rfl : k = 13 := by omega
      have d : decide (((13 : Nat) : Int) < 13) = false := by decide
      go_wp2_with fail
      go_ret
      exact ⟨rfl, HX.out⟩
end Go.Proofs.YtnpfikabcmngpaaDoor.Met
