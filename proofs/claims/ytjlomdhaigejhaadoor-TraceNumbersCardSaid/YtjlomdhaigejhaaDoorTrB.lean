/-
  Numbers as texts: the document's decimals; strconv.FormatUint at base 10.
  The library's table of powers lies there; no other condition.
-/
import Derived.Test.YtjlomdhaigejhaaDoorTrA
import Derived.BigCall
import Derived.BigGuard
import Derived.Shelf.Strconv.Itoa3
namespace Go.Proofs.YtjlomdhaigejhaaDoor.Trc
open Go.RowKit Go.Shelf Go.Seg Go.Open Go.Lib Go.Sort Prg

theorem _root_.Go.Seg.Ext.alloc' {w W : World} (h : Ext w W) (o : Obj) : Ext w (W.alloc o) := Below.alloc h h.size o
theorem first_of {j : Nat} (h : IntKind.u64.wrap ((j : Int) / 10) = (j : Int) / 10) : Value.int .u64 (IntKind.u64.wrap ((j : Int) / 10)) = Value.int .u64 ((j / 10 : Nat) : Int) := by rw [h]; rfl
/-- string([]byte{c}). -/
theorem conv1 (W : World) (c : Nat) (hc : c < 256) : (convert 66 9 (.slice (some ⟨W.heap.size, 0, none⟩) 1 1)).run Tryd.prog (W.alloc (.cells #[.int .u8 (c : Int)] 5)) = .ok (.string ⟨#[UInt8.ofNat c]⟩) (W.alloc (.cells #[.int .u8 (c : Int)] 5)) := by
  have h := run_convert_bytes_back (P := Tryd.prog) (W.alloc (.cells #[.int .u8 (c : Int)] 5)) 66 9 5 ⟨W.heap.size, 0, none⟩ 1 [UInt8.ofNat c] Tryd.underlying66 Tryd.underlying5 Tryd.underlying9 (fun j hj => by
    obtain rfl : j = 0 := by simpa using hj
    show World.cell? _ ⟨W.heap.size, 0, none⟩ = _
    rw [(Blk.new W #[.int .u8 (c : Int)] 5).cells 0]
    simp
    omega)
  exact h
set_option maxRecDepth 100000 in
theorem rDec (n : Nat) (w : World) (hn : n < 18446744073709551616) : Calls Tryd.prog 27 #[.int .u64 n] w fun e w' => e = .returned (.string ⟨(decDigits n).toArray⟩) ∧ Ext w w' := by
  have hlen : (decDigits n).length ≤ 20 := by rw [Lib.decDigits_length]; exact Lib.nDigits_le20 n hn
  have HL := Lib.hid hlen
  clear hlen
  go_enter Tryd.func27, Tryd.ntmps27
  go_wp2_with fail
  go_loopg [0, 3] n (fun m v s wr => ∃ (j : Nat) (l : List UInt8), v = .int .u64 j ∧ s = .string ⟨l.toArray⟩ ∧ decDigits n = decDigits j ++ l ∧ j ≤ n ∧ Ext w wr ∧ j ≤ m)
  case atStart => exact ⟨n, [], rfl, rfl, by simp, Nat.le_refl _, Ext.refl _, Nat.le_refl _⟩
  case round =>
    obtain ⟨j, l, rfl, rfl, hd, hj, hX, hm⟩ := hrel
    have HD := Lib.hid hd
    have HX := Lib.hid hX
    have HM := Lib.hid (And.intro hm (And.intro hj hn))
    clear hd hX hm hj hn
    by_cases h9 : 9 < j
    · have d : decide ((9 : Int) < (j : Int)) = true := decide_eq_true (by omega)
      have d' : decide (9 < j) = true := decide_eq_true h9
      have c1 := conv1 wr (48 + j % 10) (by omega)
      rw [show ((48 + j % 10 : Nat) : Int) = 48 + (j : Int) % 10 by omega] at c1
      have hl := HD.out ▸ HL.out
      rw [List.length_append] at hl
      obtain ⟨c, hce⟩ : ∃ c, UInt8.ofNat (48 + j % 10) = c := ⟨_, rfl⟩
      rw [hce] at c1
      have HC := Lib.hid hce
      clear hce
      have a1 : ∀ W, (Op.stringOp .add ⟨#[c]⟩ ⟨l.toArray⟩).run Tryd.prog W = .ok (.string ⟨(c :: l).toArray⟩) W := fun W => run_string_add_lists W [_] l (by simp) (by omega)
      clear hl
      have wq : IntKind.u64.wrap ((j : Int) / 10) = (j : Int) / 10 := by rw [IntKind.wrap_u64]; have := HM.out; omega
      go_wp2_with fail
      go_roundg (j / 10)
      case measure => have := HM.out; omega
      case rel => exact ⟨j / 10, c :: l, rfl, rfl, by
        have e : decDigits j = decDigits (j / 10) ++ [c] := by rw [decDigits, dif_neg (by omega), HC.out]
        rw [HD.out, e, List.append_assoc]; rfl, by have := HM.out; omega, HX.out.alloc' _, Nat.le_refl _⟩
    · have d : decide ((9 : Int) < (j : Int)) = false := decide_eq_false (by omega)
      have d' : decide (9 < j) = false := decide_eq_false h9
      have c1 := conv1 wr (48 + j) (by omega)
      rw [show ((48 + j : Nat) : Int) = 48 + (j : Int) by omega] at c1
      have hl := HD.out ▸ HL.out
      rw [List.length_append] at hl
      obtain ⟨c, hce⟩ : ∃ c, UInt8.ofNat (48 + j) = c := ⟨_, rfl⟩
      rw [hce] at c1
      have HC := Lib.hid hce
      clear hce
      have a1 : ∀ W, (Op.stringOp .add ⟨#[c]⟩ ⟨l.toArray⟩).run Tryd.prog W = .ok (.string ⟨(c :: l).toArray⟩) W := fun W => run_string_add_lists W [_] l (by simp) (by omega)
      clear hl
      go_wp2_with fail
      go_ret
      have e : decDigits j = [c] := by rw [decDigits_one (by omega), HC.out]
      exact ⟨by rw [HD.out, e]; rfl, HX.out.alloc' _⟩
/-- The new block's bytes are a row of zeros. -/
theorem holds_zero0 (w : World) (T : TypeId) (nd : Nat) (hs : nd ≤ 24) : Holds (fun (b : UInt8) => Value.int .u8 (b.toNat : Int)) (w.alloc (.cells Lib.zeros24 T)) w.heap.size 0 (Array.replicate nd (0 : UInt8)) := fun j hj => by
  have hj' : j < nd := by simpa using hj
  refine ⟨?_, World.frozen?_alloc_new _ _ _ _⟩
  rw [World.cell?_alloc_new, Lib.zeros24_at _ (by omega), getElem!_pos _ j hj]
  simp
theorem ext_fin (w : World) (o : Obj) (dk : Array UInt8) (k : Nat) : Ext w ((putRow (fun (b : UInt8) => Value.int .u8 (b.toNat : Int)) (w.alloc o) w.heap.size 0 dk).drewN k) := by
  rw [alloc_eq_grow]
  obtain ⟨os', _, e⟩ := putRow_grow_new (fun (b : UInt8) => Value.int .u8 (b.toNat : Int)) w #[o] w.heap.size 0 dk (Nat.le_refl _)
  rw [e]
  have h1 : Ext w (grow w os') := ⟨rfl, rfl, rfl, by simp [grow], fun i hi => by simp [grow, Array.getElem?_append_left hi]⟩
  exact ⟨h1.os, h1.tape, h1.output, h1.size, h1.block⟩
set_option maxHeartbeats 3200000 in
set_option maxRecDepth 100000 in
theorem iFormatUint (u : Nat) (hu64 : u < 18446744073709551616) (w : World) (htab : Lib.TabIs Tryd.prog w "internal/strconv.uint64pow10" .u64 Lib.pow10Tab) :
    Calls Tryd.prog 37 #[.int .u64 u, .int .i64 10] w fun e w' => e = .returned (.string ⟨(Lib.decDigits u).toArray⟩) ∧ Ext w w' := by
  by_cases hs : u < 100
  · have d : decide ((u : Int) < 100) = true := decide_eq_true (by omega)
    have hc : IntKind.i64.wrap (u : Int) = (u : Int) := by rw [IntKind.wrap_i64]; omega
    have HS := Lib.hid hs
    clear hs hu64
    go_enter Tryd.func37, Tryd.ntmps37
    go_wp2_with fail
    refine (Tryd.internal_strconv_small u HS.out _).mono ?_
    rintro e w' ⟨rfl, rfl⟩
    go_wp2_with fail
    go_ret
    exact ⟨rfl, Ext.refl _⟩
  · have d : decide ((u : Int) < 100) = false := decide_eq_false (by omega)
    have hu1 : 1 ≤ u := by omega
    have hnd20 : Lib.nDigits u ≤ 20 := by have := Lib.numDigits_eq u hu1 hu64; split at this <;> omega
    have hal : Tryd.prog.arrayLen 79 = 24 := by kernel_rfl
    have hsl : ∀ W, (Instr.sliceAt 79 (.pointer (some ⟨w.heap.size, 0, none⟩)) none (some (.int .i64 (Lib.nDigits u : Int))) none).run Tryd.prog W = .ok (.slice (some ⟨w.heap.size, 0, none⟩) (Lib.nDigits u) 24) W := fun W => by
      rw [run_sliceAt_array_h W 79 ⟨w.heap.size, 0, none⟩ (by kernel_rfl) .i64 (Lib.nDigits u : Int) (by omega) (by rw [hal]; omega)]
      go_simp
    have hH0 := holds_zero0 w 79 (Lib.nDigits u) (by omega)
    have hfmt := Tryd.internal_strconv_formatBase10 w.heap.size 0 24 u (Array.replicate (Lib.nDigits u) 0) (w.alloc (.cells Lib.zeros24 79)) hH0 (by rw [Array.size_replicate]; exact Lib.lt_pow_nDigits u) hu64 (by rw [Array.size_replicate]; omega)
    rw [Array.size_replicate] at hfmt
    have HH0 := Lib.hid hH0
    have HF := Lib.hid hfmt
    have HU := Lib.hid (And.intro hu1 hu64)
    have HT := Lib.hid (Lib.tabIs_alloc htab (.cells Lib.zeros24 79))
    clear hH0 hal hfmt hs hu1 hu64 htab
    go_enter Tryd.func37, Tryd.ntmps37
    go_wp2_with fail
    refine (Tryd.internal_strconv_numDigits u HU.out.1 HU.out.2 _ HT.out).mono ?_
    rintro e w' ⟨rfl, rfl⟩
    go_wp2_with fail
    refine HF.out.mono ?_
    rintro e w' ⟨rfl, k, v', dk, rfl, hFI⟩
    have hcv : (convert 66 9 (.slice (some ⟨w.heap.size, 0, none⟩) (Lib.nDigits u) 24)).run Tryd.prog ((putRow (fun (b : UInt8) => Value.int .u8 (b.toNat : Int)) (w.alloc (.cells Lib.zeros24 79)) w.heap.size 0 dk).drewN k) = .ok (.string ⟨(Lib.decDigits u).toArray⟩) ((putRow (fun (b : UInt8) => Value.int .u8 (b.toNat : Int)) (w.alloc (.cells Lib.zeros24 79)) w.heap.size 0 dk).drewN k) := by
      have h := run_convert_bytes_back (P := Tryd.prog) ((putRow (fun (b : UInt8) => Value.int .u8 (b.toNat : Int)) (w.alloc (.cells Lib.zeros24 79)) w.heap.size 0 dk).drewN k) 66 9 5 ⟨w.heap.size, 0, none⟩ 24 (Lib.decDigits u) Tryd.underlying66 Tryd.underlying5 Tryd.underlying9 (fun j hj => by
        rw [Lib.row_is_numeral hFI j hj, Lib.add_plain, World.cell?_drewN]
        exact cell?_putRow (fun (b : UInt8) => Value.int .u8 (b.toNat : Int)) _ w.heap.size 0 _ dk HH0.out (by rw [hFI.size, Array.size_replicate]) j (by rw [hFI.size]; rw [Lib.decDigits_length] at hj; exact hj))
      rw [Lib.decDigits_length] at h
      exact h
    go_wp2_with fail
    go_ret
    exact ⟨rfl, ext_fin w _ dk k⟩
theorem FormatUint_any (u : Nat) (hu64 : u < 18446744073709551616) (w : World) (htab : Lib.TabIs Tryd.prog w "internal/strconv.uint64pow10" .u64 Lib.pow10Tab) :
    Calls Tryd.prog 26 #[.int .u64 u, .int .i64 10] w fun e w' => e = .returned (.string ⟨(Lib.decDigits u).toArray⟩) ∧ Ext w w' := by
  have HU := Lib.hid hu64
  have HT := Lib.hid htab
  clear hu64 htab
  go_enter Tryd.func26, Tryd.ntmps26
  go_wp2_with fail
  refine (iFormatUint u HU.out _ HT.out).mono ?_
  rintro e w' ⟨rfl, hE⟩
  have HE := Lib.hid hE
  clear hE
  go_wp2_with fail
  go_ret
  exact ⟨rfl, HE.out⟩

theorem rInt (n : Int) (h : I64 n) (w : World) : Calls Tryd.prog 15 #[.int .i64 n] w fun e w' => e = .returned (.string (intS n)) ∧ Ext w w' := by
  by_cases hneg : n < 0
  · obtain ⟨u, hu, hu1⟩ : ∃ u : Nat, n = -(u : Int) ∧ 0 < u := ⟨n.natAbs, by omega, by omega⟩
    have hu2 : u < 18446744073709551616 := by have := h.1; omega
    have e : intS n = cat ⟨#[45]⟩ (decS u) := by
      unfold intS decS
      rw [hu, itoa_neg u hu1]
      exact (cat_str [45] (decDigits u)).symm
    have d : decide (n < 0) = true := decide_eq_true hneg
    have w1 : IntKind.u64.wrap n = 18446744073709551616 - (u : Int) := by rw [IntKind.wrap_u64, hu]; omega
    have w2 : IntKind.u64.wrap (-(18446744073709551616 - (u : Int))) = (u : Int) := by rw [IntKind.wrap_u64]; omega
    have hs := decS_size hu2
    have a1 := sum ⟨#[45]⟩ (decS u) _ e.symm (by show 1 ≤ _; omega) (by omega)
    have HU := Lib.hid hu2
    clear hneg hu hs e h
    go_enter Tryd.func15, Tryd.ntmps15
    go_wp2_with fail
    refine (rDec u _ HU.out).mono ?_
    rintro e w' ⟨rfl, hE⟩
    have HE := Lib.hid hE
    clear hE
    have a1' : ∀ W, (Op.stringOp .add ⟨#[45]⟩ ⟨(decDigits u).toArray⟩).run Tryd.prog W = .ok (.string (intS n)) W := a1
    clear a1
    go_wp2_with fail
    go_ret
    exact ⟨rfl, HE.out⟩
  · obtain ⟨u, rfl⟩ : ∃ u : Nat, n = u := ⟨n.toNat, by omega⟩
    have hu2 : u < 18446744073709551616 := by have := h.2; omega
    have e : intS u = ⟨(decDigits u).toArray⟩ := by unfold intS; rw [itoa_nonneg]; rfl
    rw [e]
    have d : decide ((u : Int) < 0) = false := decide_eq_false hneg
    have w1 : IntKind.u64.wrap (u : Int) = (u : Int) := by rw [IntKind.wrap_u64]; omega
    have HU := Lib.hid hu2
    clear hneg e h hu2
    go_enter Tryd.func15, Tryd.ntmps15
    go_wp2_with fail
    refine (rDec u _ HU.out).mono ?_
    rintro e w' ⟨rfl, hE⟩
    have HE := Lib.hid hE
    clear hE
    go_wp2_with fail
    go_ret
    exact ⟨rfl, HE.out⟩
end Go.Proofs.YtjlomdhaigejhaaDoor.Trc
