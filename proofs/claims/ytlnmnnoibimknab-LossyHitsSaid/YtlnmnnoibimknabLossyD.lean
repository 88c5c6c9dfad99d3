/-
  Package lossy: Replay, as LossyT says: so many calls are done, one behind the other.
-/
import Derived.Test.YtlnmnnoibimknabLossyC
import Derived.Deep.WholeRow
namespace Go.Proofs.Ytlnmnnoibimknab.Lo
open Go.RowKit Go.Seg Go.Open Rk TrTh Lossy

/-- The calls of a slice. -/
def CallsAt (W : World) (b off len : Nat) (F : Nat → C) : Prop := ∀ i, i < len → W.cell? ⟨b, off + i * 13, none⟩ = some (.int .i64 (F i).cl) ∧ W.cell? ⟨b, off + i * 13 + 1, none⟩ = some (.int .i64 (F i).id) ∧ W.cell? ⟨b, off + i * 13 + 2, none⟩ = some (.int .i64 (F i).kd) ∧ W.cell? ⟨b, off + i * 13 + 3, none⟩ = some (.int .i64 (F i).ky) ∧ W.cell? ⟨b, off + i * 13 + 4, none⟩ = some (.int .i64 (F i).vl) ∧ W.cell? ⟨b, off + i * 13 + 5, none⟩ = some (.int .i64 (F i).co) ∧ W.cell? ⟨b, off + i * 13 + 6, none⟩ = some (.int .i64 (F i).tt) ∧ W.cell? ⟨b, off + i * 13 + 7, none⟩ = some (.int .i64 (F i).be) ∧ W.cell? ⟨b, off + i * 13 + 8, none⟩ = some (.int .i64 (F i).wh) ∧ W.cell? ⟨b, off + i * 13 + 9, none⟩ = some (.int .i64 (F i).en) ∧ W.cell? ⟨b, off + i * 13 + 10, none⟩ = some (.int .i64 (F i).tk) ∧ W.cell? ⟨b, off + i * 13 + 11, none⟩ = some (.bool (F i).ok) ∧ W.cell? ⟨b, off + i * 13 + 12, none⟩ = some (.int .i64 (F i).rv)

theorem step_st (F : Nat → C) (k : Nat) (h : may (st F k).1 (st F k).2 (F k) = true) : step (st F k) (F k) = st F (k + 1) := by
  unfold step; rw [if_pos h]; rfl

set_option maxRecDepth 100000 in
set_option maxHeartbeats 4000000 in
theorem Replay_any (a : Option Addr) (len cap : Nat) (b off : Nat) (F : Nat → C) (w : World) (ha : 0 < len → a = some ⟨b, off, none⟩) (hl : len ≤ 40)
    (hF : ∀ W, Below w.heap.size w W → CallsAt W b off len F) :
    Calls Try.prog 12 #[.slice a len cap] w fun e w' => (∃ n : Nat, e = .returned (.int .i64 n) ∧ n ≤ len ∧ ∀ j, j < n → may (st F j).1 (st F j).2 (F j) = true) ∧ Below w.heap.size w w' := by
  have HAA := Lib.hid ha
  have HF := Lib.hid hF
  clear ha hF
  go_enter Try.func12, Try.ntmps12
  go_wp2_with fail
  refine (New_map _).mono ?_
  rintro e w1 ⟨bk, rfl, hbk, hM, hE⟩
  have HM := Lib.hid hM
  have HE := Lib.hid hE
  clear hM hE
  go_wp2_with fail
  go_loopg [9] len (fun g i wr => ∃ k : Nat, i = .int .i64 k ∧ k ≤ len ∧ isMap wr bk (st F k) ∧ (∀ j, j < k → may (st F j).1 (st F j).2 (F j) = true) ∧ Below w.heap.size w wr ∧ len - k ≤ g)
  case atStart => exact ⟨0, rfl, Nat.zero_le _, HM.out, fun _ h => absurd h (by omega), HE.out, Nat.le_refl _⟩
  case round =>
    obtain ⟨k, rfl, hk, hMk, hD, hBel, hg⟩ := hrel
    have HM := Lib.hid hMk
    have HD := Lib.hid hD
    have HE := Lib.hid hBel
    clear hMk hD hBel
    by_cases hik : k < len
    · obtain rfl := HAA.out (by omega)
      obtain ⟨x0, x1, x2, x3, x4, x5, x6, x7, x8, x9, x10, x11, x12⟩ := HF.out _ HE.out k hik
      have hst := Go.run_storeCells_new (P := Try.prog) wr 32 #[.int .i64 0, .int .i64 0, .int .i64 0, .int .i64 0, .int .i64 0, .int .i64 0, .int .i64 0, .int .i64 0, .int .i64 0, .int .i64 0, .int .i64 0, .bool false, .int .i64 0] #[.int .i64 (F k).cl, .int .i64 (F k).id, .int .i64 (F k).kd, .int .i64 (F k).ky, .int .i64 (F k).vl, .int .i64 (F k).co, .int .i64 (F k).tt, .int .i64 (F k).be, .int .i64 (F k).wh, .int .i64 (F k).en, .int .i64 (F k).tk, .bool (F k).ok, .int .i64 (F k).rv] (by kernel_rfl) rfl (by simp [Value.oneCell'])
      have hld := Go.run_loadCellsFrom_new (P := Try.prog) wr 32 #[.int .i64 (F k).cl, .int .i64 (F k).id, .int .i64 (F k).kd, .int .i64 (F k).ky, .int .i64 (F k).vl, .int .i64 (F k).co, .int .i64 (F k).tt, .int .i64 (F k).be, .int .i64 (F k).wh, .int .i64 (F k).en, .int .i64 (F k).tk, .bool (F k).ok, .int .i64 (F k).rv] 13 rfl
      have hA : Ext wr (wr.alloc (Obj.cells #[.int .i64 (F k).cl, .int .i64 (F k).id, .int .i64 (F k).kd, .int .i64 (F k).ky, .int .i64 (F k).vl, .int .i64 (F k).co, .int .i64 (F k).tt, .int .i64 (F k).be, .int .i64 (F k).wh, .int .i64 (F k).en, .int .i64 (F k).tk, .bool (F k).ok, .int .i64 (F k).rv] 32)) := (Below.refl _ _).alloc (Nat.le_refl _) _
      have hz := st_sz F k
      have HA := Lib.hid hA
      have HZ := Lib.hid hz
      clear hA hz
      go_wp2_with fail
      clear x0 x1 x2 x3 x4 x5 x6 x7 x8 x9 x10 x11 x12 hst hld
      refine (do_any bk (st F k) (F k) _ (HM.out.ext HA.out) (by have := HZ.out; omega)).mono ?_
      rintro e w2 ⟨rfl, hM2, hC2⟩
      have HM2 := Lib.hid hM2
      have HE2 := Lib.hid (below_chg (below_ext HE.out HA.out) hC2 (fun i hi => by rw [hi]; exact hbk))
      clear hM2 hC2
      by_cases hy : may (st F k).1 (st F k).2 (F k) = true
      · have HS := Lib.hid (step_st F k hy)
        go_wp2_with fail
        go_roundg (len - (k + 1))
        case measure => omega
        case rel => exact ⟨k + 1, by go_num, by omega, by rw [← HS.out]; exact HM2.out, fun j hj => by
            by_cases hjk : j = k
            · subst hjk; exact hy
            · exact HD.out j (by omega), HE2.out, Nat.le_refl _⟩
      · have hy' : may (st F k).1 (st F k).2 (F k) = false := by simpa using hy
        clear hy
        go_wp2_with fail
        go_ret
        exact ⟨⟨k, rfl, hk, HD.out⟩, HE2.out⟩
    · obtain rfl : k = len := by omega
      clear hik
      have hdk : decide ((k : Int) < (k : Int)) = false := decide_eq_false (by omega)
      go_wp2_with fail
      go_ret
      exact ⟨⟨k, rfl, Nat.le_refl _, HD.out⟩, HE.out⟩

end Go.Proofs.Ytlnmnnoibimknab.Lo
