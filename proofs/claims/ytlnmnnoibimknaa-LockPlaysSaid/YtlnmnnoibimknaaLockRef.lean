/-
  The document's answer for layer 21: who holds a lock, by rows of a number and whether they write.
-/
import Derived.Test.YtlnmnnoibimknaaLockAlone
import Derived.OwnWalk
namespace Go.Proofs.Ytlnmnnoibimknaa.Lo1
open Go.RowKit Go.Seg Go.Open Go.Lib Go.Shelf Lk

theorem infoH : (Try.prog.info? 83).map (fun i => (i.zero, i.size, i.bytes)) = some (some (.agg #[.int .i64 0, .bool false]), 2, 16) := by kernel_rfl
def cellsH (l : List (Int × Bool)) : List Value := cells2 (fun x => Value.int .i64 x.1) (fun x => Value.bool x.2) l
/-- The document's row. -/
def RowH (w : World) (B : Nat) (u : Value) (l : List (Int × Bool)) : Prop := w.ownsRow B 83 2 u l.length (cellsH l)
theorem RowH.openR {w : World} {B : Nat} {u : Value} {l : List (Int × Bool)} (h : RowH w B u l) : ∃ (a : Option Addr) (cap b : Nat) (F : Nat → Int × Bool), u = .slice a l.length cap ∧ (0 < l.length → a = some ⟨b, 0, none⟩) ∧ (∀ (i : Nat) (h : i < l.length), F i = l[i]) ∧
    (∀ W, Ext w W → ∀ i, i < l.length → W.cell? ⟨b, i * 2, none⟩ = some (.int .i64 (F i).1) ∧ W.cell? ⟨b, i * 2 + 1, none⟩ = some (.bool (F i).2)) := by
  obtain ⟨a, cap, b, hu, _, _, ha, _, hc⟩ := own_open h
  refine ⟨a, cap, b, fun i => l.getD i (0, false), hu, ha, fun i h => by simp [List.getD_eq_getElem?_getD, h], fun W hW i hi => ?_⟩
  obtain ⟨h1, h2⟩ := cells2_get (fun x : Int × Bool => Value.int .i64 x.1) (fun x => Value.bool x.2) l i hi
  have e : l.getD i (0, false) = l[i] := by simp [List.getD_eq_getElem?_getD, hi]
  unfold cellsH at hc
  rw [hc W hW (i * 2) (by omega), hc W hW (i * 2 + 1) (by omega), h1, h2]
  dsimp only
  rw [e]
  exact ⟨rfl, rfl⟩

theorem RowH.val {w : World} {B : Nat} {u : Value} {l : List (Int × Bool)} (h : RowH w B u l) : ∃ a cap, u = .slice a l.length cap := by
  obtain ⟨a, cap, b, G, hu, _⟩ := h.openR
  exact ⟨a, cap, hu⟩

theorem rHolds (u : Value) (B : Nat) (l : List (Int × Bool)) (id : Int) (w : World) (h : RowH w B u l) (hl : l.length ≤ 1000000) :
    Calls Try.prog 39 #[u, .int .i64 id] w fun e w' => e = .returned (.bool (holdsR l id)) ∧ w = w' := by
  obtain ⟨a, cap, b, F, rfl, ha, hF, hc⟩ := h.openR
  have HA := Lib.hid ha
  have HC := Lib.hid (hc w (Ext.refl _))
  have HF := Lib.hid hF
  clear ha hc hF h
  go_enter Try.func39, Try.ntmps39
  go_wp2_with fail
  go_loop [5] (fun i => ∃ n : Nat, n ≤ l.length ∧ i = .int .i64 n ∧ Hid (∀ j, j < n → (F j).1 ≠ id)) (fun i => l.length - (RowKit.intOf i).toNat)
  case atStart => exact ⟨0, Nat.zero_le _, rfl, Lib.hid (fun j h => absurd h (by omega))⟩
  case round =>
    obtain ⟨n, hn, rfl, HN⟩ := hrel
    by_cases hik : n < l.length
    · obtain rfl := HA.out (by omega)
      obtain ⟨x0, x1⟩ := HC.out n hik
      by_cases hk : (F n).1 = id
      · have d : ((F n).1 == id) = true := beq_iff_eq.2 hk
        have HK := Lib.hid hk
        clear hk
        go_wp2_with fail
        go_ret
        have e : holdsR l id = true := by
          unfold holdsR
          rw [List.any_eq_true]
          exact ⟨l[n], List.getElem_mem hik, by rw [← HF.out n hik]; simp [HK.out]⟩
        exact ⟨by rw [e]; rfl, rfl⟩
      · have d : ((F n).1 == id) = false := beq_eq_false_iff_ne.2 hk
        have HK := Lib.hid hk
        clear hk
        go_wp2_with fail
        go_round
        case rel => exact ⟨n + 1, by omega, by go_num, Lib.hid (fun j hj => by
          by_cases e : j = n
          · rw [e]; exact HK.out
          · exact HN.out j (by omega))⟩
        case measure => simp [RowKit.intOf]; omega
    · obtain rfl : n = l.length := by omega
      clear hik
      go_wp2_with fail
      go_ret
      have e : holdsR l id = false := by
        unfold holdsR
        rw [List.any_eq_false]
        intro x hx
        obtain ⟨j, hj, rfl⟩ := List.mem_iff_getElem.1 hx
        have := HN.out j hj
        rw [HF.out j hj] at this
        simpa using this
      exact ⟨by rw [e]; rfl, rfl⟩

theorem rWritten (u : Value) (B : Nat) (l : List (Int × Bool)) (w : World) (h : RowH w B u l) (hl : l.length ≤ 1000000) :
    Calls Try.prog 54 #[u] w fun e w' => e = .returned (.bool (Lk.written l)) ∧ w = w' := by
  obtain ⟨a, cap, b, F, rfl, ha, hF, hc⟩ := h.openR
  have HA := Lib.hid ha
  have HC := Lib.hid (hc w (Ext.refl _))
  have HF := Lib.hid hF
  clear ha hc hF h
  go_enter Try.func54, Try.ntmps54
  go_wp2_with fail
  go_loop [3] (fun i => ∃ n : Nat, n ≤ l.length ∧ i = .int .i64 n ∧ Hid (∀ j, j < n → (F j).2 = false)) (fun i => l.length - (RowKit.intOf i).toNat)
  case atStart => exact ⟨0, Nat.zero_le _, rfl, Lib.hid (fun j h => absurd h (by omega))⟩
  case round =>
    obtain ⟨n, hn, rfl, HN⟩ := hrel
    by_cases hik : n < l.length
    · obtain rfl := HA.out (by omega)
      obtain ⟨x0, x1⟩ := HC.out n hik
      cases hk : (F n).2 with
      | true =>
        rw [hk] at x1
        have HK := Lib.hid hk
        clear hk
        go_wp2_with fail
        go_ret
        have e : Lk.written l = true := by
          unfold Lk.written
          rw [List.any_eq_true]
          exact ⟨l[n], List.getElem_mem hik, by rw [← HF.out n hik]; exact HK.out⟩
        exact ⟨by rw [e]; rfl, rfl⟩
      | false =>
        rw [hk] at x1
        have HK := Lib.hid hk
        clear hk
        go_wp2_with fail
        go_round
        case rel => exact ⟨n + 1, by omega, by go_num, Lib.hid (fun j hj => by
          by_cases e : j = n
          · rw [e]; exact HK.out
          · exact HN.out j (by omega))⟩
        case measure => simp [RowKit.intOf]; omega
    · obtain rfl : n = l.length := by omega
      clear hik
      go_wp2_with fail
      go_ret
      have e : Lk.written l = false := by
        unfold Lk.written
        rw [List.any_eq_false]
        intro x hx
        obtain ⟨j, hj, rfl⟩ := List.mem_iff_getElem.1 hx
        have := HN.out j hj
        rw [HF.out j hj] at this
        simpa using this
      exact ⟨by rw [e]; rfl, rfl⟩

theorem cellsH_snoc (l : List (Int × Bool)) (x : Int × Bool) : cellsH (l ++ [x]) = cellsH l ++ [.int .i64 x.1, .bool x.2] := by simp [cellsH, cells2]

set_option maxRecDepth 100000 in
set_option maxHeartbeats 4000000 in
theorem rFreeF (u : Value) (B : Nat) (l : List (Int × Bool)) (F : Nat → Int × Bool) (hF : ∀ (i : Nat) (h : i < l.length), F i = l[i]) (id : Int) (w : World) (h : RowH w B u l) (hl : l.length ≤ 1000000) :
    Calls Try.prog 35 #[u, .int .i64 id] w fun e w' => ∃ u', e = .returned (.tuple #[u', .bool (decide ((freeF F id l.length).length < l.length))]) ∧ RowH w' w.heap.size u' (freeF F id l.length) ∧ Ext w w' := by
  obtain ⟨i0, hi, hz0, hz1, hz2⟩ := info_parts infoH
  obtain ⟨a, cap, b, G, rfl, ha, hG, hc⟩ := h.openR
  have HA := Lib.hid ha
  have HC := Lib.hid (show ∀ W, Ext w W → ∀ i, i < l.length → W.cell? ⟨b, i * 2, none⟩ = some (.int .i64 (F i).1) ∧ W.cell? ⟨b, i * 2 + 1, none⟩ = some (.bool (F i).2) from fun W hW i hi => by rw [hF i hi, ← hG i hi]; exact hc W hW i hi)
  clear ha hc hF hG h
  generalize l.length = len at *
  go_enter Try.func35, Try.ntmps35
  go_wp2_with fail
  go_loopg [6, 7] len (fun g v i wr => ∃ n : Nat, i = .int .i64 n ∧ n ≤ len ∧ RowH wr w.heap.size v (freeF F id n) ∧ Ext w wr ∧ len - n ≤ g)
  case atStart => exact ⟨0, rfl, Nat.zero_le _, World.ownsRow_nil _ _ _ _, Ext.refl _, Nat.le_refl _⟩
  case round =>
    obtain ⟨n, rfl, hn, hown, hE, hg⟩ := hrel
    have HOwn := Lib.hid hown
    have HE := Lib.hid hE
    have hfl := freeF_len F id n
    obtain ⟨av, cv, rfl⟩ := hown.val
    clear hown hE
    by_cases hik : n < len
    · obtain rfl := HA.out (by omega)
      obtain ⟨x0, x1⟩ := HC.out _ HE.out n hik
      by_cases hk : (F n).1 = id
      · have d : ((F n).1 != id) = false := by simp [hk]
        have e : freeF F id (n + 1) = freeF F id n := by simp only [freeF]; rw [if_pos hk]
        have E := Lib.hid e
        clear hk e
        go_wp2_with fail
        go_roundg (len - (n + 1))
        case measure => omega
        case rel => exact ⟨n + 1, by go_num, by omega, by rw [E.out]; exact HOwn.out, HE.out, Nat.le_refl _⟩
      · have d : ((F n).1 != id) = true := by simp [hk]
        have e : freeF F id (n + 1) = freeF F id n ++ [F n] := by simp only [freeF]; rw [if_neg hk]
        have E := Lib.hid e
        clear hk e
        go_wp2_with (at_builtin; refine wpList_append_own _ rfl _ _ 58 rfl w.heap.size 83 i0 (.agg #[.int .i64 0, .bool false]) 2 16 Try.underlying58 hi hz0 hz1 hz2 rfl (by decide) _ _ _ rfl (HOwn.out.alloc _) ⟨wr.heap.size, 0, none⟩ 1 1 [.int .i64 (F n).1, .bool (F n).2] rfl rfl ?c1_1 ?c2_1 ?c3_1 ?c4_1 ?c5_1 ?_)
        try case c1_1 =>
          intro j u hj
          match j, hj with
          | 0, hj => simp at hj; subst hj; simp [Addr.add]
          | 1, hj => simp at hj; subst hj; simp [Addr.add]
        case c2_1 => first | exact ⟨rfl, rfl⟩ | (intro u hu; simp at hu; rcases hu with rfl | rfl <;> rfl)
        case c3_1 => unfold maxLen; omega
        case c4_1 => omega
        case c5_1 => have := HE.out.size; first | omega | (simp; omega)
        intro u1 w1 hown1 hgrow1 _
        have HB1 := Lib.hid ((HE.out.alloc HE.out.size _).grown hgrow1 (by have := HE.out.size; simp; omega) (fun j hj => by have := (World.ownsRow.lt HOwn.out j hj).1; omega))
        have HO1 : Hid (RowH w1 w.heap.size u1 (freeF F id (n + 1))) := by
          unfold RowH
          rw [E.out, cellsH_snoc, List.length_append]
          exact hown1
        obtain ⟨a1, c1, rfl⟩ := HO1.out.val
        clear hown1 hgrow1
        go_wp2_with fail
        go_roundg (len - (n + 1))
        case measure => omega
        case rel => exact ⟨n + 1, by go_num, by omega, HO1.out, HB1.out, Nat.le_refl _⟩
    · obtain rfl : n = len := by omega
      have hdn : decide ((n : Int) < (n : Int)) = false := decide_eq_false (by omega)
      clear hik
      go_wp2_with fail
      go_ret2
      exact ⟨_, rfl, HOwn.out, HE.out⟩

theorem rWrite_no (u : Value) (B : Nat) (l : List (Int × Bool)) (id : Int) (w : World) (h : RowH w B u l) (hn : 0 < l.length) :
    Calls Try.prog 33 #[u, .int .i64 id] w fun e w' => e = .returned (.tuple #[u, .bool false]) ∧ w = w' := by
  obtain ⟨a, cap, rfl⟩ : ∃ a cap, u = .slice a l.length cap := by
    obtain ⟨a, cap, b, G, hu, _⟩ := h.openR
    exact ⟨a, cap, hu⟩
  clear h
  generalize l.length = len at *
  go_enter Try.func33, Try.ntmps33
  go_wp2_with fail
  go_ret2
  exact ⟨rfl, rfl⟩
theorem rWrite_yes (a : Option Addr) (cap : Nat) (id : Int) (w : World) :
    Calls Try.prog 33 #[.slice a 0 cap, .int .i64 id] w fun e w' => ∃ u', e = .returned (.tuple #[u', .bool true]) ∧ RowH w' w.heap.size u' [(id, true)] ∧ Ext w w' := by
  go_enter Try.func33, Try.ntmps33
  go_wp2_with fail
  go_ret2
  exact ⟨_, rfl, ⟨by simp [cellsH, cells2], .inr ⟨_, 1, _, rfl, Nat.le_refl _, heap_alloc_new w _, Nat.le_refl _, by unfold maxLen; omega, rfl, rfl⟩⟩, (Below.refl _ _).alloc (Nat.le_refl _) _⟩

set_option maxRecDepth 100000 in
set_option maxHeartbeats 8000000 in
theorem rReadF (u : Value) (B : Nat) (l : List (Int × Bool)) (F : Nat → Int × Bool) (hF : ∀ (i : Nat) (h : i < l.length), F i = l[i]) (id : Int) (w : World) (h : RowH w B u l) (hl : l.length ≤ 1000000) (h1 : Lk.written l = false) (h2 : holdsR l id = false) :
    Calls Try.prog 31 #[u, .int .i64 id] w fun e w' => ∃ u', e = .returned (.tuple #[u', .bool true]) ∧ RowH w' w.heap.size u' (readR F id l.length) ∧ Ext w w' := by
  obtain ⟨i0, hi, hz0, hz1, hz2⟩ := info_parts infoH
  have HR := Lib.hid h
  obtain ⟨a, cap, b, G, rfl, ha, hG, hc⟩ := h.openR
  have HA := Lib.hid ha
  have HC := Lib.hid (show ∀ W, Ext w W → ∀ i, i < l.length → W.cell? ⟨b, i * 2, none⟩ = some (.int .i64 (F i).1) ∧ W.cell? ⟨b, i * 2 + 1, none⟩ = some (.bool (F i).2) from fun W hW i hi => by rw [hF i hi, ← hG i hi]; exact hc W hW i hi)
  have H1 := Lib.hid h1
  have H2 := Lib.hid h2
  clear ha hc hF hG h h1 h2
  obtain ⟨len, hlen⟩ : ∃ len, l.length = len := ⟨_, rfl⟩
  have HLen := Lib.hid hlen
  rw [hlen] at HC HA hl ⊢
  clear hlen
  go_enter Try.func31, Try.ntmps31
  go_wp2_with fail
  refine (rWritten _ B l _ (by rw [← HLen.out]; exact HR.out) (by rw [HLen.out]; exact hl)).mono ?_
  rw [H1.out]
  rintro e w' ⟨rfl, rfl⟩
  go_wp2_with fail
  refine (rHolds _ B l _ _ (by rw [← HLen.out]; exact HR.out) (by rw [HLen.out]; exact hl)).mono ?_
  rw [H2.out]
  rintro e w' ⟨rfl, rfl⟩
  go_wp2_with fail
  go_loopg [6, 7, 8] len (fun g v dn i wr => ∃ n : Nat, i = .int .i64 n ∧ n ≤ len ∧ dn = .bool (readF F id n).2 ∧ RowH wr w.heap.size v (readF F id n).1 ∧ Ext w wr ∧ len - n ≤ g)
  case atStart => exact ⟨0, rfl, Nat.zero_le _, rfl, World.ownsRow_nil _ _ _ _, Ext.refl _, Nat.le_refl _⟩
  case round =>
    obtain ⟨n, rfl, hn, rfl, hown, hE, hg⟩ := hrel
    have HOwn := Lib.hid hown
    have HE := Lib.hid hE
    have hfl : (readF F id n).1.length ≤ n + 1 := by have := readF_len F id n; split at this <;> omega
    obtain ⟨av, cv, rfl⟩ := hown.val
    clear hown hE
    by_cases hik : n < len
    · obtain rfl := HA.out (by omega)
      obtain ⟨x0, x1⟩ := HC.out _ HE.out n hik
      by_cases hins : (readF F id n).2 = false ∧ id < (F n).1
      · have e : readF F id (n + 1) = ((readF F id n).1 ++ [(id, false)] ++ [F n], true) := by simp only [readF]; rw [if_pos hins]
        have E := Lib.hid e
        have hd := hins.1
        have d0 : (!(readF F id n).2) = true := by rw [hd]; rfl
        have d1 : decide (id < (F n).1) = true := decide_eq_true hins.2
        clear e hins hd
        go_wp2_with (at_builtin; refine wpList_append_own _ rfl _ _ 58 rfl w.heap.size 83 i0 (.agg #[.int .i64 0, .bool false]) 2 16 Try.underlying58 hi hz0 hz1 hz2 rfl (by decide) _ _ _ rfl (HOwn.out.alloc _) ⟨wr.heap.size, 0, none⟩ 1 1 [.int .i64 id, .bool false] rfl rfl ?c1_1 ?c2_1 ?c3_1 ?c4_1 ?c5_1 ?_)
        try case c1_1 =>
          intro j u hj
          match j, hj with
          | 0, hj => simp at hj; subst hj; simp [Addr.add]
          | 1, hj => simp at hj; subst hj; simp [Addr.add]
        case c2_1 => first | exact ⟨rfl, rfl⟩ | (intro u hu; simp at hu; rcases hu with rfl | rfl <;> rfl)
        case c3_1 => unfold maxLen; omega
        case c4_1 => omega
        case c5_1 => have := HE.out.size; first | omega | (simp; omega)
        intro u1 w1 hown1 hgrow1 _
        have HB1 := Lib.hid ((HE.out.alloc HE.out.size _).grown hgrow1 (by have := HE.out.size; simp; omega) (fun j hj => by have := (World.ownsRow.lt HOwn.out j hj).1; omega))
        have HO1 : Hid (RowH w1 w.heap.size u1 ((readF F id n).1 ++ [(id, false)])) := by
          unfold RowH
          rw [cellsH_snoc, List.length_append]
          exact hown1
        obtain ⟨a1, c1, rfl⟩ := HO1.out.val
        clear hown1 hgrow1 x0 x1 d0 d1
        obtain ⟨x0, x1⟩ := HC.out _ HB1.out n hik
        go_wp2_with (at_builtin; refine wpList_append_own _ rfl _ _ 58 rfl w.heap.size 83 i0 (.agg #[.int .i64 0, .bool false]) 2 16 Try.underlying58 hi hz0 hz1 hz2 rfl (by decide) _ _ _ rfl (HO1.out.alloc _) ⟨w1.heap.size, 0, none⟩ 1 1 [.int .i64 (F n).1, .bool (F n).2] rfl rfl ?c1_2 ?c2_2 ?c3_2 ?c4_2 ?c5_2 ?_)
        try case c1_2 =>
          intro j u hj
          match j, hj with
          | 0, hj => simp at hj; subst hj; simp [Addr.add]
          | 1, hj => simp at hj; subst hj; simp [Addr.add]
        case c2_2 => first | exact ⟨rfl, rfl⟩ | (intro u hu; simp at hu; rcases hu with rfl | rfl <;> rfl)
        case c3_2 => unfold maxLen; simp; omega
        case c4_2 => simp; omega
        case c5_2 => have := HB1.out.size; first | omega | (simp; omega)
        intro u2 w2 hown2 hgrow2 _
        have HB2 := Lib.hid ((HB1.out.alloc HB1.out.size _).grown hgrow2 (by have := HB1.out.size; simp; omega) (fun j hj => by have := (World.ownsRow.lt HO1.out j (by simpa using hj)).1; omega))
        have HO2 : Hid (RowH w2 w.heap.size u2 (readF F id (n + 1)).1) := by
          unfold RowH
          rw [E.out]
          dsimp only
          rw [cellsH_snoc, List.length_append]
          rw [show (((readF F id n).1 ++ [(id, false)]).length + [F n].length) = (readF F id n).1.length + 1 + 1 by simp]
          exact hown2
        obtain ⟨a2, c2, rfl⟩ := HO2.out.val
        have E2 := Lib.hid (show (readF F id (n + 1)).2 = true by rw [E.out])
        clear hown2 hgrow2
        go_wp2_with fail
        go_roundg (len - (n + 1))
        case measure => omega
        case rel => exact ⟨n + 1, by go_num, by omega, by rw [E2.out], HO2.out, HB2.out, Nat.le_refl _⟩
      · have e : readF F id (n + 1) = ((readF F id n).1 ++ [F n], (readF F id n).2) := by simp only [readF]; rw [if_neg hins]
        have E := Lib.hid e
        have HI := Lib.hid hins
        clear e hins
        cases hd : (readF F id n).2
        · have d1 : decide (id < (F n).1) = false := decide_eq_false (fun h => HI.out ⟨hd, h⟩)
          have HD := Lib.hid hd
          clear hd
          go_wp2_with (at_builtin; refine wpList_append_own _ rfl _ _ 58 rfl w.heap.size 83 i0 (.agg #[.int .i64 0, .bool false]) 2 16 Try.underlying58 hi hz0 hz1 hz2 rfl (by decide) _ _ _ rfl (HOwn.out.alloc _) ⟨wr.heap.size, 0, none⟩ 1 1 [.int .i64 (F n).1, .bool (F n).2] rfl rfl ?c1_3 ?c2_3 ?c3_3 ?c4_3 ?c5_3 ?_)
          try case c1_3 =>
            intro j u hj
            match j, hj with
            | 0, hj => simp at hj; subst hj; simp [Addr.add]
            | 1, hj => simp at hj; subst hj; simp [Addr.add]
          case c2_3 => first | exact ⟨rfl, rfl⟩ | (intro u hu; simp at hu; rcases hu with rfl | rfl <;> rfl)
          case c3_3 => unfold maxLen; omega
          case c4_3 => omega
          case c5_3 => have := HE.out.size; first | omega | (simp; omega)
          intro u1 w1 hown1 hgrow1 _
          have HB1 := Lib.hid ((HE.out.alloc HE.out.size _).grown hgrow1 (by have := HE.out.size; simp; omega) (fun j hj => by have := (World.ownsRow.lt HOwn.out j hj).1; omega))
          have HO1 : Hid (RowH w1 w.heap.size u1 (readF F id (n + 1)).1) := by
            unfold RowH
            rw [E.out]
            dsimp only
            rw [cellsH_snoc, List.length_append]
            exact hown1
          have E2 := Lib.hid (show (readF F id (n + 1)).2 = false by rw [E.out]; exact HD.out)
          obtain ⟨a1, c1, rfl⟩ := HO1.out.val
          clear hown1 hgrow1
          go_wp2_with fail
          go_roundg (len - (n + 1))
          case measure => omega
          case rel => exact ⟨n + 1, by go_num, by omega, by rw [E2.out], HO1.out, HB1.out, Nat.le_refl _⟩
        · have HD := Lib.hid hd
          clear hd
          go_wp2_with (at_builtin; refine wpList_append_own _ rfl _ _ 58 rfl w.heap.size 83 i0 (.agg #[.int .i64 0, .bool false]) 2 16 Try.underlying58 hi hz0 hz1 hz2 rfl (by decide) _ _ _ rfl (HOwn.out.alloc _) ⟨wr.heap.size, 0, none⟩ 1 1 [.int .i64 (F n).1, .bool (F n).2] rfl rfl ?c1_4 ?c2_4 ?c3_4 ?c4_4 ?c5_4 ?_)
          try case c1_4 =>
            intro j u hj
            match j, hj with
            | 0, hj => simp at hj; subst hj; simp [Addr.add]
            | 1, hj => simp at hj; subst hj; simp [Addr.add]
          case c2_4 => first | exact ⟨rfl, rfl⟩ | (intro u hu; simp at hu; rcases hu with rfl | rfl <;> rfl)
          case c3_4 => unfold maxLen; omega
          case c4_4 => omega
          case c5_4 => have := HE.out.size; first | omega | (simp; omega)
          intro u1 w1 hown1 hgrow1 _
          have HB1 := Lib.hid ((HE.out.alloc HE.out.size _).grown hgrow1 (by have := HE.out.size; simp; omega) (fun j hj => by have := (World.ownsRow.lt HOwn.out j hj).1; omega))
          have HO1 : Hid (RowH w1 w.heap.size u1 (readF F id (n + 1)).1) := by
            unfold RowH
            rw [E.out]
            dsimp only
            rw [cellsH_snoc, List.length_append]
            exact hown1
          have E2 := Lib.hid (show (readF F id (n + 1)).2 = true by rw [E.out]; exact HD.out)
          obtain ⟨a1, c1, rfl⟩ := HO1.out.val
          clear hown1 hgrow1
          go_wp2_with fail
          go_roundg (len - (n + 1))
          case measure => omega
          case rel => exact ⟨n + 1, by go_num, by omega, by rw [E2.out], HO1.out, HB1.out, Nat.le_refl _⟩
    · obtain rfl : n = len := by omega
      have hdn : decide ((n : Int) < (n : Int)) = false := decide_eq_false (by omega)
      clear hik
      cases hd : (readF F id n).2
      · have e : readR F id n = (readF F id n).1 ++ [(id, false)] := by unfold readR; rw [if_pos hd]
        have E := Lib.hid e
        clear hd e
        go_wp2_with (at_builtin; refine wpList_append_own _ rfl _ _ 58 rfl w.heap.size 83 i0 (.agg #[.int .i64 0, .bool false]) 2 16 Try.underlying58 hi hz0 hz1 hz2 rfl (by decide) _ _ _ rfl (HOwn.out.alloc _) ⟨wr.heap.size, 0, none⟩ 1 1 [.int .i64 id, .bool false] rfl rfl ?c1_5 ?c2_5 ?c3_5 ?c4_5 ?c5_5 ?_)
        try case c1_5 =>
          intro j u hj
          match j, hj with
          | 0, hj => simp at hj; subst hj; simp [Addr.add]
          | 1, hj => simp at hj; subst hj; simp [Addr.add]
        case c2_5 => first | exact ⟨rfl, rfl⟩ | (intro u hu; simp at hu; rcases hu with rfl | rfl <;> rfl)
        case c3_5 => unfold maxLen; omega
        case c4_5 => omega
        case c5_5 => have := HE.out.size; first | omega | (simp; omega)
        intro u1 w1 hown1 hgrow1 _
        have HB1 := Lib.hid ((HE.out.alloc HE.out.size _).grown hgrow1 (by have := HE.out.size; simp; omega) (fun j hj => by have := (World.ownsRow.lt HOwn.out j hj).1; omega))
        have HO1 : Hid (RowH w1 w.heap.size u1 (readR F id n)) := by
          unfold RowH
          rw [E.out, cellsH_snoc, List.length_append]
          exact hown1
        obtain ⟨a1, c1, rfl⟩ := HO1.out.val
        clear hown1 hgrow1
        go_wp2_with fail
        go_ret2
        exact ⟨_, rfl, HO1.out, HB1.out⟩
      · have e : readR F id n = (readF F id n).1 := by unfold readR; rw [if_neg (by rw [hd]; simp)]
        have E := Lib.hid e
        clear hd e
        go_wp2_with fail
        go_ret2
        exact ⟨_, rfl, by rw [E.out]; exact HOwn.out, HE.out⟩
end Go.Proofs.Ytlnmnnoibimknaa.Lo1
