/-
  The document's answer for layer 20: rows of a hash and an end.
  Fewer than 1,000,000 hashes; ends as an index takes them; no other condition.
-/
import Derived.Test.YtnjohjicmhobdaaExpG
import Derived.Test.YtnjohjicmhobdaaSegE
namespace Go.Proofs.Ytnjohjicmhobdaa.Exi
open Go.RowKit Go.Shelf Go.Seg Go.Open Go.Lib Rk Ex
attribute [local go_sem] Oper.semAt_some

def RE : Row.Ty Try.prog := ⟨71, 83, .agg #[.int .u64 0, .int .i64 0], 2, 16, Try.underlying71, by kernel_rfl, rfl, by decide, by decide⟩
def cellsE (l : List (Int × Int)) : List Value := cells2 (fun x => Value.int .u64 x.1) (fun x => Value.int .i64 x.2) l
theorem cellsE_snoc (l : List (Int × Int)) (x : Int × Int) : cellsE (l ++ [x]) = cellsE l ++ [.int .u64 x.1, .int .i64 x.2] := by simp [cellsE, cells2]
/-- The document's row. -/
def RowE (w : World) (B : Nat) (u : Value) (l : List (Int × Int)) : Prop := Row.Own RE w B u l.length (cellsE l)
theorem RowE.ext {w w' : World} {B : Nat} {u : Value} {l : List (Int × Int)} (h : RowE w B u l) (e : Ext w w') : RowE w' B u l := Row.Own.ext h e
theorem RowE.base {w : World} {B B' : Nat} {u : Value} {l : List (Int × Int)} (h : RowE w B u l) (e : B' ≤ B) : RowE w B' u l := Row.Own.base h e
theorem RowE.nil (w : World) (B : Nat) : RowE w B (.slice none 0 0) [] := Row.Own.nil w B
theorem RowE.openR {w : World} {B : Nat} {u : Value} {l : List (Int × Int)} (h : RowE w B u l) : ∃ (a : Option Addr) (cap b : Nat) (F : Nat → Int × Int), u = .slice a l.length cap ∧ (0 < l.length → a = some ⟨b, 0, none⟩) ∧ (∀ (i : Nat) (h : i < l.length), F i = l[i]) ∧
    (∀ W, Ext w W → ∀ i, i < l.length → W.cell? ⟨b, i * 2, none⟩ = some (.int .u64 (F i).1) ∧ W.cell? ⟨b, i * 2 + 1, none⟩ = some (.int .i64 (F i).2)) := by
  obtain ⟨a, cap, b, hu, _, _, ha, _, hc⟩ := Row.Own.open' h
  refine ⟨a, cap, b, fun i => l.getD i (0, 0), hu, ha, fun i h => by simp [List.getD_eq_getElem?_getD, h], fun W hW i hi => ?_⟩
  obtain ⟨h1, h2⟩ := cells2_get (fun x : Int × Int => Value.int .u64 x.1) (fun x => Value.int .i64 x.2) l i hi
  have e : l.getD i (0, 0) = l[i] := by simp [List.getD_eq_getElem?_getD, hi]
  have hc' := hc W hW
  unfold cellsE at hc'
  rw [hc' (i * 2) (by show _ < l.length * 2; omega), hc' (i * 2 + 1) (by show _ < l.length * 2; omega), h1, h2]
  dsimp only
  rw [e]
  exact ⟨rfl, rfl⟩
theorem RowE.val {w : World} {B : Nat} {u : Value} {l : List (Int × Int)} (h : RowE w B u l) : ∃ a cap, u = .slice a l.length cap := by
  obtain ⟨a, cap, b, G, hu, _⟩ := h.openR
  exact ⟨a, cap, hu⟩
theorem appE {W : World} {ops : Array Oper} {r : List Oper} {o : Oper} {a : Act} {Q : Exit → Act → World → Prop} (hgd : o.guard = none) (s x : Operand)
    (ho : o.op = .call { callee := .builtin .append, args := #[s, x], argTypes := #[71, 71] }) (B : Nat) (v : Value) (l : List (Int × Int)) (hs : a.eval s = v) (hown : RowE W B v l) (y : Int × Int) (hx : a.eval x = .slice (some ⟨W.heap.size, 0, none⟩) 1 1)
    (h63 : l.length + 1 ≤ 1000000) {W0 : World} (hE : Ext W0 W) (hB : B = W0.heap.size)
    (h : ∀ a' cap w', RowE w' B (.slice a' (l.length + 1) cap) (l ++ [y]) → Ext W0 w' → wpList Try.prog ops Q r (a.put o.dst (.slice a' (l.length + 1) cap)) w') :
    wpList Try.prog ops Q (o :: r) a (W.alloc (.cells #[.int .u64 y.1, .int .i64 y.2] 83)) := by
  have hA : Ext W (W.alloc (.cells #[.int .u64 y.1, .int .i64 y.2] 83)) := (Below.refl _ _).alloc (Nat.le_refl _) _
  have hz := hE.size
  refine Row.wpList_app2 RE _ hgd s x ho B v l.length (cellsE l) hs (hown.ext hA) W.heap.size _ 1 [.int .u64 y.1, .int .i64 y.2] hx (Row.own_lit RE W #[.int .u64 y.1, .int .i64 y.2] rfl) (by intro u hu; simp at hu; rcases hu with rfl | rfl <;> rfl) h63 (by simp; omega) (fun a' cap w' h1 h2 => ?_)
  refine h a' cap w' ?_ (Row.ext_grown (hE.trans hA) (hown.ext hA) (by omega) h2)
  unfold RowE
  rw [cellsE_snoc, List.length_append]
  exact h1

theorem take_snoc {α : Type} {l : List α} {n : Nat} (h : n < l.length) : l.take (n + 1) = l.take n ++ [l[n]] := List.take_succ_eq_append_getElem h
theorem rest_snoc (l : List (Int × Int)) (x : Int × Int) (k : Int) : rest (l ++ [x]) k = if x.1 = k then rest l k else rest l k ++ [x] := by
  unfold rest
  rw [List.filter_append]
  by_cases h : x.1 = k <;> simp [h]

set_option maxRecDepth 100000 in
theorem rDrop (u : Value) (B : Nat) (l : List (Int × Int)) (k : Int) (w : World) (h : RowE w B u l) (hl : l.length ≤ 1000000) :
    Calls Try.prog 36 #[u, .int .u64 k] w fun e w' => ∃ u', e = .returned (.tuple #[u', .bool (decide ((rest l k).length < l.length))]) ∧ RowE w' w.heap.size u' (rest l k) ∧ Ext w w' := by
  obtain ⟨a, cap, b, F, rfl, ha, hF, hc⟩ := h.openR
  have HA := Lib.hid ha
  have HC := Lib.hid hc
  have HF := Lib.hid hF
  clear ha hc hF h
  go_enter Try.func36, Try.ntmps36
  go_wp2_with fail
  go_loopg [6, 7] l.length (fun g v i wr => ∃ (n : Nat) (L : List (Int × Int)), i = .int .i64 n ∧ n ≤ l.length ∧ Hid (rest (l.take n) k = L) ∧ RowE wr w.heap.size v L ∧ Ext w wr ∧ l.length - n ≤ g)
  case atStart => exact ⟨0, [], rfl, Nat.zero_le _, Lib.hid rfl, RowE.nil _ _, Ext.refl _, Nat.le_refl _⟩
  case round =>
    obtain ⟨n, L, rfl, hn, HL, hown, hE, hg⟩ := hrel
    have HOwn := Lib.hid hown
    have HE := Lib.hid hE
    have hLn : L.length ≤ n := by
      rw [← HL.out]
      have := List.length_filter_le (fun x : Int × Int => decide (x.1 ≠ k)) (l.take n)
      rw [List.length_take] at this
      unfold rest
      omega
    obtain ⟨av, cv, rfl⟩ := hown.val
    clear hown hE
    by_cases hik : n < l.length
    · obtain rfl := HA.out (by omega)
      obtain ⟨x0, x1⟩ := HC.out _ HE.out n hik
      by_cases hk : (F n).1 = k
      · have d : ((F n).1 != k) = false := by simp [hk]
        have E : Hid (rest (l.take (n + 1)) k = L) := Lib.hid (by rw [take_snoc hik, rest_snoc, ← HF.out n hik, if_pos hk]; exact HL.out)
        clear hk
        go_wp2_with fail
        go_roundg (l.length - (n + 1))
        case measure => omega
        case rel => exact ⟨n + 1, L, by go_num, by omega, E, HOwn.out, HE.out, Nat.le_refl _⟩
      · have d : ((F n).1 != k) = true := by simp [hk]
        have E : Hid (rest (l.take (n + 1)) k = L ++ [F n]) := Lib.hid (by rw [take_snoc hik, rest_snoc, ← HF.out n hik, if_neg hk, HL.out])
        clear hk
        go_wp2_with (at_builtin; refine appE rfl _ _ rfl w.heap.size _ L rfl HOwn.out (F n) rfl (by omega) HE.out rfl ?_)
        intro a1 c1 w1 hO1 hE1
        have HO1 := Lib.hid hO1
        have HE1 := Lib.hid hE1
        clear hO1 hE1
        go_wp2_with fail
        go_roundg (l.length - (n + 1))
        case measure => omega
        case rel => exact ⟨n + 1, L ++ [F n], by go_num, by omega, E, HO1.out, HE1.out, Nat.le_refl _⟩
    · obtain rfl : n = l.length := by omega
      have hdn : decide ((l.length : Int) < (l.length : Int)) = false := decide_eq_false (by omega)
      have e : rest l k = L := by have := HL.out; rwa [List.take_length] at this
      have E := Lib.hid e
      clear hik e
      go_wp2_with fail
      go_ret2
      rw [E.out]
      exact ⟨_, rfl, HOwn.out, HE.out⟩
end Go.Proofs.Ytnjohjicmhobdaa.Exi
