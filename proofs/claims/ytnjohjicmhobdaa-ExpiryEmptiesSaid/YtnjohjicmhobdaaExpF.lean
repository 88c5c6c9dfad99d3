/-
  An index of ends: what Due and All hand back; the first one that is due.
  Fewer than 1,000,000 hashes; no other condition.
-/
import Derived.Test.YtnjohjicmhobdaaExpP
import Derived.Test.YtnjohjicmhobdaaExpAl
namespace Go.Proofs.Ytnjohjicmhobdaa.Exi
open Go.RowKit Go.Shelf Go.Seg Go.Open Go.Lib Rk Ex
attribute [local go_sem] Oper.semAt_some

theorem along_mk (p : Option Addr) (g : Nat) (caps : Array Value) (w : World) : Calls Try.prog 97 #[.pointer p, .func (.func g) #[] caps] w fun e w' =>
    e = .returned (.func (.func 132) #[] #[.pointer (some ⟨w.heap.size, 0, none⟩), .pointer (some ⟨w.heap.size + 1, 0, none⟩)]) ∧ w' = (w.alloc (.cells #[.pointer p] 69)).alloc (.cells #[.func (.func g) #[] caps] 147) := by
  go_enter Try.func97, Try.ntmps97
  go_wp2_with fail
  go_ret
  exact ⟨rfl, rfl⟩
/-- What a range over an index wants. -/
structure Each (w : World) (l : List (Int × Int)) (lb : Array Value) : Prop where
  go : ∀ n, SeqN Fence.wide n Try.prog 132 lb (fun x : Int × Int => #[Value.int .u64 x.1, Value.int .i64 x.2]) (kp w.heap.size) (fun ys => ys = l) (fun pre => pre <+: l) w

theorem may1 (k : Int) (W : World) : Calls Try.prog 98 #[.int .i64 k] W fun e w' => e = .returned (.bool true) ∧ W = w' := by
  go_enter Try.func98, Try.ntmps98
  go_wp2_with fail
  go_ret
  exact ⟨rfl, rfl⟩
theorem may2 (k now : Int) (N1 : Nat) (h1 : 0 ≤ k) (h2 : k ≤ 274877906944) (W : World) (hc : W.cell? ⟨N1, 0, none⟩ = some (.int .i64 now)) : Calls Try.prog 99 #[.int .i64 k, .pointer (some ⟨N1, 0, none⟩)] W fun e w' => e = .returned (.bool (dueB now k)) ∧ W = w' := by
  go_enter Try.func99, Try.ntmps99
  go_wp2_with fail
  refine (CDue_any now k h1 h2 _).mono ?_
  rintro e w' ⟨rfl, rfl⟩
  go_wp2_with fail
  go_ret
  exact ⟨rfl, rfl⟩

theorem IndexAt.low {w : World} {b : Nat} {te : T Int Int} {tp : T Int (Option Addr)} {tt : Int → T Int Int} (h : IndexAt w b te tp tt) : IdxB w.heap.size w b tp tt := by
  obtain ⟨q1, q2, hB, _, h2, h3⟩ := h
  exact ⟨hB.lt, q1, q2, hB, h2.low, fun x hx => (h3 x hx).low⟩
theorem each_all {w : World} {b Bx Bm : Nat} {y : List (Int × Int)} (hI : Idx w b y) (hx : w.cell? ⟨Bx, 0, none⟩ = some (.pointer (some ⟨b, 0, none⟩))) (hm : w.cell? ⟨Bm, 0, none⟩ = some (.func (.func 98) #[] #[])) (h1 : Bx < w.heap.size) (h2 : Bm < w.heap.size) :
    Each w y #[.pointer (some ⟨Bx, 0, none⟩), .pointer (some ⟨Bm, 0, none⟩)] := by
  obtain ⟨te, tp, tt, hA, hInv, hy⟩ := hI
  refine ⟨fun n => ?_⟩
  have := along_N n Bx Bm b w.heap.size 98 #[] (enters_of Try.func98 (by kernel_rfl) rfl) (fun _ => true) tp tt w hx hm h1 h2 (Nat.le_refl _) hA.low (fun x _ W _ => may1 x.1 W)
  rw [along_all (fun _ _ => rfl), hy] at this
  exact this
theorem each_due {w : World} {b Bx Bm N1 : Nat} {now : Int} {y : List (Int × Int)} (hI : Idx w b y) (hx : w.cell? ⟨Bx, 0, none⟩ = some (.pointer (some ⟨b, 0, none⟩))) (hm : w.cell? ⟨Bm, 0, none⟩ = some (.func (.func 99) #[] #[.pointer (some ⟨N1, 0, none⟩)])) (hn : w.cell? ⟨N1, 0, none⟩ = some (.int .i64 now)) (h1 : Bx < w.heap.size) (h2 : Bm < w.heap.size) (h3 : N1 < w.heap.size) :
    Each w (dueL now y) #[.pointer (some ⟨Bx, 0, none⟩), .pointer (some ⟨Bm, 0, none⟩)] := by
  obtain ⟨te, tp, tt, hA, hInv, hy⟩ := hI
  refine ⟨fun n => ?_⟩
  have := along_N n Bx Bm b w.heap.size 99 #[.pointer (some ⟨N1, 0, none⟩)] (enters_of Try.func99 (by kernel_rfl) rfl) (dueB now) tp tt w hx hm h1 h2 (Nat.le_refl _) hA.low
    (fun x hx W hW => may2 x.1 now N1 (hInv.bks x hx).1 (hInv.bks x hx).2 W ((hW.cell (p := ⟨N1, 0, none⟩) h3).trans hn))
  have e : along (dueB now) tp.toL tt = dueL now y := by unfold along; rw [hInv.due now, hy]
  rw [e] at this
  exact this
set_option maxHeartbeats 1000000 in
/-- Of no index there is nothing. -/
theorem each_nil {w : World} {Bx Bm : Nat} (hx : w.cell? ⟨Bx, 0, none⟩ = some (.pointer none)) (h1 : Bx < w.heap.size) : Each w [] #[.pointer (some ⟨Bx, 0, none⟩), .pointer (some ⟨Bm, 0, none⟩)] := by
  refine ⟨fun n l J Jx W hW hJ hJx hY h0 => ?_⟩
  have hx' := (hW.cell (p := ⟨Bx, 0, none⟩) h1).trans hx
  have hA : Ext W (W.alloc (.cells #[.func (.yield l) #[] #[]] 112)) := (Below.refl _ _).alloc (Nat.le_refl _) _
  have hJ1 := hJ.alloc (.cells #[.func (.yield l) #[] #[]] 112) h0
  have hsz := hW.size
  have x1 := (hA.cell (p := ⟨Bx, 0, none⟩) (show Bx < W.heap.size by omega)).trans hx'
  have HJ1 := Lib.hid hJ1
  clear hY hJ hJx hW h0 hJ1 hx hx' hA
  refine callsIn_wide.2 ?_
  go_enter Try.func132, Try.ntmps132
  go_wp2_with fail
  refine bodyPost_ret (results_none rfl _ _ _) rfl ?_
  exact ⟨⟨_, rfl⟩, .inl ⟨[], rfl, HJ1.out⟩⟩

theorem All_mk (p : Option Addr) (w : World) : Calls Try.prog 47 #[.pointer p] w fun e w' => ∃ Bx Bm, e = .returned (.func (.func 132) #[] #[.pointer (some ⟨Bx, 0, none⟩), .pointer (some ⟨Bm, 0, none⟩)]) ∧
    w'.cell? ⟨Bx, 0, none⟩ = some (.pointer p) ∧ w'.cell? ⟨Bm, 0, none⟩ = some (.func (.func 98) #[] #[]) ∧ Bx < w'.heap.size ∧ Bm < w'.heap.size ∧ Ext w w' := by
  go_enter Try.func47, Try.ntmps47
  go_wp2_with fail
  refine (along_mk p _ _ _).mono ?_
  rintro e w' ⟨rfl, rfl⟩
  go_wp2_with fail
  go_ret
  have hA : Ext w (w.alloc (.cells #[.pointer p] 69)) := (Below.refl _ _).alloc (Nat.le_refl _) _
  have hB := Blk.new (w.alloc (.cells #[.pointer p] 69)) #[.func (.func 98) #[] #[]] 147
  have hA2 : Ext (w.alloc (.cells #[.pointer p] 69)) ((w.alloc (.cells #[.pointer p] 69)).alloc (.cells #[.func (.func 98) #[] #[]] 147)) := (Below.refl _ _).alloc (Nat.le_refl _) _
  exact ⟨_, _, rfl, ((Blk.new w #[.pointer p] 69).ext hA2).cell (i := 0) rfl, by simp, by simp; omega, by simp, hA.trans hA2⟩
theorem Due_mk (p : Option Addr) (now : Int) (w : World) : Calls Try.prog 48 #[.pointer p, .int .i64 now] w fun e w' => ∃ Bx Bm N1, e = .returned (.func (.func 132) #[] #[.pointer (some ⟨Bx, 0, none⟩), .pointer (some ⟨Bm, 0, none⟩)]) ∧
    w'.cell? ⟨Bx, 0, none⟩ = some (.pointer p) ∧ w'.cell? ⟨Bm, 0, none⟩ = some (.func (.func 99) #[] #[.pointer (some ⟨N1, 0, none⟩)]) ∧ w'.cell? ⟨N1, 0, none⟩ = some (.int .i64 now) ∧ Bx < w'.heap.size ∧ Bm < w'.heap.size ∧ N1 < w'.heap.size ∧ w.heap.size ≤ N1 ∧ Ext w w' := by
  go_enter Try.func48, Try.ntmps48
  go_wp2_with fail
  have hb1 := Blk.new w #[.int .i64 now] 3
  have hE1 : Ext w (w.alloc (.cells #[.int .i64 now] 3)) := (Below.refl _ _).alloc (Nat.le_refl _) _
  obtain ⟨w1, hw1⟩ : ∃ w1, w.alloc (.cells #[.int .i64 now] 3) = w1 := ⟨_, rfl⟩
  rw [hw1] at hb1 hE1 ⊢
  refine (along_mk p _ _ _).mono ?_
  rintro e w' ⟨rfl, rfl⟩
  clear hw1
  go_wp2_with fail
  go_ret
  have hA : Ext w1 (w1.alloc (.cells #[.pointer p] 69)) := (Below.refl _ _).alloc (Nat.le_refl _) _
  have hB := Blk.new (w1.alloc (.cells #[.pointer p] 69)) #[.func (.func 99) #[] #[.pointer (some ⟨w.heap.size, 0, none⟩)]] 147
  have hA2 : Ext (w1.alloc (.cells #[.pointer p] 69)) ((w1.alloc (.cells #[.pointer p] 69)).alloc (.cells #[.func (.func 99) #[] #[.pointer (some ⟨w.heap.size, 0, none⟩)]] 147)) := (Below.refl _ _).alloc (Nat.le_refl _) _
  have hlt := hb1.lt
  exact ⟨_, _, _, rfl, ((Blk.new w1 #[.pointer p] 69).ext hA2).cell (i := 0) rfl, by simp, (hb1.ext (hA.trans hA2)).cell (i := 0) rfl, by simp; omega, by simp, by simp; omega, Nat.le_refl _, (hE1.trans hA).trans hA2⟩
end Go.Proofs.Ytnjohjicmhobdaa.Exi
