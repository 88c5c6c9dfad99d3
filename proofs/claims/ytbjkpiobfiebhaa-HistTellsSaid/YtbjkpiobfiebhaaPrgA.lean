/-
  Package prog: the places of a call's own numbers, as an iterator.
  No condition.
-/
import Derived.Test.YtbjkpiobfiebhaaProg
import Derived.WalkKit
import Derived.BigRegion
import Derived.BigQuiet
import Derived.RangeFuncNested
import Derived.RangeFuncBound
import Derived.RangeFuncCalls
import Derived.RangeFuncLeaves
import Derived.Shelf.Abstract
import Derived.Shelf.RegionOpen
import Derived.OwnWalkIn
import Derived.TacticsInMore
import Derived.LoopNIn
import Derived.LoopIn
import Derived.Test.YtbjkpiobfiebhaaSegK
import Derived.Test.YtbjkpiobfiebhaaSeqN
import Derived.Test.YtbjkpiobfiebhaaSegR
import Derived.Test.YtbjkpiobfiebhaaStruct
import Derived.Test.YtbjkpiobfiebhaaRowK
import Derived.Lib.Hide
namespace Go.Proofs.Ytbjkpiobfiebhaa.Prg
open Go.RowKit Go.Shelf Go.Seg Go.Open Go.Lib
attribute [local go_sem] Oper.semAt_some

/-- Blocks of a type lie as they lay. -/
def KeepsTy (E : TypeId) (W W' : World) : Prop := ∀ (k : Nat) (cs : Array Value) f, W.heap[k]? = some (.cells cs E f) → W'.heap[k]? = some (.cells cs E f)
theorem KeepsTy.trans {E : TypeId} {A B C : World} (h : KeepsTy E A B) (k : KeepsTy E B C) : KeepsTy E A C := fun i cs f hi => k i cs f (h i cs f hi)
theorem KeepsTy.b {E : TypeId} {w : World} : ∀ (W : World) (l : Nat) (o o' : Obj), w.heap.size ≤ l → W.heap[l]? = some o → o.isCells = false → o.isWalk = false → KeepsTy E W (W.putObj l o') := fun W l o o' _ ho hc _ k cs f hk => by
  rw [World.putObj_heap_other (fun e => by subst e; rw [ho] at hk; cases hk; cases hc)]
  exact hk
theorem keepsTy_grown {E : TypeId} {W W' : World} {row : Option Nat} (hg : W.grownBy W' row) (hr : ∀ j, row = some j → ∀ cs f, W.heap[j]? ≠ some (.cells cs E f)) : KeepsTy E W W' := fun k cs f hk => by
  rw [hg.block k (Array.getElem?_eq_some_iff.1 hk).1 (fun e => hr k e.symm cs f hk)]
  exact hk
theorem keepsTy_alloc (E : TypeId) (W : World) (o : Obj) : KeepsTy E W (W.alloc o) := keepsTy_grown (World.grownBy_alloc W o none) (fun j h => by cases h)
theorem keepsTy_set {E t : TypeId} {W : World} {B : Nat} {cs : Array Value} (h : Blk W B cs t) (ht : t ≠ E) (i : Nat) (u : Value) : KeepsTy E W (W.setCell ⟨B, i, none⟩ u) := fun k cs' f hk => by
  rw [Below.heap_setCell _ _ _ _ (fun e => by
    have e' : k = B := e
    subst e'
    have := (show W.heap[k]? = _ from h).symm.trans hk
    simp at this
    exact ht this.2.1)]
  exact hk
theorem keepsTy_drew (E : TypeId) (W : World) : KeepsTy E W W.drew := fun _ _ _ h => h

/-- The places of a call's own numbers. -/
def ownL (k : Int) : List Nat := if k = 1 ∨ k = 3 then [1] else if k = 2 then [1, 2, 3, 4] else if k = 7 then [3] else []

theorem known_any (kind : Int) (w : World) : Calls Try.prog 47 #[.int .i64 kind] w fun e w' => e = .returned (.bool (decide (0 ≤ kind ∧ kind ≤ 7))) ∧ w = w' := by
  by_cases h0 : 0 ≤ kind
  · by_cases h1 : kind ≤ 7
    · have e : decide (0 ≤ kind ∧ kind ≤ 7) = true := decide_eq_true ⟨h0, h1⟩
      rw [e]
      clear e
      have d0 : decide (0 ≤ kind) = true := decide_eq_true h0
      have d1 : decide (kind ≤ 7) = true := decide_eq_true h1
      go_enter Try.func47, Try.ntmps47
      go_wp2_with fail
      go_ret
      exact ⟨rfl, rfl⟩
    · have e : decide (0 ≤ kind ∧ kind ≤ 7) = false := decide_eq_false (fun h => h1 h.2)
      rw [e]
      clear e
      have d0 : decide (0 ≤ kind) = true := decide_eq_true h0
      have d1 : decide (kind ≤ 7) = false := decide_eq_false h1
      go_enter Try.func47, Try.ntmps47
      go_wp2_with fail
      go_ret
      exact ⟨rfl, rfl⟩
  · have e : decide (0 ≤ kind ∧ kind ≤ 7) = false := decide_eq_false (fun h => h0 h.1)
    rw [e]
    clear e
    have d0 : decide (0 ≤ kind) = false := decide_eq_false h0
    go_enter Try.func47, Try.ntmps47
    go_wp2_with fail
    go_ret
    exact ⟨rfl, rfl⟩
theorem known_yes {kind : Int} (h : 0 ≤ kind ∧ kind ≤ 7) (w : World) : Calls Try.prog 47 #[.int .i64 kind] w fun e w' => e = .returned (.bool true) ∧ w = w' := by
  refine (known_any _ _).mono ?_
  rw [decide_eq_true h]
  exact fun e w' h => h
theorem known_no {kind : Int} (h : ¬ (0 ≤ kind ∧ kind ≤ 7)) (w : World) : Calls Try.prog 47 #[.int .i64 kind] w fun e w' => e = .returned (.bool false) ∧ w = w' := by
  refine (known_any _ _).mono ?_
  rw [decide_eq_false h]
  exact fun e w' h => h
theorem own_mk (p : Option Addr) (w : World) : Calls Try.prog 56 #[.pointer p] w fun e w' =>
    e = .returned (.func (.func 67) #[] #[.pointer (some ⟨w.heap.size, 0, none⟩)]) ∧ w' = w.alloc (.cells #[.pointer p] 66) := by
  go_enter Try.func56, Try.ntmps56
  go_wp2_with fail
  go_ret
  exact ⟨rfl, rfl⟩
/-- A row of places, read at one of them. -/
theorem step_at {wr : World} {N b : Nat} {L : List Nat} {E : TypeId} (hb : Blk wr N ((L.map fun j => Value.pointer (some ⟨b, j, none⟩)).toArray) E) {q : Nat} (h : q < L.length) :
    ∃ j, wr.cell? ⟨N, q, none⟩ = some (.pointer (some ⟨b, j, none⟩)) ∧ L.take q ++ [j] <+: L ∧ L.take (q + 1) = L.take q ++ [j] := by
  refine ⟨L[q], ?_, ?_, ?_⟩
  · rw [hb.cells q]; simp [h]
  · rw [← List.take_succ_eq_append_getElem h]; exact List.take_prefix _ _
  · exact List.take_succ_eq_append_getElem h
set_option maxRecDepth 100000 in
set_option maxHeartbeats 4000000 in
theorem own_N (n Bx b : Nat) (k : Int) (w : World) (hx : w.cell? ⟨Bx, 0, none⟩ = some (.pointer (some ⟨b, 0, none⟩))) (hk : w.cell? ⟨b, 0, none⟩ = some (.int .i64 k)) (h1 : Bx < w.heap.size) (h2 : b < w.heap.size) :
    SeqN Fence.wide n Try.prog 67 #[.pointer (some ⟨Bx, 0, none⟩)] (fun j : Nat => #[Value.pointer (some ⟨b, j, none⟩)]) (KeepsTy 67) (fun ys => ys = ownL k) (fun pre => pre <+: ownL k) w := by
  intro l J Jx W hW hJ hJx hY h0
  have hx' := (hW.cell (p := ⟨Bx, 0, none⟩) h1).trans hx
  have hk' := (hW.cell (p := ⟨b, 0, none⟩) h2).trans hk
  have hBx : Bx < W.heap.size := by have := hW.size; omega
  have HJ0 := Lib.hid h0
  have HJ := Lib.hid hJ
  clear hx hk h1 h2 hW hJx h0 hJ
  by_cases h1 : k = 1
  · subst h1
    have hk0 : ownL 1 = [1] := rfl
    rw [hk0] at hY ⊢
    clear hk0
    refine callsIn_of_wp Try.func67 rfl trivial ?_ rfl
    simp only [Try.ntmps67, List.size_toArray, List.length_cons, List.length_nil, Nat.reduceAdd, Nat.reduceSub, Array.replicate_succ, Array.replicate_zero, List.push_toArray, List.append_toArray, List.nil_append, List.cons_append]
    have HJ1 : Hid (J [] (W.alloc (.cells #[.pointer (some ⟨b, 1, none⟩)] 67))) := Lib.hid (HJ.out.alloc _ HJ0.out)
    gi_wp2
    gi_loopw [40] (fun i wr => ∃ q : Nat, q ≤ 1 ∧ i = .int .i64 q ∧ J (List.take q [1]) wr ∧ Blk wr W.heap.size ((List.map (fun j => Value.pointer (some ⟨b, j, none⟩)) [1]).toArray) 67) (fun i _ => 1 - (intOf i).toNat)
    case atStart => exact ⟨0, Nat.zero_le _, rfl, HJ1.out, Blk.new _ _ _⟩
    case round =>
      obtain ⟨q, hq, rfl, hJs, hb⟩ := hrel
      by_cases hlt : q < 1
      · obtain ⟨j, hc, hp, ht⟩ := step_at hb hlt
        have d : decide ((q : Int) < 1) = true := decide_eq_true (by omega)
        have p0 : (0 : Int) ≤ (q : Int) := by omega
        have p1 : (q : Int) < 1 := by omega
        obtain ⟨fn, tmps, assign, body, hy, hR⟩ := hY _ j wr hJs hp
        have HB := Lib.hid hb
        have HT := Lib.hid ht
        clear hb ht
        gi_wp2
        refine ⟨fun h => (by simp [Fence.wide] at h), hR.mono ?_⟩
        rintro e W3 ⟨hkf, (⟨rfl, hJ3, hk3⟩ | ⟨rfl, hJx3⟩)⟩
        · rw [← HT.out] at hJ3
          have HJ3 := Lib.hid hJ3
          have HB3 := Lib.hid (show Blk W3 _ _ _ from hk3 _ _ _ HB.out)
          clear hJ3 hk3 hkf hy hR
          gi_wp2
          go_roundw
          case rel => exact ⟨q + 1, by omega, by go_num, HJ3.out, HB3.out⟩
          case measure => simp [intOf]; omega
        · have HJ3 := Lib.hid hJx3
          clear hJx3 hkf hy hR
          gi_wp2
          refine bodyPost_ret (results_none rfl _ _ _) rfl ?_
          exact ⟨⟨_, rfl⟩, .inr ⟨_, hp, HJ3.out⟩⟩
      · obtain rfl : q = 1 := by omega
        have HJ3 := Lib.hid hJs
        clear hJs hb
        gi_wp2
        go_end0
        exact ⟨⟨_, rfl⟩, .inl ⟨_, rfl, HJ3.out⟩⟩
  by_cases h3 : k = 3
  · subst h3
    have hk0 : ownL 3 = [1] := rfl
    rw [hk0] at hY ⊢
    clear hk0
    refine callsIn_of_wp Try.func67 rfl trivial ?_ rfl
    simp only [Try.ntmps67, List.size_toArray, List.length_cons, List.length_nil, Nat.reduceAdd, Nat.reduceSub, Array.replicate_succ, Array.replicate_zero, List.push_toArray, List.append_toArray, List.nil_append, List.cons_append]
    have HJ1 : Hid (J [] (W.alloc (.cells #[.pointer (some ⟨b, 1, none⟩)] 67))) := Lib.hid (HJ.out.alloc _ HJ0.out)
    gi_wp2
    gi_loopw [40] (fun i wr => ∃ q : Nat, q ≤ 1 ∧ i = .int .i64 q ∧ J (List.take q [1]) wr ∧ Blk wr W.heap.size ((List.map (fun j => Value.pointer (some ⟨b, j, none⟩)) [1]).toArray) 67) (fun i _ => 1 - (intOf i).toNat)
    case atStart => exact ⟨0, Nat.zero_le _, rfl, HJ1.out, Blk.new _ _ _⟩
    case round =>
      obtain ⟨q, hq, rfl, hJs, hb⟩ := hrel
      by_cases hlt : q < 1
      · obtain ⟨j, hc, hp, ht⟩ := step_at hb hlt
        have d : decide ((q : Int) < 1) = true := decide_eq_true (by omega)
        have p0 : (0 : Int) ≤ (q : Int) := by omega
        have p1 : (q : Int) < 1 := by omega
        obtain ⟨fn, tmps, assign, body, hy, hR⟩ := hY _ j wr hJs hp
        have HB := Lib.hid hb
        have HT := Lib.hid ht
        clear hb ht
        gi_wp2
        refine ⟨fun h => (by simp [Fence.wide] at h), hR.mono ?_⟩
        rintro e W3 ⟨hkf, (⟨rfl, hJ3, hk3⟩ | ⟨rfl, hJx3⟩)⟩
        · rw [← HT.out] at hJ3
          have HJ3 := Lib.hid hJ3
          have HB3 := Lib.hid (show Blk W3 _ _ _ from hk3 _ _ _ HB.out)
          clear hJ3 hk3 hkf hy hR
          gi_wp2
          go_roundw
          case rel => exact ⟨q + 1, by omega, by go_num, HJ3.out, HB3.out⟩
          case measure => simp [intOf]; omega
        · have HJ3 := Lib.hid hJx3
          clear hJx3 hkf hy hR
          gi_wp2
          refine bodyPost_ret (results_none rfl _ _ _) rfl ?_
          exact ⟨⟨_, rfl⟩, .inr ⟨_, hp, HJ3.out⟩⟩
      · obtain rfl : q = 1 := by omega
        have HJ3 := Lib.hid hJs
        clear hJs hb
        gi_wp2
        go_end0
        exact ⟨⟨_, rfl⟩, .inl ⟨_, rfl, HJ3.out⟩⟩
  by_cases h2 : k = 2
  · subst h2
    have hk0 : ownL 2 = [1, 2, 3, 4] := rfl
    rw [hk0] at hY ⊢
    clear hk0
    refine callsIn_of_wp Try.func67 rfl trivial ?_ rfl
    simp only [Try.ntmps67, List.size_toArray, List.length_cons, List.length_nil, Nat.reduceAdd, Nat.reduceSub, Array.replicate_succ, Array.replicate_zero, List.push_toArray, List.append_toArray, List.nil_append, List.cons_append]
    have HJ1 : Hid (J [] (W.alloc (.cells #[.pointer (some ⟨b, 1, none⟩), .pointer (some ⟨b, 2, none⟩), .pointer (some ⟨b, 3, none⟩), .pointer (some ⟨b, 4, none⟩)] 67))) := Lib.hid (HJ.out.alloc _ HJ0.out)
    have HJ2 : Hid (J [] (W.alloc (.cells #[.pointer (some ⟨b, 1, none⟩), .pointer (some ⟨b, 2, none⟩), .pointer (some ⟨b, 3, none⟩), .pointer (some ⟨b, 4, none⟩)] 67)).drew) := Lib.hid (HJ.out _ _ _ none HJ1.out ⟨rfl, rfl, rfl, Nat.le_refl _, fun _ _ _ => rfl⟩ (fun r e => by cases e))
    gi_wp2
    refine wpIn_region_segs (n₀ := W.heap.size) 14 [([12, 2], false), ([1], false)] (by kernel_rfl) (by kernel_rfl) ?_
    apply segsI_cons
    · intro W2 hW2
      have x0 := (hW2.cell (p := ⟨Bx, 0, none⟩) hBx).trans hx'
      simp only [runsT, runsF, rep, pick]
      go_wp2_with fail
      exact ⟨rfl, rfl⟩
    simp only [runsT, runsF, rep, left]
    gi_wp2
    refine ⟨fun _ => ⟨rfl, rfl, rfl, (by simp), fun k hk => Below.heap_alloc W _ k hk⟩, ?_⟩
    apply segsI_cons
    · intro W2 hW2
      simp only [runsT, runsF, rep, pick]
      go_wp2_with fail
      exact ⟨rfl, rfl⟩
    simp only [runsT, runsF, rep, left]
    gi_wp2
    gi_loopw [40] (fun i wr => ∃ q : Nat, q ≤ 4 ∧ i = .int .i64 q ∧ J (List.take q [1, 2, 3, 4]) wr ∧ Blk wr W.heap.size ((List.map (fun j => Value.pointer (some ⟨b, j, none⟩)) [1, 2, 3, 4]).toArray) 67) (fun i _ => 4 - (intOf i).toNat)
    case atStart => exact ⟨0, Nat.zero_le _, rfl, HJ2.out, Blk.new _ _ _⟩
    case round =>
      obtain ⟨q, hq, rfl, hJs, hb⟩ := hrel
      by_cases hlt : q < 4
      · obtain ⟨j, hc, hp, ht⟩ := step_at hb hlt
        have d : decide ((q : Int) < 4) = true := decide_eq_true (by omega)
        have p0 : (0 : Int) ≤ (q : Int) := by omega
        have p1 : (q : Int) < 4 := by omega
        obtain ⟨fn, tmps, assign, body, hy, hR⟩ := hY _ j wr hJs hp
        have HB := Lib.hid hb
        have HT := Lib.hid ht
        clear hb ht
        gi_wp2
        refine ⟨fun h => (by simp [Fence.wide] at h), hR.mono ?_⟩
        rintro e W3 ⟨hkf, (⟨rfl, hJ3, hk3⟩ | ⟨rfl, hJx3⟩)⟩
        · rw [← HT.out] at hJ3
          have HJ3 := Lib.hid hJ3
          have HB3 := Lib.hid (show Blk W3 _ _ _ from hk3 _ _ _ HB.out)
          clear hJ3 hk3 hkf hy hR
          gi_wp2
          go_roundw
          case rel => exact ⟨q + 1, by omega, by go_num, HJ3.out, HB3.out⟩
          case measure => simp [intOf]; omega
        · have HJ3 := Lib.hid hJx3
          clear hJx3 hkf hy hR
          gi_wp2
          refine bodyPost_ret (results_none rfl _ _ _) rfl ?_
          exact ⟨⟨_, rfl⟩, .inr ⟨_, hp, HJ3.out⟩⟩
      · obtain rfl : q = 4 := by omega
        have HJ3 := Lib.hid hJs
        clear hJs hb
        gi_wp2
        go_end0
        exact ⟨⟨_, rfl⟩, .inl ⟨_, rfl, HJ3.out⟩⟩
  by_cases h7 : k = 7
  · subst h7
    have hk0 : ownL 7 = [3] := rfl
    rw [hk0] at hY ⊢
    clear hk0
    refine callsIn_of_wp Try.func67 rfl trivial ?_ rfl
    simp only [Try.ntmps67, List.size_toArray, List.length_cons, List.length_nil, Nat.reduceAdd, Nat.reduceSub, Array.replicate_succ, Array.replicate_zero, List.push_toArray, List.append_toArray, List.nil_append, List.cons_append]
    have HJ1 : Hid (J [] (W.alloc (.cells #[.pointer (some ⟨b, 3, none⟩)] 67))) := Lib.hid (HJ.out.alloc _ HJ0.out)
    gi_wp2
    gi_loopw [40] (fun i wr => ∃ q : Nat, q ≤ 1 ∧ i = .int .i64 q ∧ J (List.take q [3]) wr ∧ Blk wr W.heap.size ((List.map (fun j => Value.pointer (some ⟨b, j, none⟩)) [3]).toArray) 67) (fun i _ => 1 - (intOf i).toNat)
    case atStart => exact ⟨0, Nat.zero_le _, rfl, HJ1.out, Blk.new _ _ _⟩
    case round =>
      obtain ⟨q, hq, rfl, hJs, hb⟩ := hrel
      by_cases hlt : q < 1
      · obtain ⟨j, hc, hp, ht⟩ := step_at hb hlt
        have d : decide ((q : Int) < 1) = true := decide_eq_true (by omega)
        have p0 : (0 : Int) ≤ (q : Int) := by omega
        have p1 : (q : Int) < 1 := by omega
        obtain ⟨fn, tmps, assign, body, hy, hR⟩ := hY _ j wr hJs hp
        have HB := Lib.hid hb
        have HT := Lib.hid ht
        clear hb ht
        gi_wp2
        refine ⟨fun h => (by simp [Fence.wide] at h), hR.mono ?_⟩
        rintro e W3 ⟨hkf, (⟨rfl, hJ3, hk3⟩ | ⟨rfl, hJx3⟩)⟩
        · rw [← HT.out] at hJ3
          have HJ3 := Lib.hid hJ3
          have HB3 := Lib.hid (show Blk W3 _ _ _ from hk3 _ _ _ HB.out)
          clear hJ3 hk3 hkf hy hR
          gi_wp2
          go_roundw
          case rel => exact ⟨q + 1, by omega, by go_num, HJ3.out, HB3.out⟩
          case measure => simp [intOf]; omega
        · have HJ3 := Lib.hid hJx3
          clear hJx3 hkf hy hR
          gi_wp2
          refine bodyPost_ret (results_none rfl _ _ _) rfl ?_
          exact ⟨⟨_, rfl⟩, .inr ⟨_, hp, HJ3.out⟩⟩
      · obtain rfl : q = 1 := by omega
        have HJ3 := Lib.hid hJs
        clear hJs hb
        gi_wp2
        go_end0
        exact ⟨⟨_, rfl⟩, .inl ⟨_, rfl, HJ3.out⟩⟩
  have hk0 : ownL k = [] := by unfold ownL; rw [if_neg (by omega), if_neg h2, if_neg h7]
  rw [hk0] at hY ⊢
  have d1 : (k == 1) = false := by simpa using h1
  have d3 : (k == 3) = false := by simpa using h3
  have d2 : (k == 2) = false := by simpa using h2
  have d7 : (k == 7) = false := by simpa using h7
  clear hk0 h1 h3 h2 h7
  refine callsIn_of_wp Try.func67 rfl trivial ?_ rfl
  simp only [Try.ntmps67, List.size_toArray, List.length_cons, List.length_nil, Nat.reduceAdd, Nat.reduceSub, Array.replicate_succ, Array.replicate_zero, List.push_toArray, List.append_toArray, List.nil_append, List.cons_append]
  gi_wp2
  gi_loopw [40] (fun i wr => i = .int .i64 0 ∧ wr = W) (fun _ _ => 0)
  case atStart => exact ⟨rfl, rfl⟩
  case round =>
    obtain ⟨rfl, rfl⟩ := hrel
    gi_wp2
    go_end0
    exact ⟨⟨_, rfl⟩, .inl ⟨[], rfl, HJ0.out⟩⟩
end Go.Proofs.Ytbjkpiobfiebhaa.Prg
