/-
  The document's answer for layer 22: Look, Way: rows of entries, and of what is on its way.
  Fewer than 1,000,000 of each; no other condition.
-/
import Derived.Test.YtnpfikabcmngpaaRowG
import Derived.Test.YtnpfikabcmngpaaShI2
import Derived.Test.YtnpfikabcmngpaaSegK
import Derived.Test.YtnpfikabcmngpaaSegE
namespace Go.Proofs.Ytnpfikabcmngpaa.ShR
open Go.RowKit Go.Seg Go.Open Go.Lib Rk Go.Row

abbrev En := Int × Int × Int × Int × Int × Int
def encS (x : Int × En) : List Value := [.int .u64 x.1, .int .u64 x.2.1, .int .i64 x.2.2.1, .int .i64 x.2.2.2.1, .int .i64 x.2.2.2.2.1, .int .i64 x.2.2.2.2.2.1, .int .i64 x.2.2.2.2.2.2]
def encW (x : Int × Int × Int) : List Value := [.int .u64 x.1, .int .i64 x.2.1, .int .i64 x.2.2]
def RSE : Row.Ty Try.prog := ⟨27, 35, .agg #[.int .u64 0, .int .u64 0, .int .i64 0, .int .i64 0, .int .i64 0, .int .i64 0, .int .i64 0], 7, 56, Try.underlying27, by kernel_rfl, rfl, by decide, by decide⟩
def RSW : Row.Ty Try.prog := ⟨28, 52, .agg #[.int .u64 0, .int .i64 0, .int .i64 0], 3, 24, Try.underlying28, by kernel_rfl, rfl, by decide, by decide⟩
abbrev RowL (w : World) (B : Nat) (u : Value) (L : List (Int × En)) : Prop := RowG RSE encS w B u L
abbrev RowW (w : World) (B : Nat) (u : Value) (L : List (Int × Int × Int)) : Prop := RowG RSW encW w B u L
theorem encS_len (x : Int × En) : (encS x).length = RSE.size := rfl
theorem encW_len (x : Int × Int × Int) : (encW x).length = RSW.size := rfl
theorem encS_one (x : Int × En) : ∀ u ∈ encS x, u.oneCell' = true := by intro u hu; simp [encS] at hu; rcases hu with rfl | rfl | rfl | rfl | rfl | rfl | rfl <;> rfl
theorem encW_one (x : Int × Int × Int) : ∀ u ∈ encW x, u.oneCell' = true := by intro u hu; simp [encW] at hu; rcases hu with rfl | rfl | rfl <;> rfl

/-- What is there of a hash. -/
def assoc {β : Type} (L : List (Int × β)) (h : Int) : Option β := (L.find? fun x => decide (x.1 = h)).map (·.2)
theorem assoc_none {β : Type} {L : List (Int × β)} {h : Int} (hn : ∀ x ∈ L, x.1 ≠ h) : assoc L h = none := by
  unfold assoc
  rw [List.find?_eq_none.2 (fun x hx => by simpa using hn x hx)]
  rfl
theorem assoc_hit {β : Type} {L : List (Int × β)} {h : Int} {n : Nat} (hn : n < L.length) (hno : ∀ j (hj : j < L.length), j < n → L[j].1 ≠ h) (hk : L[n].1 = h) : assoc L h = some L[n].2 := by
  have e : L.find? (fun x => decide (x.1 = h)) = some L[n] := by
    rw [List.find?_eq_some_iff_getElem]
    exact ⟨by simpa using hk, n, hn, rfl, fun j hj => by simpa using hno j (by omega) hj⟩
  unfold assoc
  rw [e]
  rfl
def zS : Value := .agg #[.int .u64 0, .int .u64 0, .int .i64 0, .int .i64 0, .int .i64 0, .int .i64 0, .int .i64 0]
def valS (x : Int × En) : Value := .agg #[.int .u64 x.1, .int .u64 x.2.1, .int .i64 x.2.2.1, .int .i64 x.2.2.2.1, .int .i64 x.2.2.2.2.1, .int .i64 x.2.2.2.2.2.1, .int .i64 x.2.2.2.2.2.2]
def foundV (h : Int) : Option En → Value
  | none => .tuple #[zS, .bool false]
  | some v => .tuple #[valS (h, v), .bool true]
theorem blk_at {w : World} {cs : Array Value} {E k : Nat} (h : k = w.heap.size) : Blk (w.alloc (.cells cs E)) k cs E := h ▸ Blk.new w cs E

set_option maxHeartbeats 4000000 in
theorem _root_.Go.Open.Blk.set7 {w : World} {b : Nat} {cs : Array Value} {E : TypeId} (h : Blk w b cs E) (hn : cs.size = 7) (a0 a1 a2 a3 a4 a5 a6 : Value) :
    Blk (((((((w.setCell ⟨b, 0, none⟩ a0).setCell ⟨b, 1, none⟩ a1).setCell ⟨b, 2, none⟩ a2).setCell ⟨b, 3, none⟩ a3).setCell ⟨b, 4, none⟩ a4).setCell ⟨b, 5, none⟩ a5).setCell ⟨b, 6, none⟩ a6) b #[a0, a1, a2, a3, a4, a5, a6] E := by
  obtain ⟨l⟩ := cs
  match l, hn with
  | [x0, x1, x2, x3, x4, x5, x6], _ =>
    exact ((((((h.set 0 a0 rfl).set 1 a1 rfl).set 2 a2 rfl).set 3 a3 rfl).set 4 a4 rfl).set 5 a5 rfl).set 6 a6 rfl
theorem _root_.Go.Open.Blk.set3 {w : World} {b : Nat} {cs : Array Value} {E : TypeId} (h : Blk w b cs E) (hn : cs.size = 3) (a0 a1 a2 : Value) :
    Blk (((w.setCell ⟨b, 0, none⟩ a0).setCell ⟨b, 1, none⟩ a1).setCell ⟨b, 2, none⟩ a2) b #[a0, a1, a2] E := by
  obtain ⟨l⟩ := cs
  match l, hn with
  | [x0, x1, x2], _ => exact ((h.set 0 a0 rfl).set 1 a1 rfl).set 2 a2 rfl
theorem Ext.set3 {w0 w : World} {b : Nat} (h : Ext w0 w) (hb : w0.heap.size ≤ b) (a0 a1 a2 : Value) : Ext w0 (((w.setCell ⟨b, 0, none⟩ a0).setCell ⟨b, 1, none⟩ a1).setCell ⟨b, 2, none⟩ a2) :=
  Below.setCell (p := ⟨b, 2, none⟩) (Below.setCell (p := ⟨b, 1, none⟩) (Below.setCell (p := ⟨b, 0, none⟩) h hb a0) hb a1) hb a2
theorem _root_.Go.Open.Blk.set2 {w : World} {b : Nat} {cs : Array Value} {E : TypeId} (h : Blk w b cs E) (hn : cs.size = 2) (a0 a1 : Value) :
    Blk ((w.setCell ⟨b, 0, none⟩ a0).setCell ⟨b, 1, none⟩ a1) b #[a0, a1] E := by
  obtain ⟨l⟩ := cs
  match l, hn with
  | [x0, x1], _ => exact (h.set 0 a0 rfl).set 1 a1 rfl
theorem Ext.set2 {w0 w : World} {b : Nat} (h : Ext w0 w) (hb : w0.heap.size ≤ b) (a0 a1 : Value) : Ext w0 ((w.setCell ⟨b, 0, none⟩ a0).setCell ⟨b, 1, none⟩ a1) :=
  Below.setCell (p := ⟨b, 1, none⟩) (Below.setCell (p := ⟨b, 0, none⟩) h hb a0) hb a1
/-- The result of a function: a struct out of its block. -/
theorem results_one {P : Program} {fn : Func} {p : Tmp} {ty : TypeId} (h : fn.results = #[.cell p ty]) {tmps : Array Value} {k : Nat} {c : Array Value} {W : World}
    (hp : tmps.getD p undef = .pointer (some ⟨k, 0, none⟩)) (hB : Blk W k c ty)
    (hd : (match P.underlying ty with | some (.struct _) | some (.array _ _) => true | _ => false) = true) (hi : (P.info? ty).map (·.size) = some c.size) :
    (results fn tmps).run P W = .ok (.agg c) W := by
  rw [ShI.results_cell h, hp]
  simp only [asAddr, Sem.run_pure, Result.andThen]
  cases hu : P.underlying ty with
  | none => simp [hu] at hd
  | some d => rw [run_loadVar_row W k ty ty c (0, 0) d hB hu (by rw [hu] at hd; cases d <;> first | rfl | exact hd) hi]
theorem Ext.set7 {w0 w : World} {b : Nat} (h : Ext w0 w) (hb : w0.heap.size ≤ b) (a0 a1 a2 a3 a4 a5 a6 : Value) :
    Ext w0 (((((((w.setCell ⟨b, 0, none⟩ a0).setCell ⟨b, 1, none⟩ a1).setCell ⟨b, 2, none⟩ a2).setCell ⟨b, 3, none⟩ a3).setCell ⟨b, 4, none⟩ a4).setCell ⟨b, 5, none⟩ a5).setCell ⟨b, 6, none⟩ a6) :=
  Below.setCell (p := ⟨b, 6, none⟩) (Ext.set6 h hb a0 a1 a2 a3 a4 a5) hb a6

set_option maxRecDepth 100000 in
set_option maxHeartbeats 2000000 in
theorem rLook (uL uW : Value) (B : Nat) (L : List (Int × En)) (Wy : List (Int × Int × Int)) (h : Int) (w : World) (hL : RowL w B uL L) (hW : RowW w B uW Wy) (hl : L.length ≤ 1000000) :
    Calls Try.prog 11 #[.agg #[uL, uW], .int .u64 h] w fun e w' => e = .returned (foundV h (assoc L h)) ∧ Ext w w' := by
  obtain ⟨a, cap, b, F, rfl, _, ha, hF, hc⟩ := hL.openG encS_len
  obtain ⟨a2, cap2, rfl⟩ := hW.val
  have HA := Lib.hid ha
  have HC := Lib.hid hc
  have HF := Lib.hid hF
  clear ha hc hF hL hW
  go_enter Try.func11, Try.ntmps11
  go_wp2_with fail
  obtain ⟨W0, hW0⟩ : ∃ W, (w.alloc (.cells #[.slice a L.length cap, .slice a2 Wy.length cap2] 30)).alloc (.cells #[.int .u64 0, .int .u64 0, .int .i64 0, .int .i64 0, .int .i64 0, .int .i64 0, .int .i64 0] 35) = W := ⟨_, rfl⟩
  have hE0 : Ext w W0 := by rw [← hW0]; exact ((Below.refl _ _).alloc (Nat.le_refl _) _).alloc (by simp) _
  have hP : Blk W0 w.heap.size #[.slice a L.length cap, .slice a2 Wy.length cap2] 30 := by rw [← hW0]; exact (Blk.new _ _ _).ext ((Below.refl _ _).alloc (Nat.le_refl _) _)
  have hR : Blk W0 (w.heap.size + 1) #[.int .u64 0, .int .u64 0, .int .i64 0, .int .i64 0, .int .i64 0, .int .i64 0, .int .i64 0] 35 := by rw [← hW0]; exact blk_at (by simp)
  rw [hW0]
  have p0 := hP.cell (i := 0) rfl
  have HR := Lib.hid hR
  have HE0 := Lib.hid hE0
  clear hW0 hE0 hP hR
  go_loopg [6] L.length (fun g i wr => ∃ n : Nat, i = .int .i64 n ∧ n ≤ L.length ∧ wr = W0 ∧ Hid (∀ j (hj : j < L.length), j < n → L[j].1 ≠ h) ∧ L.length - n ≤ g)
  case atStart => exact ⟨0, rfl, Nat.zero_le _, rfl, Lib.hid (fun j _ h => absurd h (by omega)), Nat.le_refl _⟩
  case round =>
    obtain ⟨n, rfl, hn, rfl, HN, hg⟩ := hrel
    by_cases hik : n < L.length
    · obtain rfl := HA.out (by omega)
      have x0 : wr.cell? ⟨b, n * 7, none⟩ = some (.int .u64 (F n).1) := HC.out _ HE0.out n hik 0 (by decide)
      by_cases hk : (F n).1 = h
      · have d : ((F n).1 == h) = true := by simp [hk]
        have E : Hid (assoc L h = some (F n).2) := Lib.hid (by rw [HF.out n hik] at hk ⊢; exact assoc_hit hik HN.out hk)
        have HK := Lib.hid hk
        have hcn := HC.out _ HE0.out n hik
        have x0 := hcn 0 (by decide)
        have x1 := hcn 1 (by decide)
        have x2 := hcn 2 (by decide)
        have x3 := hcn 3 (by decide)
        have x4 := hcn 4 (by decide)
        have x5 := hcn 5 (by decide)
        have x6 := hcn 6 (by decide)
        simp [encS, RSE] at x0 x1 x2 x3 x4 x5 x6
        have z0 := HR.out.cell (i := 0) rfl
        have zf0 := HR.out.frozen 0
        have z1 := HR.out.cell (i := 1) rfl
        have zf1 := HR.out.frozen 1
        have z2 := HR.out.cell (i := 2) rfl
        have zf2 := HR.out.frozen 2
        have z3 := HR.out.cell (i := 3) rfl
        have zf3 := HR.out.frozen 3
        have z4 := HR.out.cell (i := 4) rfl
        have zf4 := HR.out.frozen 4
        have z5 := HR.out.cell (i := 5) rfl
        have zf5 := HR.out.frozen 5
        have z6 := HR.out.cell (i := 6) rfl
        have zf6 := HR.out.frozen 6
        clear hcn
        clear hk
        go_wp2_with fail
        (try simp only [Exit.inBlock, Exit.then])
        refine bodyPost_ret (results_struct (ty := 35) rfl rfl rfl (c := #[.int .u64 (F n).1, .int .u64 (F n).2.1, .int .i64 (F n).2.2.1, .int .i64 (F n).2.2.2.1, .int .i64 (F n).2.2.2.2.1, .int .i64 (F n).2.2.2.2.2.1, .int .i64 (F n).2.2.2.2.2.2]) (Blk.set7 HR.out rfl _ _ _ _ _ _ _) (by kernel_rfl) (by kernel_rfl)) rfl ?_
        rw [E.out]
        exact ⟨by rw [← HK.out]; rfl, Ext.set7 HE0.out (by simp) _ _ _ _ _ _ _⟩
      · have d : ((F n).1 == h) = false := by simp [hk]
        have E : Hid (∀ j (hj : j < L.length), j < n + 1 → L[j].1 ≠ h) := Lib.hid (fun j hj hlt => by
          by_cases e : j = n
          · subst e; rw [← HF.out j hj]; exact hk
          · exact HN.out j hj (by omega))
        clear hk
        go_wp2_with fail
        go_roundg (L.length - (n + 1))
        case measure => omega
        case rel => exact ⟨n + 1, by go_num, by omega, rfl, E, Nat.le_refl _⟩
    · obtain rfl : n = L.length := by omega
      have hdn : decide ((L.length : Int) < (L.length : Int)) = false := decide_eq_false (by omega)
      have E : Hid (assoc L h = none) := Lib.hid (assoc_none (fun x hx => by
        obtain ⟨j, hj, rfl⟩ := List.mem_iff_getElem.1 hx
        exact HN.out j hj hj))
      have z0 := HR.out.cell (i := 0) rfl
      have zf0 := HR.out.frozen 0
      have z1 := HR.out.cell (i := 1) rfl
      have zf1 := HR.out.frozen 1
      have z2 := HR.out.cell (i := 2) rfl
      have zf2 := HR.out.frozen 2
      have z3 := HR.out.cell (i := 3) rfl
      have zf3 := HR.out.frozen 3
      have z4 := HR.out.cell (i := 4) rfl
      have zf4 := HR.out.frozen 4
      have z5 := HR.out.cell (i := 5) rfl
      have zf5 := HR.out.frozen 5
      have z6 := HR.out.cell (i := 6) rfl
      have zf6 := HR.out.frozen 6
      clear hik
      go_wp2_with fail
      (try simp only [Exit.inBlock, Exit.then])
      refine bodyPost_ret (results_struct (ty := 35) rfl rfl rfl (c := #[.int .u64 0, .int .u64 0, .int .i64 0, .int .i64 0, .int .i64 0, .int .i64 0, .int .i64 0]) (Blk.set7 HR.out rfl _ _ _ _ _ _ _) (by kernel_rfl) (by kernel_rfl)) rfl ?_
      rw [E.out]
      exact ⟨rfl, Ext.set7 HE0.out (by simp) _ _ _ _ _ _ _⟩

/-- What is on its way of a hash, or none. -/
def wayR (Wy : List (Int × Int × Int)) (h : Int) : Int × Int := (assoc Wy h).getD (0, 0)
set_option maxRecDepth 100000 in
set_option maxHeartbeats 2000000 in
theorem rWay (uL uW : Value) (B : Nat) (L : List (Int × En)) (Wy : List (Int × Int × Int)) (h : Int) (w : World) (hL : RowL w B uL L) (hW : RowW w B uW Wy) (hl : Wy.length ≤ 1000000) :
    Calls Try.prog 17 #[.agg #[uL, uW], .int .u64 h] w fun e w' => e = .returned (.agg #[.int .u64 h, .int .i64 (wayR Wy h).1, .int .i64 (wayR Wy h).2]) ∧ Ext w w' := by
  obtain ⟨a, cap, b, F, rfl, _, ha, hF, hc⟩ := hW.openG encW_len
  obtain ⟨a2, cap2, rfl⟩ := hL.val
  have HA := Lib.hid ha
  have HC := Lib.hid hc
  have HF := Lib.hid hF
  clear ha hc hF hL hW
  go_enter Try.func17, Try.ntmps17
  go_wp2_with fail
  obtain ⟨W0, hW0⟩ : ∃ W, (w.alloc (.cells #[.slice a2 L.length cap2, .slice a Wy.length cap] 30)).alloc (.cells #[.int .u64 0, .int .i64 0, .int .i64 0] 52) = W := ⟨_, rfl⟩
  have hE0 : Ext w W0 := by rw [← hW0]; exact ((Below.refl _ _).alloc (Nat.le_refl _) _).alloc (by simp) _
  have hP : Blk W0 w.heap.size #[.slice a2 L.length cap2, .slice a Wy.length cap] 30 := by rw [← hW0]; exact (Blk.new _ _ _).ext ((Below.refl _ _).alloc (Nat.le_refl _) _)
  have hR : Blk W0 (w.heap.size + 1) #[.int .u64 0, .int .i64 0, .int .i64 0] 52 := by rw [← hW0]; exact blk_at (by simp)
  rw [hW0]
  have p0 := hP.cell (i := 1) rfl
  have HR := Lib.hid hR
  have HE0 := Lib.hid hE0
  clear hW0 hE0 hP hR
  go_loopg [5] Wy.length (fun g i wr => ∃ n : Nat, i = .int .i64 n ∧ n ≤ Wy.length ∧ wr = W0 ∧ Hid (∀ j (hj : j < Wy.length), j < n → Wy[j].1 ≠ h) ∧ Wy.length - n ≤ g)
  case atStart => exact ⟨0, rfl, Nat.zero_le _, rfl, Lib.hid (fun j _ h => absurd h (by omega)), Nat.le_refl _⟩
  case round =>
    obtain ⟨n, rfl, hn, rfl, HN, hg⟩ := hrel
    by_cases hik : n < Wy.length
    · obtain rfl := HA.out (by omega)
      have x0 : wr.cell? ⟨b, n * 3, none⟩ = some (.int .u64 (F n).1) := HC.out _ HE0.out n hik 0 (by decide)
      by_cases hk : (F n).1 = h
      · have d : ((F n).1 == h) = true := by simp [hk]
        have E : Hid (wayR Wy h = (F n).2) := Lib.hid (by unfold wayR; rw [HF.out n hik] at hk ⊢; rw [assoc_hit hik HN.out hk]; rfl)
        have HK := Lib.hid hk
        have hcn := HC.out _ HE0.out n hik
        have x0 := hcn 0 (by decide)
        have x1 := hcn 1 (by decide)
        have x2 := hcn 2 (by decide)
        simp [encW, RSW] at x0 x1 x2
        have z0 := HR.out.cell (i := 0) rfl
        have zf0 := HR.out.frozen 0
        have z1 := HR.out.cell (i := 1) rfl
        have zf1 := HR.out.frozen 1
        have z2 := HR.out.cell (i := 2) rfl
        have zf2 := HR.out.frozen 2
        clear hk hcn
        go_wp2_with fail
        (try simp only [Exit.inBlock, Exit.then])
        refine bodyPost_ret (results_one (ty := 52) rfl rfl (c := #[.int .u64 (F n).1, .int .i64 (F n).2.1, .int .i64 (F n).2.2]) (Blk.set3 HR.out rfl _ _ _) (by kernel_rfl) (by kernel_rfl)) rfl ?_
        rw [E.out, ← HK.out]
        exact ⟨rfl, Ext.set3 HE0.out (by simp) _ _ _⟩
      · have d : ((F n).1 == h) = false := by simp [hk]
        have E : Hid (∀ j (hj : j < Wy.length), j < n + 1 → Wy[j].1 ≠ h) := Lib.hid (fun j hj hlt => by
          by_cases e : j = n
          · subst e; rw [← HF.out j hj]; exact hk
          · exact HN.out j hj (by omega))
        clear hk
        go_wp2_with fail
        go_roundg (Wy.length - (n + 1))
        case measure => omega
        case rel => exact ⟨n + 1, by go_num, by omega, rfl, E, Nat.le_refl _⟩
    · obtain rfl : n = Wy.length := by omega
      have hdn : decide ((Wy.length : Int) < (Wy.length : Int)) = false := decide_eq_false (by omega)
      have E : Hid (wayR Wy h = (0, 0)) := Lib.hid (by
        unfold wayR
        rw [assoc_none (fun x hx => by
          obtain ⟨j, hj, rfl⟩ := List.mem_iff_getElem.1 hx
          exact HN.out j hj hj)]
        rfl)
      have z0 := HR.out.cell (i := 0) rfl
      have zf0 := HR.out.frozen 0
      have z1 := HR.out.cell (i := 1) rfl
      have zf1 := HR.out.frozen 1
      have z2 := HR.out.cell (i := 2) rfl
      have zf2 := HR.out.frozen 2
      clear hik
      go_wp2_with fail
      (try simp only [Exit.inBlock, Exit.then])
      refine bodyPost_ret (results_one (ty := 52) rfl rfl (c := #[.int .u64 h, .int .i64 0, .int .i64 0]) (Blk.set3 HR.out rfl _ _ _) (by kernel_rfl) (by kernel_rfl)) rfl ?_
      rw [E.out]
      exact ⟨rfl, Ext.set3 HE0.out (by simp) _ _ _⟩
end Go.Proofs.Ytnpfikabcmngpaa.ShR
