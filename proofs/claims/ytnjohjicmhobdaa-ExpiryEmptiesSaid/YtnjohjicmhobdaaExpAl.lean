/-
  An index of ends: the function that along hands back goes through the rows of the buckets, in order, as long as these may be told: for every loop body that keeps what lay below.
  No condition.
-/
import Derived.Test.YtnjohjicmhobdaaAllUI
import Derived.Test.YtnjohjicmhobdaaAllBk
import Derived.Test.YtnjohjicmhobdaaExpT
namespace Go.Proofs.Ytnjohjicmhobdaa.Exi
open Go.RowKit Go.Shelf Go.Seg Go.Open Go.Lib Rk Ex
attribute [local go_sem] Oper.semAt_some

/-- Blocks of a type lie as they lay. -/
def KeepsTy (E : TypeId) (W W' : World) : Prop := ∀ (k : Nat) (cs : Array Value) f, W.heap[k]? = some (.cells cs E f) → W'.heap[k]? = some (.cells cs E f)
/-- What a round that goes on keeps. -/
def kp (n₀ : Nat) (W W' : World) : Prop := Below n₀ W W' ∧ KeepsTy 112 W W'
/-- An index's blocks, all below a place. -/
def IdxB (n₀ : Nat) (w : World) (b : Nat) (tp : T Int (Option Addr)) (tt : Int → T Int Int) : Prop :=
  b < n₀ ∧ ∃ q1 q2, Blk w b #[.pointer q1, .pointer q2] 137 ∧ TrBk.isTreeB n₀ w q2 tp ∧ ∀ x ∈ tp.toL, TrUI.isTreeB n₀ w x.2 (tt x.1)
theorem IdxB.below {n₀ : Nat} {A B : World} {b : Nat} {tp : T Int (Option Addr)} {tt : Int → T Int Int} (h : Below n₀ A B) : IdxB n₀ A b tp tt → IdxB n₀ B b tp tt :=
  fun ⟨hb, q1, q2, h1, h2, h3⟩ => ⟨hb, q1, q2, TrBk.blk_below h hb h1, h2.below h, fun x hx => (h3 x hx).below h⟩

theorem KeepsFrom.later {B B' : Nat} {W W' : World} (h : KeepsFrom B W W') (hB : B ≤ B') : KeepsFrom B' W W' := ⟨h.size, fun k o hk => h.same k o (by omega)⟩
theorem ordL_snoc {β : Type} (pre : List (Int × β)) (x : Int × β) (tt : Int → T Int Int) : ordL (pre ++ [x]) tt = ordL pre tt ++ (tt x.1).toL := by simp [ordL]
/-- The rows of the buckets that may be told. -/
def along {β : Type} (due : Int → Bool) (tp : List (Int × β)) (tt : Int → T Int Int) : List (Int × Int) := ordL (tp.takeWhile fun x => due x.1) tt
theorem take_pre {β : Type} {due : Int → Bool} {l pre : List (Int × β)} (h : pre <+: l) (hd : ∀ y ∈ pre, due y.1 = true) : pre <+: l.takeWhile fun x => due x.1 := by
  obtain ⟨r, rfl⟩ := h
  rw [List.takeWhile_append_of_pos (fun y hy => hd y hy)]
  exact ⟨_, rfl⟩
theorem ordL_pre {β : Type} {a l : List (Int × β)} (tt : Int → T Int Int) (h : a <+: l) : ordL a tt <+: ordL l tt := by
  obtain ⟨r, rfl⟩ := h
  exact ⟨ordL r tt, by simp [ordL]⟩
theorem along_all {β : Type} {due : Int → Bool} {l : List (Int × β)} {tt : Int → T Int Int} (hd : ∀ y ∈ l, due y.1 = true) : along due l tt = ordL l tt := by
  unfold along
  have := List.takeWhile_append_of_pos (p := fun x : Int × β => due x.1) (l₁ := l) (l₂ := []) (fun y hy => hd y hy)
  rw [List.append_nil, List.takeWhile_nil, List.append_nil] at this
  rw [this]
theorem along_stop {β : Type} {due : Int → Bool} {l pre : List (Int × β)} {x : Int × β} {tt : Int → T Int Int} (h : pre ++ [x] <+: l) (hd : ∀ y ∈ pre, due y.1 = true) (hx : due x.1 = false) : along due l tt = ordL pre tt := by
  obtain ⟨r, rfl⟩ := h
  unfold along
  rw [List.append_assoc, List.takeWhile_append_of_pos (fun y hy => hd y hy)]
  simp [hx]

theorem _root_.Go.RoundIn.inRound {F : Fence} {n : Nat} {P : Program} {l : Nat} {f : FuncId} {tmps : Array Value} {assign body : Code} {w : World} {R : Ending → World → Prop} (h : RoundIn F n P l f tmps assign body w R) (l' : Nat) : RoundIn (F.inRound l') n P l f tmps assign body w R := h
/-- What along's loops keep: the buckets gone through; the rows of one; where they are left. -/
def AI (J : List (Int × Int) → World → Prop) (due : Int → Bool) (tt : Int → T Int Int) (By : Nat) (yv : Value) (n₀ : Nat) (W0 : World) (pre : List (Int × Option Addr)) (W' : World) : Prop :=
  (((∀ y ∈ pre, due y.1 = true) ∧ J (ordL pre tt) W') ∧ Boxed W' By 112 yv) ∧ Below n₀ W0 W'
def AX (J Jx : List (Int × Int) → World → Prop) (due : Int → Bool) (tt : Int → T Int Int) (L : List (Int × Int)) (c : Code) (pre : List (Int × Option Addr)) (W' : World) : Prop :=
  c = .ret ∧ ((∃ pre' x, pre = pre' ++ [x] ∧ (∀ y ∈ pre', due y.1 = true) ∧ due x.1 = false ∧ J (ordL pre' tt) W') ∨ (∃ q, q <+: L ∧ Jx q W'))
def BI (J : List (Int × Int) → World → Prop) (L0 : List (Int × Int)) (By : Nat) (yv : Value) (n₀ B : Nat) (Wr : World) (pre2 : List (Int × Int)) (W' : World) : Prop :=
  (J (L0 ++ pre2) W' ∧ Boxed W' By 112 yv) ∧ (Below n₀ Wr W' ∧ KeepsFrom B Wr W')
def BX (Jx : List (Int × Int) → World → Prop) (L0 : List (Int × Int)) (B : Nat) (Wr : World) (c : Code) (pre2 : List (Int × Int)) (W' : World) : Prop :=
  c = .ret ∧ Jx (L0 ++ pre2) W' ∧ KeepsFrom B Wr W'

set_option maxRecDepth 100000 in
set_option maxHeartbeats 4000000 in
theorem along_N (n Bx Bm b n₀ gm : Nat) (caps : Array Value) (eg : ∀ args w, (callFunc gm args).run Try.prog w = .ok (.enter gm args) w) (due : Int → Bool) (tp : T Int (Option Addr)) (tt : Int → T Int Int) (w : World)
    (hx : w.cell? ⟨Bx, 0, none⟩ = some (.pointer (some ⟨b, 0, none⟩))) (hm : w.cell? ⟨Bm, 0, none⟩ = some (.func (.func gm) #[] caps)) (hBx : Bx < n₀) (hBm : Bm < n₀) (hn₀ : n₀ ≤ w.heap.size) (hI : IdxB n₀ w b tp tt)
    (hmay : ∀ x ∈ tp.toL, ∀ W, Below n₀ w W → Calls Try.prog gm (#[.int .i64 x.1] ++ caps) W fun e w' => e = .returned (.bool (due x.1)) ∧ W = w') :
    SeqN Fence.wide n Try.prog 132 #[.pointer (some ⟨Bx, 0, none⟩), .pointer (some ⟨Bm, 0, none⟩)] (fun x : Int × Int => #[Value.int .u64 x.1, Value.int .i64 x.2]) (kp n₀)
      (fun ys => ys = along due tp.toL tt) (fun pre => pre <+: along due tp.toL tt) w := by
  intro l J Jx W hW hJ hJx hY h0
  have hWn : Below n₀ w W := hW.mono hn₀
  have hsz := hW.size
  have hI' := hI.below hWn
  have hx' := (hW.cell (p := ⟨Bx, 0, none⟩) (show Bx < w.heap.size by omega)).trans hx
  have hm' := (hW.cell (p := ⟨Bm, 0, none⟩) (show Bm < w.heap.size by omega)).trans hm
  obtain ⟨hb, q1, q2, hB, hT, hTT⟩ := hI'
  obtain ⟨Wa, hWa⟩ : ∃ Wa, W.alloc (.cells #[.func (.yield l) #[] #[]] 112) = Wa := ⟨_, rfl⟩
  have hA : Ext W Wa := by rw [← hWa]; exact (Below.refl _ _).alloc (Nat.le_refl _) _
  have hzA : Wa.heap.size = W.heap.size + 1 := by rw [← hWa]; simp
  have a0 := (hA.cell (p := ⟨Bx, 0, none⟩) (show Bx < W.heap.size by omega)).trans hx'
  have a1 := (hB.ext hA).cell (i := 1) rfl
  have HTa := Lib.hid (hT.below (hA.mono (by omega)))
  have HTT := Lib.hid hTT
  have HMay := Lib.hid hmay
  have HY := Lib.hid hY
  have HW := Lib.hid hWn
  have HA := Lib.hid hA
  have HM := Lib.hid hm'
  have HZ := Lib.hid hzA
  have HJ0 : Hid (J [] Wa) := Lib.hid (by rw [← hWa]; exact hJ.alloc _ h0)
  have HYB : Hid (Boxed Wa W.heap.size 112 (.func (.yield l) #[] #[])) := Lib.hid (by rw [← hWa]; exact Boxed.new W _ _)
  clear hI hWn hW hx hm hx' hm' hT hTT hmay hY hB hA h0 hzA
  refine callsIn_of_wp_marks Try.func132 rfl trivial ?_ rfl
  simp only [Try.ntmps132, List.size_toArray, List.length_cons, List.length_nil, Nat.reduceAdd, Nat.reduceSub, Array.replicate_succ, Array.replicate_zero, List.push_toArray, List.append_toArray, List.nil_append, List.cons_append]
  refine wpIn_wide.2 ?_
  go_wp2_with fail
  refine (TrBk.All_any _ _).mono ?_
  rintro e w' ⟨rfl, rfl⟩
  go_wp2_with fail
  have hb0 := Blk.new Wa #[.pointer q2] 133
  have hE0 : Ext Wa (Wa.alloc (.cells #[.pointer q2] 133)) := (Below.refl _ _).alloc (Nat.le_refl _) _
  obtain ⟨W0, hW0⟩ : ∃ W0, Wa.alloc (.cells #[.pointer q2] 133) = W0 := ⟨_, rfl⟩
  rw [hW0] at hb0 hE0 ⊢
  have hz0 : W0.heap.size ≤ Wa.heap.size + 1 ∧ Wa.heap.size + 1 ≤ W0.heap.size := by rw [← hW0]; simp
  have hzA : Wa.heap.size ≤ W.heap.size + 1 ∧ W.heap.size + 1 ≤ Wa.heap.size := by have := HZ.out; omega
  have HJ1 : Hid (J [] W0) := Lib.hid (by rw [← hW0]; exact hJ.alloc _ HJ0.out)
  have HYB1 : Hid (Boxed W0 W.heap.size 112 (.func (.yield l) #[] #[])) := Lib.hid (by rw [← hW0]; exact HYB.out.alloc _)
  have hEn : Below n₀ W W0 := (HA.out.mono (by omega)).trans (hE0.mono (by omega))
  have HEn := Lib.hid hEn
  clear hW0 hWa a0 a1
  refine wpIn_wide (n := n).1 ?_
  refine wpIn_range_N (n := n) (gf := 150) (lb := #[.pointer (some ⟨Wa.heap.size, 0, none⟩)]) rfl (enters_of Try.func150 (by kernel_rfl) rfl)
    (TrBk.all_N (n - 1) Wa.heap.size n₀ (Below n₀) (fun _ _ h => h) q2 tp W0 hb0.lt (by omega) (hb0.cell (i := 0) rfl) (HTa.out.below (hE0.mono (by omega)))) belowK_t (belowK_b (by omega)) (Below.refl _ _) (fun _ => rfl)
    (AI J due tt W.heap.size (.func (.yield l) #[] #[]) n₀ W0) (AX J Jx due tt (along due tp.toL tt))
    ?hI ?hIx ⟨⟨⟨fun y h => by simp at h, by simpa [ordL] using HJ1.out⟩, HYB1.out⟩, Below.refl _ _⟩ ?hab ?done ?stop
  case hI =>
    refine OwnFrom.and (OwnFrom.and (fun s A B row hs hg hr => ⟨hs.1, hJ.later (by omega) _ A B row hs.2 hg hr⟩) (Own.from (boxed_own _ _ _) _)) (ownFrom_below (by omega) (by omega))
  case hIx =>
    intro c s A B row hs hg hr
    obtain ⟨h1, h2 | h2⟩ := hs
    · obtain ⟨pre', x, e1, e2, e3, e4⟩ := h2
      exact ⟨h1, .inl ⟨pre', x, e1, e2, e3, hJ.later (by omega) _ A B row e4 hg hr⟩⟩
    · obtain ⟨q, e1, e2⟩ := h2
      exact ⟨h1, .inr ⟨q, e1, hJx.later (by omega) _ A B row e2 hg hr⟩⟩
  case hab =>
    apply Exists.intro
    refine ⟨?assign, ?body⟩
    case assign =>
      intro l x W K hK
      gi_wp2
      exact hK
    case body =>
      rintro lo pre ⟨k, p⟩ Wr hlo ⟨r, hr⟩ ⟨⟨⟨hdue, hJr⟩, hYB⟩, hBr⟩ hpre
      have hxm : (k, p) ∈ tp.toL := hpre.subset (by simp)
      have hBn : Below n₀ W Wr := HEn.out.trans hBr
      have m0 := (hBn.cell (p := ⟨Bm, 0, none⟩) (show Bm < n₀ by omega)).trans HM.out
      have HC := Lib.hid (HMay.out (k, p) hxm Wr (HW.out.trans hBn))
      have HTk := Lib.hid ((HTT.out (k, p) hxm).below hBn)
      have HDue := Lib.hid hdue
      have HJr := Lib.hid hJr
      have HYBr := Lib.hid hYB
      have HBr := Lib.hid hBr
      have HPre := Lib.hid hpre
      clear hdue hJr hYB hBr hpre hBn hb0 hE0 hEn
      by_cases hd : due k = true
      · have HD := Lib.hid hd
        clear hd
        gi_wp2
        refine ⟨trivial, fun h => (by simp [Fence.wide] at h), (CallsIn.inRound lo (callsIn_wide.2 HC.out)).mono ?_⟩
        rw [HD.out]
        rintro e w' ⟨rfl, rfl⟩
        gi_wp2
        refine ⟨trivial, fun h => (by simp [Fence.wide] at h), (CallsIn.inRound lo (callsIn_wide.2 (TrUI.All_any _ _))).mono ?_⟩
        rintro e w' ⟨rfl, rfl⟩
        gi_wp2
        have hbi := Blk.new Wr #[.pointer p] 131
        have hEi : Ext Wr (Wr.alloc (.cells #[.pointer p] 131)) := (Below.refl _ _).alloc (Nat.le_refl _) _
        obtain ⟨Wi, hWi⟩ : ∃ Wi, Wr.alloc (.cells #[.pointer p] 131) = Wi := ⟨_, rfl⟩
        have hr' : Wi.heap[lo]? = some (.loop r) := by rw [← hWi]; exact (Below.heap_alloc Wr _ lo (Array.getElem?_eq_some_iff.1 hr).1).trans hr
        have hzr : n₀ ≤ Wr.heap.size ∧ W0.heap.size ≤ Wr.heap.size := ⟨by have := HBr.out.size; omega, HBr.out.size⟩
        have hJi : J (ordL pre tt) Wi := by rw [← hWi]; exact hJ.alloc _ HJr.out
        have hYi : Boxed Wi W.heap.size 112 (.func (.yield l) #[] #[]) := by rw [← hWi]; exact HYBr.out.alloc _
        have hKi : KeepsFrom W0.heap.size Wr Wi := by rw [← hWi]; exact (KeepsOthers.alloc _ _).from _
        have hzi : Wi.heap.size ≤ Wr.heap.size + 1 ∧ Wr.heap.size + 1 ≤ Wi.heap.size := by rw [← hWi]; simp
        rw [hWi] at hbi hEi ⊢
        have hp2 : ordL (pre ++ [(k, p)]) tt <+: along due tp.toL tt := ordL_pre tt (take_pre HPre.out (fun y hy => (List.mem_append.1 hy).elim (HDue.out y) (fun h => by simp at h; subst h; exact HD.out)))
        rw [ordL_snoc] at hp2
        clear hWi
        refine wpIn_range_NN (n := n - 1 - 1) (l₀ := lo) (r₀ := r) hr' (gf := 153) (lb := #[.pointer (some ⟨Wr.heap.size, 0, none⟩)]) rfl (enters_of Try.func153 (by kernel_rfl) rfl)
          (TrUI.all_N (n - 1 - 1 - 1) Wr.heap.size n₀ (Below n₀) (fun _ _ h => h) p (tt k) Wi hbi.lt (by omega) (hbi.cell (i := 0) rfl) (HTk.out.below (hEi.mono hzr.1))) belowK_t (belowK_b (by omega)) (Below.refl _ _) (fun _ => rfl)
          (BI J (ordL pre tt) W.heap.size (.func (.yield l) #[] #[]) n₀ W0.heap.size Wr) (BX Jx (ordL pre tt) W0.heap.size Wr)
          ?hI2 ?hIx2 ⟨⟨by simpa using hJi, hYi⟩, hEi.mono hzr.1, hKi⟩ ?hab2 ?done2 ?stop2
        case hI2 =>
          refine OwnFrom.and (OwnFrom.and (fun s A B row hs hg hr => hJ.later (by omega) _ A B row hs hg hr) (Own.from (boxed_own _ _ _) _)) (OwnFrom.and (ownFrom_below hzr.1 (by omega)) (ownFrom_keepsFrom (by omega)))
        case hIx2 =>
          intro c s A B row hs hg hr
          exact ⟨hs.1, hJx.later (by omega) _ A B row hs.2.1 hg hr, ownFrom_keepsFrom (β := Unit) (by omega) () A B row hs.2.2 hg hr⟩
        case hab2 =>
          apply Exists.intro
          refine ⟨?assign2, ?body2⟩
          case assign2 =>
            intro l x W K hK
            gi_wp2
            exact hK
          case body2 =>
            rintro l2 pre2 ⟨y1, y2⟩ W2 hl2 _ ⟨⟨hJ2, hYB2⟩, hB2, hKF2⟩ hpr2
            have y0 := hYB2.cell
            obtain ⟨fn, tmps, assign, body, hy, hR⟩ := TrUI.anyDepth rfl (n - 1 - 1 - 1 - 1 - 1) (HY.out (ordL pre tt ++ pre2) (y1, y2) W2 hJ2 (by rw [List.append_assoc]; exact ((List.prefix_append_right_inj _).2 hpr2).trans hp2))
            have HB2 := Lib.hid hB2
            have HKF2 := Lib.hid hKF2
            have HYB2 := Lib.hid hYB2
            clear hJ2 hB2 hKF2 hYB2
            gi_wp2
            refine ⟨fun h => (by simp [Fence.wide] at h), (hR.inRound l2).mono ?_⟩
            rintro e W3 ⟨hkf, (⟨rfl, hJ3, hk3⟩ | ⟨rfl, hx3⟩)⟩
            · have HJ3 := Lib.hid hJ3
              have HK3 := Lib.hid hk3
              have HKf := Lib.hid hkf
              clear hJ3 hk3 hkf hy hR
              gi_wp2
              exact ⟨KeepsFrom.later HKf.out (by omega), HK3.out.1, ⟨by rw [← List.append_assoc]; exact HJ3.out, HK3.out.2 _ _ _ HYB2.out⟩, HB2.out.trans HK3.out.1, HKF2.out.trans (KeepsFrom.later HKf.out (by omega))⟩
            · have HJ3 := Lib.hid hx3
              have HKf := Lib.hid hkf
              clear hx3 hkf hy hR
              gi_wp2
              exact ⟨KeepsFrom.later HKf.out (by omega), rfl, by rw [← List.append_assoc]; exact HJ3.out, HKF2.out.trans (KeepsFrom.later HKf.out (by omega))⟩
        case done2 =>
          rintro xs W2 rfl ⟨⟨hJ2, hYB2⟩, hB2, hKF2⟩
          gi_wp2
          exact ⟨hKF2, hB2, ⟨⟨fun y hy => (List.mem_append.1 hy).elim (HDue.out y) (fun h => by simp at h; subst h; exact HD.out), by rw [ordL_snoc]; exact hJ2⟩, hYB2⟩, HBr.out.trans hB2⟩
        case stop2 =>
          rintro c pre2 W2 hpr2 ⟨rfl, hx2, hKF2⟩
          gi_wp2
          exact ⟨hKF2, rfl, .inr ⟨_, ((List.prefix_append_right_inj _).2 hpr2).trans hp2, hx2⟩⟩
      · have hd' : due k = false := by simpa using hd
        have HD := Lib.hid hd'
        clear hd hd'
        gi_wp2
        refine ⟨trivial, fun h => (by simp [Fence.wide] at h), (CallsIn.inRound lo (callsIn_wide.2 HC.out)).mono ?_⟩
        rw [HD.out]
        rintro e w' ⟨rfl, rfl⟩
        gi_wp2
        exact ⟨KeepsFrom.refl _ _, rfl, .inl ⟨pre, (k, p), rfl, HDue.out, HD.out, HJr.out⟩⟩
  case done =>
    rintro D xs W2 hD rfl ⟨⟨⟨hdue, hJ2⟩, hYB2⟩, hB2⟩ hK
    gi_wp2
    refine ⟨by simp, .inl ⟨_, _, rfl, run_takeDeferred hK, ?_⟩⟩
    refine ⟨_, results_none rfl _ _ _, ⟨_, rfl⟩, .inl ⟨_, rfl, ?_⟩⟩
    rw [along_all hdue]
    exact hJ.putObj _ hJ2 (by omega) hK rfl
  case stop =>
    rintro D c pre W2 hD hpre ⟨rfl, h | h⟩ hK
    · obtain ⟨pre', x, rfl, e2, e3, e4⟩ := h
      gi_wp2
      refine ⟨by simp, .inl ⟨_, _, rfl, run_takeDeferred hK, ?_⟩⟩
      refine ⟨_, results_none rfl _ _ _, ⟨_, rfl⟩, .inl ⟨_, rfl, ?_⟩⟩
      rw [along_stop hpre e2 e3]
      exact hJ.putObj _ e4 (by omega) hK rfl
    · obtain ⟨q, e1, e2⟩ := h
      gi_wp2
      refine ⟨by simp, .inl ⟨_, _, rfl, run_takeDeferred hK, ?_⟩⟩
      exact ⟨_, results_none rfl _ _ _, ⟨_, rfl⟩, .inr ⟨q, e1, hJx.putObj _ e2 (by omega) hK rfl⟩⟩
end Go.Proofs.Ytnjohjicmhobdaa.Exi
