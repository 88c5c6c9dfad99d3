/-
  ShardPlays: the walk of the law, out of the contracts of package shard and of the document's answer.
  At most 40 steps (the law's own guard); no other condition.
-/
import Derived.Test.YtnpfikabcmngpaaShDo
import Derived.Test.YtnpfikabcmngpaaShAw
import Derived.Test.YtnpfikabcmngpaaAllEi
import Derived.Test.YtnpfikabcmngpaaSegR
import Derived.Test.YtnpfikabcmngpaaRangeX
import Derived.Deep.DeepCutAuto
namespace Go.Proofs.Ytnpfikabcmngpaa.ShP
open Go.RowKit Go.Shelf Go.Seg Go.Open Go.Lib Rk Go.Row ShR
attribute [local go_sem] Oper.semAt_some

theorem leaves_ret {n : Nat} {P : Program} {fn : Func} {R : Ending → World → Prop} {tmps : Array Value} {w : World} {v : Value} (h : (results fn tmps).run P w = .ok v w) (hR : R (.returned v) w) : bodyPostM Fence.wide n P fn R .ret { tmps, defers := [] } w :=
  ⟨v, h, hR⟩
theorem do_any (b B : Nat) (uL uW : Value) (te : T Int En) (tw : T Int (Int × Int)) (Wy : List (Int × Int × Int)) (k u : Int) (x : Int × En) (w : World) (hS : ShI.ShardAt w b te tw) (hX : XAt w B uL uW te.toL Wy) (hI : Inv k te tw Wy) (hk : k ≤ 900) (hu0 : 0 ≤ u) (hu1 : u ≤ 18446744073709551615) :
    Calls Try.prog 9 #[.pointer (some ⟨b, 0, none⟩), .agg #[uL, uW], .agg #[.int .u64 u, .int .u64 x.1, .int .u64 x.2.1, .int .i64 x.2.2.1, .int .i64 x.2.2.2.1, .int .i64 x.2.2.2.2.1, .int .i64 x.2.2.2.2.2.1, .int .i64 x.2.2.2.2.2.2]] w (DoPost k b B w) := by
  have h7 : u % 7 = 0 ∨ u % 7 = 1 ∨ u % 7 = 2 ∨ u % 7 = 3 ∨ u % 7 = 4 ∨ u % 7 = 5 ∨ u % 7 = 6 := by omega
  rcases h7 with h | h | h | h | h | h | h
  · exact do_put b B uL uW te tw Wy k u x w hS hX hI hk hu0 hu1 h
  · exact do_renew b B uL uW te tw Wy k u x w hS hX hI hk hu0 hu1 h
  · cases hg : cutO te x.1 x.2.1 with
    | none => exact do_cutno b B uL uW te tw Wy k u x w hS hX hI hk hu0 hu1 h hg
    | some v => exact do_cutyes b B uL uW te tw Wy k u x w hS hX hI hk hu0 hu1 h v hg
  · cases hg : T.get cint x.1 te with
    | none => exact do_remno b B uL uW te tw Wy k u x w hS hX hI hk hu0 hu1 h hg
    | some v => exact do_remyes b B uL uW te tw Wy k u x w hS hX hI hk hu0 hu1 h v hg
  · exact do_wait b B uL uW te tw Wy k u x w hS hX hI hk hu0 hu1 h
  · exact do_bump b B uL uW te tw Wy k u x w hS hX hI hk hu0 hu1 h
  · exact do_done b B uL uW te tw Wy k u x w hS hX hI hk hu0 hu1 h

theorem look_cases (te : T Int En) (h c : Int) : (T.get cint h te = none ∧ cutO te h c = none) ∨ (∃ v, T.get cint h te = some v ∧ cutO te h c = none) ∨ (∃ v, T.get cint h te = some v ∧ cutO te h c = some v) := by
  unfold cutO
  cases hg : T.get cint h te with
  | none => exact .inl ⟨rfl, rfl⟩
  | some v =>
    by_cases e : v.1 = c
    · exact .inr (.inr ⟨v, rfl, by dsimp only; rw [if_pos e]⟩)
    · exact .inr (.inl ⟨v, rfl, by dsimp only; rw [if_neg e]⟩)
theorem SAll_any (b : Nat) (te : T Int En) (tw : T Int (Int × Int)) (w : World) (h : ShI.ShardAt w b te tw) : Calls Try.prog 18 #[.pointer (some ⟨b, 0, none⟩)] w fun e w' =>
    ∃ q, TrEi.isTree w q te ∧ e = .returned (.func (.func 87) #[] #[.pointer (some ⟨w.heap.size, 0, none⟩)]) ∧ w' = w.alloc (.cells #[.pointer q] 77) := by
  obtain ⟨q, q2, hB, hT, _⟩ := h
  have b0 := Blk.cell (i := 0) hB rfl
  have HT := Lib.hid hT
  clear hB hT
  go_enter Try.func18, Try.ntmps18
  go_wp2_with fail
  refine (TrEi.All_any _ _).mono ?_
  rintro e w' ⟨rfl, rfl⟩
  go_wp2_with fail
  go_ret
  exact ⟨q, HT.out, rfl, rfl⟩
theorem rowL_cells {w : World} {B : Nat} {a : Option Addr} {cap : Nat} {L : List (Int × En)} (h : RowL w B (.slice a L.length cap) L) (i : Nat) (x : Int × En) (hx : L[i]? = some x) :
    ∃ bL, a = some ⟨bL, 0, none⟩ ∧ ∀ W, Ext w W → W.cell? ⟨bL, i * 7, none⟩ = some (.int .u64 x.1) ∧ W.cell? ⟨bL, i * 7 + 1, none⟩ = some (.int .u64 x.2.1) ∧ W.cell? ⟨bL, i * 7 + 2, none⟩ = some (.int .i64 x.2.2.1) ∧ W.cell? ⟨bL, i * 7 + 3, none⟩ = some (.int .i64 x.2.2.2.1) ∧ W.cell? ⟨bL, i * 7 + 4, none⟩ = some (.int .i64 x.2.2.2.2.1) ∧ W.cell? ⟨bL, i * 7 + 5, none⟩ = some (.int .i64 x.2.2.2.2.2.1) ∧ W.cell? ⟨bL, i * 7 + 6, none⟩ = some (.int .i64 x.2.2.2.2.2.2) := by
  obtain ⟨a', cap', bL, F', hu, _, ha, hF, hc⟩ := h.openG encS_len
  obtain ⟨hi, he⟩ := List.getElem?_eq_some_iff.1 hx
  obtain ⟨rfl, _, _⟩ : a = a' ∧ True ∧ cap = cap' := by simp at hu; exact ⟨hu.1, trivial, hu.2⟩
  have e : F' i = x := by rw [hF i hi, he]
  refine ⟨bL, ha (by omega), fun W hW => ?_⟩
  have k := fun j (hj : j < 7) => hc W hW i hi j hj
  rw [e] at k
  exact ⟨k 0 (by decide), k 1 (by decide), k 2 (by decide), k 3 (by decide), k 4 (by decide), k 5 (by decide), k 6 (by decide)⟩
/-- What going through all keeps. -/
def RI (wr : World) (Bn : Nat) (m : Int) (pre : List (Int × En)) (W : World) : Prop :=
  ((W.cell? ⟨Bn, 0, none⟩ = some (.int .i64 pre.length) ∧ W.frozen? ⟨Bn, 0, none⟩ = false) ∧ (pre.length : Int) ≤ m) ∧ Below wr.heap.size wr W
/-- .. and where it is left. -/
def RX (wr : World) (Bn : Nat) (m : Int) (c : Code) (pre : List (Int × En)) (W : World) : Prop :=
  c = .exit 2 ∧ (pre.length : Int) = m + 1 ∧ (W.cell? ⟨Bn, 0, none⟩ = some (.int .i64 m) ∧ W.frozen? ⟨Bn, 0, none⟩ = false) ∧ Below wr.heap.size wr W
theorem RI.own (wr : World) (Bn : Nat) (m : Int) {B : Nat} (hB : wr.heap.size ≤ B) : OwnFrom B (RI wr Bn m) :=
  OwnFrom.and (Own.from (fun s A B row hs hg hr => ⟨⟨cell_kept hs.1.1 hg hr, (frozen_kept hs.1.1 hg hr).trans hs.1.2⟩, hs.2⟩) _) (ownFrom_below (Nat.le_refl _) hB)
theorem RX.own (wr : World) (Bn : Nat) (m : Int) {B : Nat} (hB : wr.heap.size ≤ B) (c : Code) : OwnFrom B (RX wr Bn m c) :=
  have h0 : OwnFrom B (fun (_ : List (Int × En)) W => (W.cell? ⟨Bn, 0, none⟩ = some (.int .i64 m) ∧ W.frozen? ⟨Bn, 0, none⟩ = false) ∧ Below wr.heap.size wr W) :=
    OwnFrom.and (Own.from (fun s A B row hs hg hr => ⟨cell_kept hs.1 hg hr, (frozen_kept hs.1 hg hr).trans hs.2⟩) _) (ownFrom_below (Nat.le_refl _) hB)
  fun s A B row hs hg hr => ⟨hs.1, hs.2.1, h0 s A B row hs.2.2 hg hr⟩
theorem pre_at {α : Type} {pre l : List α} {x : α} (h : pre ++ [x] <+: l) : l[pre.length]? = some x := by
  obtain ⟨r, rfl⟩ := h
  simp
/-- What lies there between two rounds. -/
structure St (w wr : World) (most : Int) (Bx b : Nat) (uL uW : Value) (te : T Int En) (tw : T Int (Int × Int)) (Wy : List (Int × Int × Int)) : Prop where
  bm : Blk wr w.heap.size #[.int .u64 most] 23
  br : Blk wr (w.heap.size + 1) #[.bool false] 4
  bx : Blk wr Bx #[uL, uW] 30
  sh : ShI.ShardAt wr b te tw
  x : XAt wr w.heap.size uL uW te.toL Wy
  bel : Ext w wr
  lx : w.heap.size ≤ Bx
  lb : w.heap.size ≤ b
variable {w wr : World} {most : Int} {Bx b : Nat} {uL uW : Value} {te : T Int En} {tw : T Int (Int × Int)} {Wy : List (Int × Int × Int)}
theorem St.ext {w' : World} (h : St w wr most Bx b uL uW te tw Wy) (e : Ext wr w') : St w w' most Bx b uL uW te tw Wy :=
  ⟨h.bm.ext e, h.br.ext e, h.bx.ext e, h.sh.ext e, h.x.ext e, below_ext h.bel e, h.lx, h.lb⟩
theorem St.size (h : St w wr most Bx b uL uW te tw Wy) : w.heap.size + 1 < wr.heap.size := h.br.lt
/-- A step is done: the document's answer isn't kept yet. -/
structure St2 (w wr : World) (most : Int) (Bx b k8 : Nat) (uL uW uL' uW' : Value) (te : T Int En) (tw : T Int (Int × Int)) (Wy : List (Int × Int × Int)) : Prop where
  bm : Blk wr w.heap.size #[.int .u64 most] 23
  br : Blk wr (w.heap.size + 1) #[.bool false] 4
  bx : Blk wr Bx #[uL, uW] 30
  b8 : Blk wr k8 #[uL', uW'] 30
  sh : ShI.ShardAt wr b te tw
  x : XAt wr w.heap.size uL' uW' te.toL Wy
  bel : Ext w wr
  lx : w.heap.size ≤ Bx
  lb : w.heap.size ≤ b
theorem St.done {w' : World} {uL' uW' : Value} {te' : T Int En} {tw' : T Int (Int × Int)} {Wy' : List (Int × Int × Int)} (h : St w wr most Bx b uL uW te tw Wy) (hS : ShI.ShardAt w' b te' tw') (hX : XAt w' w.heap.size uL' uW' te'.toL Wy') (hc : Chg (· = b) wr w') {k8 : Nat} (h8 : Blk w' k8 #[uL', uW'] 30) : St2 w w' most Bx b k8 uL uW uL' uW' te' tw' Wy' := by
  obtain ⟨cs, hb⟩ := h.sh.blk
  exact ⟨h.bm.chg hc (.one hb (by decide)), h.br.chg hc (.one hb (by decide)), h.bx.chg hc (.one hb (by decide)), h8, hS, hX, below_chg h.bel hc (fun i hi => by rw [hi]; exact h.lb), h.lx, h.lb⟩
theorem St2.stored {k8 : Nat} {uL' uW' : Value} (h : St2 w wr most Bx b k8 uL uW uL' uW' te tw Wy) : St w ((wr.setCell ⟨Bx, 0, none⟩ uL').setCell ⟨Bx, 1, none⟩ uW') most Bx b uL' uW' te tw Wy := by
  have hc := (Chg.set wr Bx 0 uL').trans (Chg.set _ Bx 1 uW')
  exact ⟨h.bm.chg hc (.one h.bx (by decide)), h.br.chg hc (.one h.bx (by decide)), (h.bx.set 0 uL' rfl).set 1 uW' rfl, h.sh.one hc h.bx (by decide), h.x.one hc h.bx (by decide) (by decide), below_chg h.bel hc (fun i hi => by rw [hi]; exact h.lx), h.lx, h.lb⟩
/-- What a step leaves. -/
def Done1 (w : World) (most : Int) (Bx b : Nat) (uL uW : Value) (k : Int) (k8 : Nat) (W : World) : Prop := ∃ uL' uW' te tw Wy, St2 w W most Bx b k8 uL uW uL' uW' te tw Wy ∧ Inv (k + 1) te tw Wy
/-- What the step's region keeps. -/
def Kp (b : Nat) (W0 W : World) : Prop := Chg (· = b) W0 W

theorem Kp.st {W : World} (h : St w wr most Bx b uL uW te tw Wy) (hW : Kp b wr W) : (Blk W Bx #[uL, uW] 30 ∧ Ext w W) := by
  obtain ⟨cs, hb⟩ := h.sh.blk
  exact ⟨h.bx.chg hW (.one hb (by decide)), below_chg h.bel hW (fun i hi => by rw [hi]; exact h.lb)⟩
set_option maxRecDepth 100000 in
set_option maxHeartbeats 16000000 in
theorem plays_in (n : Nat) (hn1 : 1 ≤ n) (a : Option Addr) (len cap : Nat) (b0 off : Nat) (F : Nat → Int × Int × En) (most : Int) (w : World) (ha : 0 < len → a = some ⟨b0, off, none⟩) (hl : len ≤ maxLen) (hm0 : 0 ≤ most) (hm1 : most ≤ 18446744073709551615) (hF0 : ∀ i, i < len → 0 ≤ (F i).1 ∧ (F i).1 ≤ 18446744073709551615)
    (hF : ∀ W, Below w.heap.size w W → ∀ i, i < len → W.cell? ⟨b0, off + i * 8, none⟩ = some (.int .u64 (F i).1) ∧ W.cell? ⟨b0, off + i * 8 + 1, none⟩ = some (.int .u64 (F i).2.1) ∧ W.cell? ⟨b0, off + i * 8 + 2, none⟩ = some (.int .u64 (F i).2.2.1) ∧ W.cell? ⟨b0, off + i * 8 + 3, none⟩ = some (.int .i64 (F i).2.2.2.1) ∧ W.cell? ⟨b0, off + i * 8 + 4, none⟩ = some (.int .i64 (F i).2.2.2.2.1) ∧ W.cell? ⟨b0, off + i * 8 + 5, none⟩ = some (.int .i64 (F i).2.2.2.2.2.1) ∧ W.cell? ⟨b0, off + i * 8 + 6, none⟩ = some (.int .i64 (F i).2.2.2.2.2.2.1) ∧ W.cell? ⟨b0, off + i * 8 + 7, none⟩ = some (.int .i64 (F i).2.2.2.2.2.2.2)) :
    CallsIn Fence.wide n Try.prog 3 #[.slice a len cap, .int .u64 most] w fun e w' => e = .returned (.bool true) ∧ Below w.heap.size w w' := by
  have HA := Lib.hid ha
  have HF := Lib.hid hF
  have HF0 := Lib.hid hF0
  clear ha hF hF0
  unfold maxLen at hl
  refine callsIn_of_wp_marks Try.func3 rfl trivial ?_ rfl
  simp only [Try.ntmps3, List.size_toArray, List.length_cons, List.length_nil, Nat.reduceAdd, Nat.reduceSub, Array.replicate_succ, Array.replicate_zero, List.push_toArray, List.append_toArray, List.nil_append, List.cons_append]
  refine wpIn_wide.2 ?_
  by_cases h40 : (40 : Int) < (len : Int)
  · --O<
    go_wp2_with fail
    refine (ShN.awake_any _).mono ?_
    rintro e w1 ⟨rfl, hE⟩
    have hb2 : Blk w1 (w.heap.size + 1) #[.bool false] 4 := (blk_at (by simp)).ext hE
    have r0 := hb2.cell (i := 0) rfl
    have r1 := hb2.frozen 0
    go_wp2_with fail
    have r2 := (hb2.set 0 (.bool true) rfl).cell (i := 0) rfl
    refine leaves_ret (v := .bool true) (by rw [ShI.results_cell rfl]; simp [go_sem, r2]) ⟨rfl, ?_⟩
    exact (below_ext (((Below.refl _ _).alloc (Nat.le_refl _) _).alloc (by simp) _) hE).setCell (by simp) _
    --O>
  · have h40' : len ≤ 40 := by omega
    have hd40 : decide ((40 : Int) < (len : Int)) = false := decide_eq_false h40
    clear h40
    go_wp2_with fail
    refine (ShI.New_shard _).mono ?_
    rintro e w1 ⟨b, rfl, hb, hS, hE⟩
    have HS := Lib.hid hS
    have HE := Lib.hid hE
    clear hS hE
    go_wp2_with fail
    have hS0 : St w (w1.alloc (Obj.cells #[.slice none 0 0, .slice none 0 0] 30)) most w1.heap.size b (.slice none 0 0) (.slice none 0 0) .nil .nil [] := by
      have eA : Ext w1 (w1.alloc (Obj.cells #[.slice none 0 0, .slice none 0 0] 30)) := (Below.refl _ _).alloc (Nat.le_refl _) _
      have e1 := HE.out.trans eA
      have e0 : Ext w ((w.alloc (.cells #[.int .u64 most] 23)).alloc (.cells #[.bool false] 4)) := ((Below.refl _ _).alloc (Nat.le_refl _) _).alloc (by simp) _
      have hsz := HE.out.size
      simp at hsz hb
      exact ⟨Blk.ext (Blk.ext (Blk.new _ _ _) ((Below.refl _ _).alloc (Nat.le_refl _) _)) e1, Blk.ext (blk_at (by simp)) e1, Blk.new _ _ _, HS.out.ext eA, ⟨RowG.nil _ _, RowG.nil _ _, by simp; omega⟩, below_ext e0 e1, by omega, by omega⟩
    have HS0 := Lib.hid hS0
    clear hS0
    obtain ⟨Bx, hBx⟩ : ∃ Bx, w1.heap.size = Bx := ⟨_, rfl⟩
    rw [hBx] at HS0 ⊢
    clear hBx
    go_loopg [7, 8, 9, 10, 11, 12, 13, 14, 15, 16, 17, 18, 19] len (fun g i _ _ _ _ _ _ _ _ _ _ _ _ wr => ∃ (k : Nat) (uL uW : Value) (te : T Int En) (tw : T Int (Int × Int)) (Wy : List (Int × Int × Int)), i = .int .i64 k ∧ k ≤ len ∧ St w wr most Bx b uL uW te tw Wy ∧ Inv k te tw Wy ∧ len - k ≤ g)
    case atStart => exact ⟨0, _, _, .nil, .nil, [], rfl, Nat.zero_le _, HS0.out, Inv.nil, Nat.le_refl _⟩
    case round =>
      obtain ⟨k, uL, uW, te, tw, Wy, rfl, hk, hS, hI, hg⟩ := hrel
      have HS := Lib.hid hS
      have HI := Lib.hid hI
      obtain ⟨aL, cL, rfl⟩ := hS.x.l.val
      obtain ⟨aW, cW, rfl⟩ := hS.x.y.val
      clear hS hI HS0
      by_cases hik : k < len
      · have HK := Lib.hid (fun W (h : Below w.heap.size w W) => HF.out W h k hik)
        obtain rfl := HA.out (by omega)
        have hki : (0 : Int) ≤ (k : Int) := by omega
        have hkl : (k : Int) < (len : Int) := by omega
        --A<
        go_upto_region 8 with fail
        go_cut [8, 9] from 35 to 44 (fun s8 s9 wx => ∃ k8 : Nat, s8 = .pointer (some ⟨k8, 0, none⟩) ∧ s9 = .bool true ∧ Done1 w most Bx b (.slice aL te.toL.length cL) (.slice aW Wy.length cW) k k8 wx)
        case first =>
          refine wp_region_segsE (Kp b wr) (.quiet [6, 7] (.alt 0 (.quiet [3, 3] (.alt 0 (.alt 0 (.quiet [1] .done) .stop) .stop)) (.alt 4 (.alt 0 (.quiet [3, 2] (.alt 0 (.quiet [1] .done) .stop)) .stop) .stop))) (by kernel_rfl) (by kernel_rfl) (Chg.of_below (Ext.drew wr)) ?_
          apply segE_quiet
          · intro W hW
            have hbx : ∀ i, W.cell? ⟨Bx, i, none⟩ = (#[.slice aL te.toL.length cL, .slice aW Wy.length cW] : Array Value)[i]? := fun i => (Kp.st HS.out hW).1.cells i
            obtain ⟨x0, x1, x2, x3, x4, x5, x6, x7⟩ := HK.out _ (Kp.st HS.out hW).2
            simp only [runsT, runsF, rep, pick]
            repeat (first | go_values | go_skip | go_guarded | go_step)
            exact ⟨rfl, rfl⟩
          simp only [runsT, runsF, rep, left]
          refine segE_alt _ rfl ?_ ?_
          · skip
            go_wp2_with fail
            refine (do_any b w.heap.size _ _ te tw Wy k (F k).1 (F k).2 _ (HS.out.ext (Ext.drew wr)).sh (HS.out.ext (Ext.drew wr)).x HI.out (by omega) (HF0.out k hik).1 (HF0.out k hik).2).mono ?_
            rintro e w2 ⟨uL2, uW2, te2, tw2, Wy2, rfl, hS2, hX2, hI2, hC2⟩
            obtain ⟨a8, c8, rfl⟩ := hX2.l.val
            obtain ⟨a9, c9, rfl⟩ := hX2.y.val
            have HS2 := Lib.hid hS2
            have HX2 := Lib.hid hX2
            have HI2 := Lib.hid hI2
            have HC2 := Lib.hid (show Kp b wr w2 from (Chg.of_below (Ext.drew wr)).trans hC2)
            clear hS2 hX2 hI2 hC2
            go_wp2_with fail
            refine ⟨HC2.out, ?_⟩
            try dsimp only [List.eraseIdx]
            apply segE_quiet
            · intro W hW
              have hbx : ∀ i, W.cell? ⟨Bx, i, none⟩ = (#[.slice aL te.toL.length cL, .slice aW Wy.length cW] : Array Value)[i]? := fun i => (Kp.st HS.out hW).1.cells i
              obtain ⟨x0, x1, x2, x3, x4, x5, x6, x7⟩ := HK.out _ (Kp.st HS.out hW).2
              simp only [runsT, runsF, rep, pick]
              repeat (first | go_values | go_skip | go_guarded | go_step)
              exact ⟨rfl, rfl⟩
            simp only [runsT, runsF, rep, left]
            refine segE_alt _ rfl ?_ ?_
            · skip
              go_wp2_with fail
              refine ⟨HC2.out.trans (Chg.of_below ((Below.refl _ _).alloc (Nat.le_refl _) _)), ?_⟩
              try dsimp only [List.eraseIdx]
              refine segE_alt _ rfl ?_ ?_
              · skip
                have hst := Go.run_storeCells_new (P := Try.prog) w2 30 #[.slice none 0 0, .slice none 0 0] #[.slice a8 te2.toL.length c8, .slice a9 Wy2.length c9] (by kernel_rfl) rfl (by simp [Value.oneCell'])
                go_wp2_with fail
                refine ⟨HC2.out.trans (Chg.of_below ((Below.refl _ _).alloc (Nat.le_refl _) _)), ?_⟩
                try dsimp only [List.eraseIdx]
                apply segE_quiet
                · intro W hW
                  have hbx : ∀ i, W.cell? ⟨Bx, i, none⟩ = (#[.slice aL te.toL.length cL, .slice aW Wy.length cW] : Array Value)[i]? := fun i => (Kp.st HS.out hW).1.cells i
                  obtain ⟨x0, x1, x2, x3, x4, x5, x6, x7⟩ := HK.out _ (Kp.st HS.out hW).2
                  simp only [runsT, runsF, rep, pick]
                  repeat (first | go_values | go_skip | go_guarded | go_step)
                  exact ⟨rfl, rfl⟩
                simp only [runsT, runsF, rep, left]
                apply segE_done
                go_wp2_with fail
                go_meet
                have hA : Ext w2 (w2.alloc (.cells #[.slice a8 te2.toL.length c8, .slice a9 Wy2.length c9] 30)) := (Below.refl _ _).alloc (Nat.le_refl _) _
                exact ⟨w2.heap.size, rfl, rfl, _, _, _, _, _, HS.out.done (HS2.out.ext hA) (HX2.out.ext hA) (HC2.out.trans (Chg.of_below hA)) (Blk.new _ _ _), HI2.out⟩
              exact segE_stop
            exact segE_stop
          refine segE_alt _ rfl ?_ ?_
          · skip
            go_wp2_with fail
            refine ⟨Chg.of_below ((Ext.drew wr).trans ((Below.refl _ _).alloc (Nat.le_refl _) _)), ?_⟩
            try dsimp only [List.eraseIdx]
            refine segE_alt _ rfl ?_ ?_
            · skip
              go_wp2_with fail
              obtain ⟨W1, hW1⟩ : ∃ W, (wr.alloc (.cells #[.slice none 0 0, .slice none 0 0] 30)).drew = W := ⟨_, rfl⟩
              have hE1 : Ext wr W1 := by rw [← hW1]; exact Ext.trans ((Below.refl _ _).alloc (Nat.le_refl _) _) (Ext.drew _)
              have hZ1 : Blk W1 wr.heap.size #[.slice none 0 0, .slice none 0 0] 30 := by rw [← hW1]; exact (Blk.new _ _ _).drew
              rw [hW1]
              refine (do_any b w.heap.size _ _ te tw Wy k (F k).1 (F k).2 _ (HS.out.ext hE1).sh (HS.out.ext hE1).x HI.out (by omega) (HF0.out k hik).1 (HF0.out k hik).2).mono ?_
              rintro e w2 ⟨uL2, uW2, te2, tw2, Wy2, rfl, hS2, hX2, hI2, hC2⟩
              obtain ⟨a8, c8, rfl⟩ := hX2.l.val
              obtain ⟨a9, c9, rfl⟩ := hX2.y.val
              have HS2 := Lib.hid hS2
              have HX2 := Lib.hid hX2
              have HI2 := Lib.hid hI2
              have HC2 := Lib.hid (show Kp b wr w2 from (Chg.of_below hE1).trans hC2)
              obtain ⟨cs1, hb1⟩ := (HS.out.ext hE1).sh.blk
              have hZ2 := hZ1.chg hC2 (.one hb1 (by decide))
              have hz0 := hZ2.cell (i := 0) rfl
              have hz1 := hZ2.cell (i := 1) rfl
              have hy0 := hZ2.frozen 0
              have hy1 := hZ2.frozen 1
              have HZ2 := Lib.hid hZ2
              clear hZ1 hZ2 hW1 hE1 hb1
              clear hS2 hX2 hI2 hC2
              go_wp2_with fail
              refine ⟨HC2.out, ?_⟩
              try dsimp only [List.eraseIdx]
              apply segE_quiet
              · intro W hW
                have hbx : ∀ i, W.cell? ⟨Bx, i, none⟩ = (#[.slice aL te.toL.length cL, .slice aW Wy.length cW] : Array Value)[i]? := fun i => (Kp.st HS.out hW).1.cells i
                obtain ⟨x0, x1, x2, x3, x4, x5, x6, x7⟩ := HK.out _ (Kp.st HS.out hW).2
                simp only [runsT, runsF, rep, pick]
                repeat (first | go_values | go_skip | go_guarded | go_step)
                exact ⟨rfl, rfl⟩
              simp only [runsT, runsF, rep, left]
              refine segE_alt _ rfl ?_ ?_
              · skip
                go_wp2_with fail
                refine ⟨HC2.out.onNew ((Chg.set w2 wr.heap.size 0 (.slice a8 te2.toL.length c8)).trans (Chg.set _ wr.heap.size 1 (.slice a9 Wy2.length c9))) (Nat.le_refl _), ?_⟩
                try dsimp only [List.eraseIdx]
                apply segE_quiet
                · intro W hW
                  have hbx : ∀ i, W.cell? ⟨Bx, i, none⟩ = (#[.slice aL te.toL.length cL, .slice aW Wy.length cW] : Array Value)[i]? := fun i => (Kp.st HS.out hW).1.cells i
                  obtain ⟨x0, x1, x2, x3, x4, x5, x6, x7⟩ := HK.out _ (Kp.st HS.out hW).2
                  simp only [runsT, runsF, rep, pick]
                  repeat (first | go_values | go_skip | go_guarded | go_step)
                  exact ⟨rfl, rfl⟩
                simp only [runsT, runsF, rep, left]
                apply segE_done
                go_wp2_with fail
                go_meet
                have hc := (Chg.set w2 wr.heap.size 0 (.slice a8 te2.toL.length c8)).trans (Chg.set _ wr.heap.size 1 (.slice a9 Wy2.length c9))
                exact ⟨wr.heap.size, rfl, rfl, _, _, _, _, _, HS.out.done (HS2.out.one hc HZ2.out (by decide)) (HX2.out.one hc HZ2.out (by decide) (by decide)) (HC2.out.onNew hc (Nat.le_refl _)) ((HZ2.out.set 0 _ rfl).set 1 _ rfl), HI2.out⟩
              exact segE_stop
            exact segE_stop
          exact segE_stop
        case rest =>
          obtain ⟨k8, rfl, rfl, uL2, uW2, te2, tw2, Wy2, hS2, hI2⟩ := hcut
          obtain ⟨a8, c8, rfl⟩ := hS2.x.l.val
          obtain ⟨a9, c9, rfl⟩ := hS2.x.y.val
          have h8 : ∀ i, wc.cell? ⟨k8, i, none⟩ = (#[.slice a8 te2.toL.length c8, .slice a9 Wy2.length c9] : Array Value)[i]? := fun i => hS2.b8.cells i
          have hx : ∀ i, wc.cell? ⟨Bx, i, none⟩ = (#[.slice aL te.toL.length cL, .slice aW Wy.length cW] : Array Value)[i]? := fun i => hS2.bx.cells i
          have hf : ∀ i, wc.frozen? ⟨Bx, i, none⟩ = false := fun i => hS2.bx.frozen i
          have HS2 := Lib.hid hS2
          have HI2 := Lib.hid hI2
          clear hS2 hI2
          go_upto_region 10 with fail
          obtain ⟨W3, hW3⟩ : ∃ W, (wc.setCell ⟨Bx, 0, none⟩ (.slice a8 te2.toL.length c8)).setCell ⟨Bx, 1, none⟩ (.slice a9 Wy2.length c9) = W := ⟨_, rfl⟩
          have HS3 := Lib.hid (show St w W3 most Bx b _ _ te2 tw2 Wy2 from by rw [← hW3]; exact HS2.out.stored)
          rw [hW3]
          clear hW3 h8 hx hf
          obtain ⟨x0, x1, x2, x3, x4, x5, x6, x7⟩ := HK.out _ HS3.out.bel
          rcases look_cases te2 (F k).2.1 (F k).2.2.1 with ⟨hg, hc⟩ | ⟨v, hg, hc⟩ | ⟨v, hg, hc⟩
          · have HG := Lib.hid hg
            have HCU := Lib.hid hc
            clear hg hc
            go_wp2_with fail
            have HT := Lib.hid HS3.out
            clear x0 x1 x2 x3 x4 x5 x6 x7
            obtain ⟨W4, hW⟩ : ∃ W, W3.alloc (.cells #[.int .u64 (F k).2.1, .int .u64 (F k).2.2.1] 39) = W := ⟨_, rfl⟩
            have hE : Ext W3 W4 := by rw [← hW]; exact (Below.refl _ _).alloc (Nat.le_refl _) _
            have HP := Lib.hid (show Blk W4 W3.heap.size #[.int .u64 (F k).2.1, .int .u64 (F k).2.2.1] 39 from by rw [← hW]; exact Blk.new _ _ _)
            rw [hW]
            have HT := Lib.hid (HT.out.ext hE)
            clear hW hE
            refine (ShI.Look_none b te2 tw2 (F k).2.1 _ HT.out.sh (by have := HI2.out.se; omega) HG.out).mono ?_
            rintro e w5 ⟨rfl, hE⟩
            have hst := Go.run_storeCells_new (P := Try.prog) w5 41 #[.int .u64 0, .int .i64 0, .int .i64 0, .int .i64 0, .int .i64 0, .int .i64 0] #[.int .u64 0, .int .i64 0, .int .i64 0, .int .i64 0, .int .i64 0, .int .i64 0] (by kernel_rfl) rfl (by simp [Value.oneCell'])
            have HT := Lib.hid (HT.out.ext hE)
            have HP := Lib.hid (HP.out.ext hE)
            clear hE
            have hbx : ∀ i, w5.cell? ⟨Bx, i, none⟩ = (#[.slice a8 te2.toL.length c8, .slice a9 Wy2.length c9] : Array Value)[i]? := fun i => HT.out.bx.cells i
            have lbx := HT.out.bx.lt
            have hb0 : ∀ i, w5.cell? ⟨W3.heap.size, i, none⟩ = (#[.int .u64 (F k).2.1, .int .u64 (F k).2.2.1] : Array Value)[i]? := fun i => HP.out.cells i
            have lb0 := HP.out.lt
            go_wp2_with fail
            clear hst
            clear hbx lbx hb0 lb0
            obtain ⟨W6, hW⟩ : ∃ W, w5.alloc (.cells #[.int .u64 0, .int .i64 0, .int .i64 0, .int .i64 0, .int .i64 0, .int .i64 0] 41) = W := ⟨_, rfl⟩
            have hE : Ext w5 W6 := by rw [← hW]; exact (Below.refl _ _).alloc (Nat.le_refl _) _
            have HB1 := Lib.hid (show Blk W6 w5.heap.size #[.int .u64 0, .int .i64 0, .int .i64 0, .int .i64 0, .int .i64 0, .int .i64 0] 41 from by rw [← hW]; exact Blk.new _ _ _)
            rw [hW]
            have HT := Lib.hid (HT.out.ext hE)
            have HP := Lib.hid (HP.out.ext hE)
            clear hW hE
            refine (rLook_no _ _ w.heap.size (F k).2.1 _ HT.out.x HI2.out (by omega) HG.out).mono ?_
            rintro e w7 ⟨rfl, hE⟩
            have hst := Go.run_storeCells_new (P := Try.prog) w7 35 #[.int .u64 0, .int .u64 0, .int .i64 0, .int .i64 0, .int .i64 0, .int .i64 0, .int .i64 0] #[.int .u64 0, .int .u64 0, .int .i64 0, .int .i64 0, .int .i64 0, .int .i64 0, .int .i64 0] (by kernel_rfl) rfl (by simp [Value.oneCell'])
            have HT := Lib.hid (HT.out.ext hE)
            have HP := Lib.hid (HP.out.ext hE)
            have HB1 := Lib.hid (HB1.out.ext hE)
            clear hE
            have hbx : ∀ i, w7.cell? ⟨Bx, i, none⟩ = (#[.slice a8 te2.toL.length c8, .slice a9 Wy2.length c9] : Array Value)[i]? := fun i => HT.out.bx.cells i
            have lbx := HT.out.bx.lt
            have hb0 : ∀ i, w7.cell? ⟨W3.heap.size, i, none⟩ = (#[.int .u64 (F k).2.1, .int .u64 (F k).2.2.1] : Array Value)[i]? := fun i => HP.out.cells i
            have lb0 := HP.out.lt
            have hb1 : ∀ i, w7.cell? ⟨w5.heap.size, i, none⟩ = (#[.int .u64 0, .int .i64 0, .int .i64 0, .int .i64 0, .int .i64 0, .int .i64 0] : Array Value)[i]? := fun i => HB1.out.cells i
            have lb1 := HB1.out.lt
            go_wp2_with fail
            clear hst
            clear hbx lbx hb0 lb0 hb1 lb1
            obtain ⟨W8, hW⟩ : ∃ W, w7.alloc (.cells #[.int .u64 0, .int .u64 0, .int .i64 0, .int .i64 0, .int .i64 0, .int .i64 0, .int .i64 0] 35) = W := ⟨_, rfl⟩
            have hE : Ext w7 W8 := by rw [← hW]; exact (Below.refl _ _).alloc (Nat.le_refl _) _
            have HB2 := Lib.hid (show Blk W8 w7.heap.size #[.int .u64 0, .int .u64 0, .int .i64 0, .int .i64 0, .int .i64 0, .int .i64 0, .int .i64 0] 35 from by rw [← hW]; exact Blk.new _ _ _)
            rw [hW]
            have HT := Lib.hid (HT.out.ext hE)
            have HP := Lib.hid (HP.out.ext hE)
            have HB1 := Lib.hid (HB1.out.ext hE)
            clear hW hE
            refine (uFind_no b (F k).2.1 (F k).2.2.1 _ HT.out.sh HI2.out (by omega) HCU.out).mono ?_
            rintro e w9 ⟨rfl, hE⟩
            have hst := Go.run_storeCells_new (P := Try.prog) w9 41 #[.int .u64 0, .int .i64 0, .int .i64 0, .int .i64 0, .int .i64 0, .int .i64 0] #[.int .u64 0, .int .i64 0, .int .i64 0, .int .i64 0, .int .i64 0, .int .i64 0] (by kernel_rfl) rfl (by simp [Value.oneCell'])
            have HT := Lib.hid (HT.out.ext hE)
            have HP := Lib.hid (HP.out.ext hE)
            have HB1 := Lib.hid (HB1.out.ext hE)
            have HB2 := Lib.hid (HB2.out.ext hE)
            clear hE
            have hbx : ∀ i, w9.cell? ⟨Bx, i, none⟩ = (#[.slice a8 te2.toL.length c8, .slice a9 Wy2.length c9] : Array Value)[i]? := fun i => HT.out.bx.cells i
            have lbx := HT.out.bx.lt
            have hb0 : ∀ i, w9.cell? ⟨W3.heap.size, i, none⟩ = (#[.int .u64 (F k).2.1, .int .u64 (F k).2.2.1] : Array Value)[i]? := fun i => HP.out.cells i
            have lb0 := HP.out.lt
            have hb1 : ∀ i, w9.cell? ⟨w5.heap.size, i, none⟩ = (#[.int .u64 0, .int .i64 0, .int .i64 0, .int .i64 0, .int .i64 0, .int .i64 0] : Array Value)[i]? := fun i => HB1.out.cells i
            have lb1 := HB1.out.lt
            have hb2 : ∀ i, w9.cell? ⟨w7.heap.size, i, none⟩ = (#[.int .u64 0, .int .u64 0, .int .i64 0, .int .i64 0, .int .i64 0, .int .i64 0, .int .i64 0] : Array Value)[i]? := fun i => HB2.out.cells i
            have lb2 := HB2.out.lt
            go_wp2_with fail
            clear hst
            clear hbx lbx hb0 lb0 hb1 lb1 hb2 lb2
            obtain ⟨W10, hW⟩ : ∃ W, w9.alloc (.cells #[.int .u64 0, .int .i64 0, .int .i64 0, .int .i64 0, .int .i64 0, .int .i64 0] 41) = W := ⟨_, rfl⟩
            have hE : Ext w9 W10 := by rw [← hW]; exact (Below.refl _ _).alloc (Nat.le_refl _) _
            have HB3 := Lib.hid (show Blk W10 w9.heap.size #[.int .u64 0, .int .i64 0, .int .i64 0, .int .i64 0, .int .i64 0, .int .i64 0] 41 from by rw [← hW]; exact Blk.new _ _ _)
            rw [hW]
            have HT := Lib.hid (HT.out.ext hE)
            have HP := Lib.hid (HP.out.ext hE)
            have HB1 := Lib.hid (HB1.out.ext hE)
            have HB2 := Lib.hid (HB2.out.ext hE)
            clear hW hE
            refine (rFind_no _ _ w.heap.size (F k).2.1 (F k).2.2.1 _ HT.out.x HI2.out (by omega) HCU.out).mono ?_
            rintro e w11 ⟨rfl, hE⟩
            have hst := Go.run_storeCells_new (P := Try.prog) w11 35 #[.int .u64 0, .int .u64 0, .int .i64 0, .int .i64 0, .int .i64 0, .int .i64 0, .int .i64 0] #[.int .u64 0, .int .u64 0, .int .i64 0, .int .i64 0, .int .i64 0, .int .i64 0, .int .i64 0] (by kernel_rfl) rfl (by simp [Value.oneCell'])
            have HT := Lib.hid (HT.out.ext hE)
            have HP := Lib.hid (HP.out.ext hE)
            have HB1 := Lib.hid (HB1.out.ext hE)
            have HB2 := Lib.hid (HB2.out.ext hE)
            have HB3 := Lib.hid (HB3.out.ext hE)
            clear hE
            have hbx : ∀ i, w11.cell? ⟨Bx, i, none⟩ = (#[.slice a8 te2.toL.length c8, .slice a9 Wy2.length c9] : Array Value)[i]? := fun i => HT.out.bx.cells i
            have lbx := HT.out.bx.lt
            have hb0 : ∀ i, w11.cell? ⟨W3.heap.size, i, none⟩ = (#[.int .u64 (F k).2.1, .int .u64 (F k).2.2.1] : Array Value)[i]? := fun i => HP.out.cells i
            have lb0 := HP.out.lt
            have hb1 : ∀ i, w11.cell? ⟨w5.heap.size, i, none⟩ = (#[.int .u64 0, .int .i64 0, .int .i64 0, .int .i64 0, .int .i64 0, .int .i64 0] : Array Value)[i]? := fun i => HB1.out.cells i
            have lb1 := HB1.out.lt
            have hb2 : ∀ i, w11.cell? ⟨w7.heap.size, i, none⟩ = (#[.int .u64 0, .int .u64 0, .int .i64 0, .int .i64 0, .int .i64 0, .int .i64 0, .int .i64 0] : Array Value)[i]? := fun i => HB2.out.cells i
            have lb2 := HB2.out.lt
            have hb3 : ∀ i, w11.cell? ⟨w9.heap.size, i, none⟩ = (#[.int .u64 0, .int .i64 0, .int .i64 0, .int .i64 0, .int .i64 0, .int .i64 0] : Array Value)[i]? := fun i => HB3.out.cells i
            have lb3 := HB3.out.lt
            go_wp2_with fail
            clear hst
            clear hbx lbx hb0 lb0 hb1 lb1 hb2 lb2 hb3 lb3
            obtain ⟨Wr, hW⟩ : ∃ W, w11.alloc (.cells #[.int .u64 0, .int .u64 0, .int .i64 0, .int .i64 0, .int .i64 0, .int .i64 0, .int .i64 0] 35) = W := ⟨_, rfl⟩
            have hE : Ext w11 Wr := by rw [← hW]; exact (Below.refl _ _).alloc (Nat.le_refl _) _
            have HB4 := Lib.hid (show Blk Wr w11.heap.size #[.int .u64 0, .int .u64 0, .int .i64 0, .int .i64 0, .int .i64 0, .int .i64 0, .int .i64 0] 35 from by rw [← hW]; exact Blk.new _ _ _)
            rw [hW]
            have HT := Lib.hid (HT.out.ext hE)
            have HP := Lib.hid (HP.out.ext hE)
            have HB1 := Lib.hid (HB1.out.ext hE)
            have HB2 := Lib.hid (HB2.out.ext hE)
            have HB3 := Lib.hid (HB3.out.ext hE)
            clear hW hE
            have hf1 := field1
            have n1 : (te2.sz != (te2.toL.length : Int)) = false := by rw [T.sz_toL]; simp
            have n2 : ((ShI.wayOf tw2 (F k).2.1).1 != (ShI.wayOf tw2 (F k).2.1).1) = false := by simp
            refine wp_region_segsE (Ext Wr) (.quiet [7, 29] (.alt 0 (.quiet [7, 21] (.alt 0 (.quiet [4, 1, 3, 12] (.alt 0 (.quiet [5, 1, 2, 4] (.alt 0 (.alt 0 (.quiet [3] .done) .stop) .stop)) .stop)) .stop)) .stop)) (by kernel_rfl) (by kernel_rfl) (Ext.drew Wr) ?_
            apply segE_quiet
            · intro W hW
              have hq0 : ∀ i, W.cell? ⟨Bx, i, none⟩ = (#[.slice a8 te2.toL.length c8, .slice a9 Wy2.length c9] : Array Value)[i]? := fun i => (HT.out.bx.ext hW).cells i
              have hq2 : ∀ i, W.cell? ⟨w5.heap.size, i, none⟩ = (#[.int .u64 0, .int .i64 0, .int .i64 0, .int .i64 0, .int .i64 0, .int .i64 0] : Array Value)[i]? := fun i => (HB1.out.ext hW).cells i
              have hq3 : ∀ i, W.cell? ⟨w7.heap.size, i, none⟩ = (#[.int .u64 0, .int .u64 0, .int .i64 0, .int .i64 0, .int .i64 0, .int .i64 0, .int .i64 0] : Array Value)[i]? := fun i => (HB2.out.ext hW).cells i
              have hq4 : ∀ i, W.cell? ⟨w9.heap.size, i, none⟩ = (#[.int .u64 0, .int .i64 0, .int .i64 0, .int .i64 0, .int .i64 0, .int .i64 0] : Array Value)[i]? := fun i => (HB3.out.ext hW).cells i
              have hq5 : ∀ i, W.cell? ⟨w11.heap.size, i, none⟩ = (#[.int .u64 0, .int .u64 0, .int .i64 0, .int .i64 0, .int .i64 0, .int .i64 0, .int .i64 0] : Array Value)[i]? := fun i => (HB4.out.ext hW).cells i
              simp only [runsT, runsF, rep, pick]
              repeat (first | go_values | go_skip | go_guarded | go_step)
              exact ⟨rfl, rfl⟩
            simp only [runsT, runsF, rep, left]
            refine segE_alt _ rfl ?_ ?_
            · skip
              go_wp2_with fail
              refine (same_z _).mono ?_
              rintro e y7 ⟨rfl, hE⟩
              have X7 := Lib.hid (show Ext Wr y7 from Ext.trans (Ext.drew Wr) hE)
              clear hE
              go_wp2_with fail
              refine ⟨X7.out, ?_⟩
              try dsimp only [List.eraseIdx]
              apply segE_quiet
              · intro W hW
                have hq0 : ∀ i, W.cell? ⟨Bx, i, none⟩ = (#[.slice a8 te2.toL.length c8, .slice a9 Wy2.length c9] : Array Value)[i]? := fun i => (HT.out.bx.ext hW).cells i
                have hq2 : ∀ i, W.cell? ⟨w5.heap.size, i, none⟩ = (#[.int .u64 0, .int .i64 0, .int .i64 0, .int .i64 0, .int .i64 0, .int .i64 0] : Array Value)[i]? := fun i => (HB1.out.ext hW).cells i
                have hq3 : ∀ i, W.cell? ⟨w7.heap.size, i, none⟩ = (#[.int .u64 0, .int .u64 0, .int .i64 0, .int .i64 0, .int .i64 0, .int .i64 0, .int .i64 0] : Array Value)[i]? := fun i => (HB2.out.ext hW).cells i
                have hq4 : ∀ i, W.cell? ⟨w9.heap.size, i, none⟩ = (#[.int .u64 0, .int .i64 0, .int .i64 0, .int .i64 0, .int .i64 0, .int .i64 0] : Array Value)[i]? := fun i => (HB3.out.ext hW).cells i
                have hq5 : ∀ i, W.cell? ⟨w11.heap.size, i, none⟩ = (#[.int .u64 0, .int .u64 0, .int .i64 0, .int .i64 0, .int .i64 0, .int .i64 0, .int .i64 0] : Array Value)[i]? := fun i => (HB4.out.ext hW).cells i
                simp only [runsT, runsF, rep, pick]
                repeat (first | go_values | go_skip | go_guarded | go_step)
                exact ⟨rfl, rfl⟩
              simp only [runsT, runsF, rep, left]
              refine segE_alt _ rfl ?_ ?_
              · skip
                go_wp2_with fail
                refine (same_z _).mono ?_
                rintro e y15 ⟨rfl, hE⟩
                have X15 := Lib.hid (show Ext Wr y15 from Ext.trans X7.out hE)
                clear hE
                go_wp2_with fail
                refine ⟨X15.out, ?_⟩
                try dsimp only [List.eraseIdx]
                apply segE_quiet
                · intro W hW
                  have hq0 : ∀ i, W.cell? ⟨Bx, i, none⟩ = (#[.slice a8 te2.toL.length c8, .slice a9 Wy2.length c9] : Array Value)[i]? := fun i => (HT.out.bx.ext hW).cells i
                  have hq2 : ∀ i, W.cell? ⟨w5.heap.size, i, none⟩ = (#[.int .u64 0, .int .i64 0, .int .i64 0, .int .i64 0, .int .i64 0, .int .i64 0] : Array Value)[i]? := fun i => (HB1.out.ext hW).cells i
                  have hq3 : ∀ i, W.cell? ⟨w7.heap.size, i, none⟩ = (#[.int .u64 0, .int .u64 0, .int .i64 0, .int .i64 0, .int .i64 0, .int .i64 0, .int .i64 0] : Array Value)[i]? := fun i => (HB2.out.ext hW).cells i
                  have hq4 : ∀ i, W.cell? ⟨w9.heap.size, i, none⟩ = (#[.int .u64 0, .int .i64 0, .int .i64 0, .int .i64 0, .int .i64 0, .int .i64 0] : Array Value)[i]? := fun i => (HB3.out.ext hW).cells i
                  have hq5 : ∀ i, W.cell? ⟨w11.heap.size, i, none⟩ = (#[.int .u64 0, .int .u64 0, .int .i64 0, .int .i64 0, .int .i64 0, .int .i64 0, .int .i64 0] : Array Value)[i]? := fun i => (HB4.out.ext hW).cells i
                  simp only [runsT, runsF, rep, pick]
                  repeat (first | go_values | go_skip | go_guarded | go_step)
                  exact ⟨rfl, rfl⟩
                simp only [runsT, runsF, rep, left]
                refine segE_alt _ rfl ?_ ?_
                · skip
                  go_wp2_with fail
                  refine (ShI.SLen_any b te2 tw2 _ (HT.out.ext X15.out).sh).mono ?_
                  rintro e y20 ⟨rfl, rfl⟩
                  go_wp2_with fail
                  refine ⟨X15.out, ?_⟩
                  try dsimp only [List.eraseIdx]
                  apply segE_quiet
                  · intro W hW
                    have hq0 : ∀ i, W.cell? ⟨Bx, i, none⟩ = (#[.slice a8 te2.toL.length c8, .slice a9 Wy2.length c9] : Array Value)[i]? := fun i => (HT.out.bx.ext hW).cells i
                    have hq2 : ∀ i, W.cell? ⟨w5.heap.size, i, none⟩ = (#[.int .u64 0, .int .i64 0, .int .i64 0, .int .i64 0, .int .i64 0, .int .i64 0] : Array Value)[i]? := fun i => (HB1.out.ext hW).cells i
                    have hq3 : ∀ i, W.cell? ⟨w7.heap.size, i, none⟩ = (#[.int .u64 0, .int .u64 0, .int .i64 0, .int .i64 0, .int .i64 0, .int .i64 0, .int .i64 0] : Array Value)[i]? := fun i => (HB2.out.ext hW).cells i
                    have hq4 : ∀ i, W.cell? ⟨w9.heap.size, i, none⟩ = (#[.int .u64 0, .int .i64 0, .int .i64 0, .int .i64 0, .int .i64 0, .int .i64 0] : Array Value)[i]? := fun i => (HB3.out.ext hW).cells i
                    have hq5 : ∀ i, W.cell? ⟨w11.heap.size, i, none⟩ = (#[.int .u64 0, .int .u64 0, .int .i64 0, .int .i64 0, .int .i64 0, .int .i64 0, .int .i64 0] : Array Value)[i]? := fun i => (HB4.out.ext hW).cells i
                    simp only [runsT, runsF, rep, pick]
                    repeat (first | go_values | go_skip | go_guarded | go_step)
                    exact ⟨rfl, rfl⟩
                  simp only [runsT, runsF, rep, left]
                  refine segE_alt _ rfl ?_ ?_
                  · skip
                    go_wp2_with fail
                    refine (ShI.Pending_any b te2 tw2 (F k).2.1 _ (HT.out.ext X15.out).sh (by have := HI2.out.sw; omega)).mono ?_
                    rintro e y29 ⟨rfl, hE⟩
                    have X29 := Lib.hid (show Ext Wr y29 from Ext.trans X15.out hE)
                    clear hE
                    go_wp2_with fail
                    refine ⟨X29.out, ?_⟩
                    try dsimp only [List.eraseIdx]
                    refine segE_alt _ rfl ?_ ?_
                    · skip
                      go_wp2_with fail
                      refine (rWay _ _ w.heap.size te2.toL Wy2 (F k).2.1 _ (HT.out.ext X29.out).x.l (HT.out.ext X29.out).x.y (by have := HI2.out.wlen (by omega); omega)).mono ?_
                      rw [HI2.out.ways]
                      rintro e y32 ⟨rfl, hE⟩
                      have X32 := Lib.hid (show Ext Wr y32 from Ext.trans X29.out hE)
                      clear hE
                      go_wp2_with fail
                      refine ⟨X32.out, ?_⟩
                      try dsimp only [List.eraseIdx]
                      apply segE_quiet
                      · intro W hW
                        have hq0 : ∀ i, W.cell? ⟨Bx, i, none⟩ = (#[.slice a8 te2.toL.length c8, .slice a9 Wy2.length c9] : Array Value)[i]? := fun i => (HT.out.bx.ext hW).cells i
                        have hq2 : ∀ i, W.cell? ⟨w5.heap.size, i, none⟩ = (#[.int .u64 0, .int .i64 0, .int .i64 0, .int .i64 0, .int .i64 0, .int .i64 0] : Array Value)[i]? := fun i => (HB1.out.ext hW).cells i
                        have hq3 : ∀ i, W.cell? ⟨w7.heap.size, i, none⟩ = (#[.int .u64 0, .int .u64 0, .int .i64 0, .int .i64 0, .int .i64 0, .int .i64 0, .int .i64 0] : Array Value)[i]? := fun i => (HB2.out.ext hW).cells i
                        have hq4 : ∀ i, W.cell? ⟨w9.heap.size, i, none⟩ = (#[.int .u64 0, .int .i64 0, .int .i64 0, .int .i64 0, .int .i64 0, .int .i64 0] : Array Value)[i]? := fun i => (HB3.out.ext hW).cells i
                        have hq5 : ∀ i, W.cell? ⟨w11.heap.size, i, none⟩ = (#[.int .u64 0, .int .u64 0, .int .i64 0, .int .i64 0, .int .i64 0, .int .i64 0, .int .i64 0] : Array Value)[i]? := fun i => (HB4.out.ext hW).cells i
                        simp only [runsT, runsF, rep, pick]
                        repeat (first | go_values | go_skip | go_guarded | go_step)
                        exact ⟨rfl, rfl⟩
                      simp only [runsT, runsF, rep, left]
                      apply segE_done
                      go_wp2_with fail
                      go_roundg (len - (k + 1))
                      case measure => omega
                      case rel => exact ⟨k + 1, _, _, _, _, _, by go_num, by omega, HT.out.ext X32.out, HI2.out.mono (by omega), Nat.le_refl _⟩
                    exact segE_stop
                  exact segE_stop
                exact segE_stop
              exact segE_stop
            exact segE_stop
          · have HG := Lib.hid hg
            have HCU := Lib.hid hc
            clear hg hc
            go_wp2_with fail
            have HT := Lib.hid HS3.out
            clear x0 x1 x2 x3 x4 x5 x6 x7
            obtain ⟨W4, hW⟩ : ∃ W, W3.alloc (.cells #[.int .u64 (F k).2.1, .int .u64 (F k).2.2.1] 39) = W := ⟨_, rfl⟩
            have hE : Ext W3 W4 := by rw [← hW]; exact (Below.refl _ _).alloc (Nat.le_refl _) _
            have HP := Lib.hid (show Blk W4 W3.heap.size #[.int .u64 (F k).2.1, .int .u64 (F k).2.2.1] 39 from by rw [← hW]; exact Blk.new _ _ _)
            rw [hW]
            have HT := Lib.hid (HT.out.ext hE)
            clear hW hE
            refine (ShI.Look_some b te2 tw2 (F k).2.1 v _ HT.out.sh (by have := HI2.out.se; omega) HG.out).mono ?_
            rintro e w5 ⟨rfl, hE⟩
            have hst := Go.run_storeCells_new (P := Try.prog) w5 41 #[.int .u64 0, .int .i64 0, .int .i64 0, .int .i64 0, .int .i64 0, .int .i64 0] #[.int .u64 v.1, .int .i64 v.2.1, .int .i64 v.2.2.1, .int .i64 v.2.2.2.1, .int .i64 v.2.2.2.2.1, .int .i64 v.2.2.2.2.2] (by kernel_rfl) rfl (by simp [Value.oneCell'])
            have HT := Lib.hid (HT.out.ext hE)
            have HP := Lib.hid (HP.out.ext hE)
            clear hE
            have hbx : ∀ i, w5.cell? ⟨Bx, i, none⟩ = (#[.slice a8 te2.toL.length c8, .slice a9 Wy2.length c9] : Array Value)[i]? := fun i => HT.out.bx.cells i
            have lbx := HT.out.bx.lt
            have hb0 : ∀ i, w5.cell? ⟨W3.heap.size, i, none⟩ = (#[.int .u64 (F k).2.1, .int .u64 (F k).2.2.1] : Array Value)[i]? := fun i => HP.out.cells i
            have lb0 := HP.out.lt
            go_wp2_with fail
            clear hst
            clear hbx lbx hb0 lb0
            obtain ⟨W6, hW⟩ : ∃ W, w5.alloc (.cells #[.int .u64 v.1, .int .i64 v.2.1, .int .i64 v.2.2.1, .int .i64 v.2.2.2.1, .int .i64 v.2.2.2.2.1, .int .i64 v.2.2.2.2.2] 41) = W := ⟨_, rfl⟩
            have hE : Ext w5 W6 := by rw [← hW]; exact (Below.refl _ _).alloc (Nat.le_refl _) _
            have HB1 := Lib.hid (show Blk W6 w5.heap.size #[.int .u64 v.1, .int .i64 v.2.1, .int .i64 v.2.2.1, .int .i64 v.2.2.2.1, .int .i64 v.2.2.2.2.1, .int .i64 v.2.2.2.2.2] 41 from by rw [← hW]; exact Blk.new _ _ _)
            rw [hW]
            have HT := Lib.hid (HT.out.ext hE)
            have HP := Lib.hid (HP.out.ext hE)
            clear hW hE
            refine (rLook_yes _ _ w.heap.size (F k).2.1 v _ HT.out.x HI2.out (by omega) HG.out).mono ?_
            rintro e w7 ⟨rfl, hE⟩
            have hst := Go.run_storeCells_new (P := Try.prog) w7 35 #[.int .u64 0, .int .u64 0, .int .i64 0, .int .i64 0, .int .i64 0, .int .i64 0, .int .i64 0] #[.int .u64 (F k).2.1, .int .u64 v.1, .int .i64 v.2.1, .int .i64 v.2.2.1, .int .i64 v.2.2.2.1, .int .i64 v.2.2.2.2.1, .int .i64 v.2.2.2.2.2] (by kernel_rfl) rfl (by simp [Value.oneCell'])
            have HT := Lib.hid (HT.out.ext hE)
            have HP := Lib.hid (HP.out.ext hE)
            have HB1 := Lib.hid (HB1.out.ext hE)
            clear hE
            have hbx : ∀ i, w7.cell? ⟨Bx, i, none⟩ = (#[.slice a8 te2.toL.length c8, .slice a9 Wy2.length c9] : Array Value)[i]? := fun i => HT.out.bx.cells i
            have lbx := HT.out.bx.lt
            have hb0 : ∀ i, w7.cell? ⟨W3.heap.size, i, none⟩ = (#[.int .u64 (F k).2.1, .int .u64 (F k).2.2.1] : Array Value)[i]? := fun i => HP.out.cells i
            have lb0 := HP.out.lt
            have hb1 : ∀ i, w7.cell? ⟨w5.heap.size, i, none⟩ = (#[.int .u64 v.1, .int .i64 v.2.1, .int .i64 v.2.2.1, .int .i64 v.2.2.2.1, .int .i64 v.2.2.2.2.1, .int .i64 v.2.2.2.2.2] : Array Value)[i]? := fun i => HB1.out.cells i
            have lb1 := HB1.out.lt
            go_wp2_with fail
            clear hst
            clear hbx lbx hb0 lb0 hb1 lb1
            obtain ⟨W8, hW⟩ : ∃ W, w7.alloc (.cells #[.int .u64 (F k).2.1, .int .u64 v.1, .int .i64 v.2.1, .int .i64 v.2.2.1, .int .i64 v.2.2.2.1, .int .i64 v.2.2.2.2.1, .int .i64 v.2.2.2.2.2] 35) = W := ⟨_, rfl⟩
            have hE : Ext w7 W8 := by rw [← hW]; exact (Below.refl _ _).alloc (Nat.le_refl _) _
            have HB2 := Lib.hid (show Blk W8 w7.heap.size #[.int .u64 (F k).2.1, .int .u64 v.1, .int .i64 v.2.1, .int .i64 v.2.2.1, .int .i64 v.2.2.2.1, .int .i64 v.2.2.2.2.1, .int .i64 v.2.2.2.2.2] 35 from by rw [← hW]; exact Blk.new _ _ _)
            rw [hW]
            have HT := Lib.hid (HT.out.ext hE)
            have HP := Lib.hid (HP.out.ext hE)
            have HB1 := Lib.hid (HB1.out.ext hE)
            clear hW hE
            refine (uFind_no b (F k).2.1 (F k).2.2.1 _ HT.out.sh HI2.out (by omega) HCU.out).mono ?_
            rintro e w9 ⟨rfl, hE⟩
            have hst := Go.run_storeCells_new (P := Try.prog) w9 41 #[.int .u64 0, .int .i64 0, .int .i64 0, .int .i64 0, .int .i64 0, .int .i64 0] #[.int .u64 0, .int .i64 0, .int .i64 0, .int .i64 0, .int .i64 0, .int .i64 0] (by kernel_rfl) rfl (by simp [Value.oneCell'])
            have HT := Lib.hid (HT.out.ext hE)
            have HP := Lib.hid (HP.out.ext hE)
            have HB1 := Lib.hid (HB1.out.ext hE)
            have HB2 := Lib.hid (HB2.out.ext hE)
            clear hE
            have hbx : ∀ i, w9.cell? ⟨Bx, i, none⟩ = (#[.slice a8 te2.toL.length c8, .slice a9 Wy2.length c9] : Array Value)[i]? := fun i => HT.out.bx.cells i
            have lbx := HT.out.bx.lt
            have hb0 : ∀ i, w9.cell? ⟨W3.heap.size, i, none⟩ = (#[.int .u64 (F k).2.1, .int .u64 (F k).2.2.1] : Array Value)[i]? := fun i => HP.out.cells i
            have lb0 := HP.out.lt
            have hb1 : ∀ i, w9.cell? ⟨w5.heap.size, i, none⟩ = (#[.int .u64 v.1, .int .i64 v.2.1, .int .i64 v.2.2.1, .int .i64 v.2.2.2.1, .int .i64 v.2.2.2.2.1, .int .i64 v.2.2.2.2.2] : Array Value)[i]? := fun i => HB1.out.cells i
            have lb1 := HB1.out.lt
            have hb2 : ∀ i, w9.cell? ⟨w7.heap.size, i, none⟩ = (#[.int .u64 (F k).2.1, .int .u64 v.1, .int .i64 v.2.1, .int .i64 v.2.2.1, .int .i64 v.2.2.2.1, .int .i64 v.2.2.2.2.1, .int .i64 v.2.2.2.2.2] : Array Value)[i]? := fun i => HB2.out.cells i
            have lb2 := HB2.out.lt
            go_wp2_with fail
            clear hst
            clear hbx lbx hb0 lb0 hb1 lb1 hb2 lb2
            obtain ⟨W10, hW⟩ : ∃ W, w9.alloc (.cells #[.int .u64 0, .int .i64 0, .int .i64 0, .int .i64 0, .int .i64 0, .int .i64 0] 41) = W := ⟨_, rfl⟩
            have hE : Ext w9 W10 := by rw [← hW]; exact (Below.refl _ _).alloc (Nat.le_refl _) _
            have HB3 := Lib.hid (show Blk W10 w9.heap.size #[.int .u64 0, .int .i64 0, .int .i64 0, .int .i64 0, .int .i64 0, .int .i64 0] 41 from by rw [← hW]; exact Blk.new _ _ _)
            rw [hW]
            have HT := Lib.hid (HT.out.ext hE)
            have HP := Lib.hid (HP.out.ext hE)
            have HB1 := Lib.hid (HB1.out.ext hE)
            have HB2 := Lib.hid (HB2.out.ext hE)
            clear hW hE
            refine (rFind_no _ _ w.heap.size (F k).2.1 (F k).2.2.1 _ HT.out.x HI2.out (by omega) HCU.out).mono ?_
            rintro e w11 ⟨rfl, hE⟩
            have hst := Go.run_storeCells_new (P := Try.prog) w11 35 #[.int .u64 0, .int .u64 0, .int .i64 0, .int .i64 0, .int .i64 0, .int .i64 0, .int .i64 0] #[.int .u64 0, .int .u64 0, .int .i64 0, .int .i64 0, .int .i64 0, .int .i64 0, .int .i64 0] (by kernel_rfl) rfl (by simp [Value.oneCell'])
            have HT := Lib.hid (HT.out.ext hE)
            have HP := Lib.hid (HP.out.ext hE)
            have HB1 := Lib.hid (HB1.out.ext hE)
            have HB2 := Lib.hid (HB2.out.ext hE)
            have HB3 := Lib.hid (HB3.out.ext hE)
            clear hE
            have hbx : ∀ i, w11.cell? ⟨Bx, i, none⟩ = (#[.slice a8 te2.toL.length c8, .slice a9 Wy2.length c9] : Array Value)[i]? := fun i => HT.out.bx.cells i
            have lbx := HT.out.bx.lt
            have hb0 : ∀ i, w11.cell? ⟨W3.heap.size, i, none⟩ = (#[.int .u64 (F k).2.1, .int .u64 (F k).2.2.1] : Array Value)[i]? := fun i => HP.out.cells i
            have lb0 := HP.out.lt
            have hb1 : ∀ i, w11.cell? ⟨w5.heap.size, i, none⟩ = (#[.int .u64 v.1, .int .i64 v.2.1, .int .i64 v.2.2.1, .int .i64 v.2.2.2.1, .int .i64 v.2.2.2.2.1, .int .i64 v.2.2.2.2.2] : Array Value)[i]? := fun i => HB1.out.cells i
            have lb1 := HB1.out.lt
            have hb2 : ∀ i, w11.cell? ⟨w7.heap.size, i, none⟩ = (#[.int .u64 (F k).2.1, .int .u64 v.1, .int .i64 v.2.1, .int .i64 v.2.2.1, .int .i64 v.2.2.2.1, .int .i64 v.2.2.2.2.1, .int .i64 v.2.2.2.2.2] : Array Value)[i]? := fun i => HB2.out.cells i
            have lb2 := HB2.out.lt
            have hb3 : ∀ i, w11.cell? ⟨w9.heap.size, i, none⟩ = (#[.int .u64 0, .int .i64 0, .int .i64 0, .int .i64 0, .int .i64 0, .int .i64 0] : Array Value)[i]? := fun i => HB3.out.cells i
            have lb3 := HB3.out.lt
            go_wp2_with fail
            clear hst
            clear hbx lbx hb0 lb0 hb1 lb1 hb2 lb2 hb3 lb3
            obtain ⟨Wr, hW⟩ : ∃ W, w11.alloc (.cells #[.int .u64 0, .int .u64 0, .int .i64 0, .int .i64 0, .int .i64 0, .int .i64 0, .int .i64 0] 35) = W := ⟨_, rfl⟩
            have hE : Ext w11 Wr := by rw [← hW]; exact (Below.refl _ _).alloc (Nat.le_refl _) _
            have HB4 := Lib.hid (show Blk Wr w11.heap.size #[.int .u64 0, .int .u64 0, .int .i64 0, .int .i64 0, .int .i64 0, .int .i64 0, .int .i64 0] 35 from by rw [← hW]; exact Blk.new _ _ _)
            rw [hW]
            have HT := Lib.hid (HT.out.ext hE)
            have HP := Lib.hid (HP.out.ext hE)
            have HB1 := Lib.hid (HB1.out.ext hE)
            have HB2 := Lib.hid (HB2.out.ext hE)
            have HB3 := Lib.hid (HB3.out.ext hE)
            clear hW hE
            have hf1 := field1
            have n1 : (te2.sz != (te2.toL.length : Int)) = false := by rw [T.sz_toL]; simp
            have n2 : ((ShI.wayOf tw2 (F k).2.1).1 != (ShI.wayOf tw2 (F k).2.1).1) = false := by simp
            refine wp_region_segsE (Ext Wr) (.quiet [7, 29] (.alt 0 (.quiet [7, 21] (.alt 0 (.quiet [4, 1, 3, 12] (.alt 0 (.quiet [5, 1, 2, 4] (.alt 0 (.alt 0 (.quiet [3] .done) .stop) .stop)) .stop)) .stop)) .stop)) (by kernel_rfl) (by kernel_rfl) (Ext.drew Wr) ?_
            apply segE_quiet
            · intro W hW
              have hq0 : ∀ i, W.cell? ⟨Bx, i, none⟩ = (#[.slice a8 te2.toL.length c8, .slice a9 Wy2.length c9] : Array Value)[i]? := fun i => (HT.out.bx.ext hW).cells i
              have hq2 : ∀ i, W.cell? ⟨w5.heap.size, i, none⟩ = (#[.int .u64 v.1, .int .i64 v.2.1, .int .i64 v.2.2.1, .int .i64 v.2.2.2.1, .int .i64 v.2.2.2.2.1, .int .i64 v.2.2.2.2.2] : Array Value)[i]? := fun i => (HB1.out.ext hW).cells i
              have hq3 : ∀ i, W.cell? ⟨w7.heap.size, i, none⟩ = (#[.int .u64 (F k).2.1, .int .u64 v.1, .int .i64 v.2.1, .int .i64 v.2.2.1, .int .i64 v.2.2.2.1, .int .i64 v.2.2.2.2.1, .int .i64 v.2.2.2.2.2] : Array Value)[i]? := fun i => (HB2.out.ext hW).cells i
              have hq4 : ∀ i, W.cell? ⟨w9.heap.size, i, none⟩ = (#[.int .u64 0, .int .i64 0, .int .i64 0, .int .i64 0, .int .i64 0, .int .i64 0] : Array Value)[i]? := fun i => (HB3.out.ext hW).cells i
              have hq5 : ∀ i, W.cell? ⟨w11.heap.size, i, none⟩ = (#[.int .u64 0, .int .u64 0, .int .i64 0, .int .i64 0, .int .i64 0, .int .i64 0, .int .i64 0] : Array Value)[i]? := fun i => (HB4.out.ext hW).cells i
              simp only [runsT, runsF, rep, pick]
              repeat (first | go_values | go_skip | go_guarded | go_step)
              exact ⟨rfl, rfl⟩
            simp only [runsT, runsF, rep, left]
            refine segE_alt _ rfl ?_ ?_
            · skip
              go_wp2_with fail
              refine (same_yes (F k).2.1 v _).mono ?_
              rintro e y7 ⟨rfl, hE⟩
              have X7 := Lib.hid (show Ext Wr y7 from Ext.trans (Ext.drew Wr) hE)
              clear hE
              go_wp2_with fail
              refine ⟨X7.out, ?_⟩
              try dsimp only [List.eraseIdx]
              apply segE_quiet
              · intro W hW
                have hq0 : ∀ i, W.cell? ⟨Bx, i, none⟩ = (#[.slice a8 te2.toL.length c8, .slice a9 Wy2.length c9] : Array Value)[i]? := fun i => (HT.out.bx.ext hW).cells i
                have hq2 : ∀ i, W.cell? ⟨w5.heap.size, i, none⟩ = (#[.int .u64 v.1, .int .i64 v.2.1, .int .i64 v.2.2.1, .int .i64 v.2.2.2.1, .int .i64 v.2.2.2.2.1, .int .i64 v.2.2.2.2.2] : Array Value)[i]? := fun i => (HB1.out.ext hW).cells i
                have hq3 : ∀ i, W.cell? ⟨w7.heap.size, i, none⟩ = (#[.int .u64 (F k).2.1, .int .u64 v.1, .int .i64 v.2.1, .int .i64 v.2.2.1, .int .i64 v.2.2.2.1, .int .i64 v.2.2.2.2.1, .int .i64 v.2.2.2.2.2] : Array Value)[i]? := fun i => (HB2.out.ext hW).cells i
                have hq4 : ∀ i, W.cell? ⟨w9.heap.size, i, none⟩ = (#[.int .u64 0, .int .i64 0, .int .i64 0, .int .i64 0, .int .i64 0, .int .i64 0] : Array Value)[i]? := fun i => (HB3.out.ext hW).cells i
                have hq5 : ∀ i, W.cell? ⟨w11.heap.size, i, none⟩ = (#[.int .u64 0, .int .u64 0, .int .i64 0, .int .i64 0, .int .i64 0, .int .i64 0, .int .i64 0] : Array Value)[i]? := fun i => (HB4.out.ext hW).cells i
                simp only [runsT, runsF, rep, pick]
                repeat (first | go_values | go_skip | go_guarded | go_step)
                exact ⟨rfl, rfl⟩
              simp only [runsT, runsF, rep, left]
              refine segE_alt _ rfl ?_ ?_
              · skip
                go_wp2_with fail
                refine (same_z _).mono ?_
                rintro e y15 ⟨rfl, hE⟩
                have X15 := Lib.hid (show Ext Wr y15 from Ext.trans X7.out hE)
                clear hE
                go_wp2_with fail
                refine ⟨X15.out, ?_⟩
                try dsimp only [List.eraseIdx]
                apply segE_quiet
                · intro W hW
                  have hq0 : ∀ i, W.cell? ⟨Bx, i, none⟩ = (#[.slice a8 te2.toL.length c8, .slice a9 Wy2.length c9] : Array Value)[i]? := fun i => (HT.out.bx.ext hW).cells i
                  have hq2 : ∀ i, W.cell? ⟨w5.heap.size, i, none⟩ = (#[.int .u64 v.1, .int .i64 v.2.1, .int .i64 v.2.2.1, .int .i64 v.2.2.2.1, .int .i64 v.2.2.2.2.1, .int .i64 v.2.2.2.2.2] : Array Value)[i]? := fun i => (HB1.out.ext hW).cells i
                  have hq3 : ∀ i, W.cell? ⟨w7.heap.size, i, none⟩ = (#[.int .u64 (F k).2.1, .int .u64 v.1, .int .i64 v.2.1, .int .i64 v.2.2.1, .int .i64 v.2.2.2.1, .int .i64 v.2.2.2.2.1, .int .i64 v.2.2.2.2.2] : Array Value)[i]? := fun i => (HB2.out.ext hW).cells i
                  have hq4 : ∀ i, W.cell? ⟨w9.heap.size, i, none⟩ = (#[.int .u64 0, .int .i64 0, .int .i64 0, .int .i64 0, .int .i64 0, .int .i64 0] : Array Value)[i]? := fun i => (HB3.out.ext hW).cells i
                  have hq5 : ∀ i, W.cell? ⟨w11.heap.size, i, none⟩ = (#[.int .u64 0, .int .u64 0, .int .i64 0, .int .i64 0, .int .i64 0, .int .i64 0, .int .i64 0] : Array Value)[i]? := fun i => (HB4.out.ext hW).cells i
                  simp only [runsT, runsF, rep, pick]
                  repeat (first | go_values | go_skip | go_guarded | go_step)
                  exact ⟨rfl, rfl⟩
                simp only [runsT, runsF, rep, left]
                refine segE_alt _ rfl ?_ ?_
                · skip
                  go_wp2_with fail
                  refine (ShI.SLen_any b te2 tw2 _ (HT.out.ext X15.out).sh).mono ?_
                  rintro e y20 ⟨rfl, rfl⟩
                  go_wp2_with fail
                  refine ⟨X15.out, ?_⟩
                  try dsimp only [List.eraseIdx]
                  apply segE_quiet
                  · intro W hW
                    have hq0 : ∀ i, W.cell? ⟨Bx, i, none⟩ = (#[.slice a8 te2.toL.length c8, .slice a9 Wy2.length c9] : Array Value)[i]? := fun i => (HT.out.bx.ext hW).cells i
                    have hq2 : ∀ i, W.cell? ⟨w5.heap.size, i, none⟩ = (#[.int .u64 v.1, .int .i64 v.2.1, .int .i64 v.2.2.1, .int .i64 v.2.2.2.1, .int .i64 v.2.2.2.2.1, .int .i64 v.2.2.2.2.2] : Array Value)[i]? := fun i => (HB1.out.ext hW).cells i
                    have hq3 : ∀ i, W.cell? ⟨w7.heap.size, i, none⟩ = (#[.int .u64 (F k).2.1, .int .u64 v.1, .int .i64 v.2.1, .int .i64 v.2.2.1, .int .i64 v.2.2.2.1, .int .i64 v.2.2.2.2.1, .int .i64 v.2.2.2.2.2] : Array Value)[i]? := fun i => (HB2.out.ext hW).cells i
                    have hq4 : ∀ i, W.cell? ⟨w9.heap.size, i, none⟩ = (#[.int .u64 0, .int .i64 0, .int .i64 0, .int .i64 0, .int .i64 0, .int .i64 0] : Array Value)[i]? := fun i => (HB3.out.ext hW).cells i
                    have hq5 : ∀ i, W.cell? ⟨w11.heap.size, i, none⟩ = (#[.int .u64 0, .int .u64 0, .int .i64 0, .int .i64 0, .int .i64 0, .int .i64 0, .int .i64 0] : Array Value)[i]? := fun i => (HB4.out.ext hW).cells i
                    simp only [runsT, runsF, rep, pick]
                    repeat (first | go_values | go_skip | go_guarded | go_step)
                    exact ⟨rfl, rfl⟩
                  simp only [runsT, runsF, rep, left]
                  refine segE_alt _ rfl ?_ ?_
                  · skip
                    go_wp2_with fail
                    refine (ShI.Pending_any b te2 tw2 (F k).2.1 _ (HT.out.ext X15.out).sh (by have := HI2.out.sw; omega)).mono ?_
                    rintro e y29 ⟨rfl, hE⟩
                    have X29 := Lib.hid (show Ext Wr y29 from Ext.trans X15.out hE)
                    clear hE
                    go_wp2_with fail
                    refine ⟨X29.out, ?_⟩
                    try dsimp only [List.eraseIdx]
                    refine segE_alt _ rfl ?_ ?_
                    · skip
                      go_wp2_with fail
                      refine (rWay _ _ w.heap.size te2.toL Wy2 (F k).2.1 _ (HT.out.ext X29.out).x.l (HT.out.ext X29.out).x.y (by have := HI2.out.wlen (by omega); omega)).mono ?_
                      rw [HI2.out.ways]
                      rintro e y32 ⟨rfl, hE⟩
                      have X32 := Lib.hid (show Ext Wr y32 from Ext.trans X29.out hE)
                      clear hE
                      go_wp2_with fail
                      refine ⟨X32.out, ?_⟩
                      try dsimp only [List.eraseIdx]
                      apply segE_quiet
                      · intro W hW
                        have hq0 : ∀ i, W.cell? ⟨Bx, i, none⟩ = (#[.slice a8 te2.toL.length c8, .slice a9 Wy2.length c9] : Array Value)[i]? := fun i => (HT.out.bx.ext hW).cells i
                        have hq2 : ∀ i, W.cell? ⟨w5.heap.size, i, none⟩ = (#[.int .u64 v.1, .int .i64 v.2.1, .int .i64 v.2.2.1, .int .i64 v.2.2.2.1, .int .i64 v.2.2.2.2.1, .int .i64 v.2.2.2.2.2] : Array Value)[i]? := fun i => (HB1.out.ext hW).cells i
                        have hq3 : ∀ i, W.cell? ⟨w7.heap.size, i, none⟩ = (#[.int .u64 (F k).2.1, .int .u64 v.1, .int .i64 v.2.1, .int .i64 v.2.2.1, .int .i64 v.2.2.2.1, .int .i64 v.2.2.2.2.1, .int .i64 v.2.2.2.2.2] : Array Value)[i]? := fun i => (HB2.out.ext hW).cells i
                        have hq4 : ∀ i, W.cell? ⟨w9.heap.size, i, none⟩ = (#[.int .u64 0, .int .i64 0, .int .i64 0, .int .i64 0, .int .i64 0, .int .i64 0] : Array Value)[i]? := fun i => (HB3.out.ext hW).cells i
                        have hq5 : ∀ i, W.cell? ⟨w11.heap.size, i, none⟩ = (#[.int .u64 0, .int .u64 0, .int .i64 0, .int .i64 0, .int .i64 0, .int .i64 0, .int .i64 0] : Array Value)[i]? := fun i => (HB4.out.ext hW).cells i
                        simp only [runsT, runsF, rep, pick]
                        repeat (first | go_values | go_skip | go_guarded | go_step)
                        exact ⟨rfl, rfl⟩
                      simp only [runsT, runsF, rep, left]
                      apply segE_done
                      go_wp2_with fail
                      go_roundg (len - (k + 1))
                      case measure => omega
                      case rel => exact ⟨k + 1, _, _, _, _, _, by go_num, by omega, HT.out.ext X32.out, HI2.out.mono (by omega), Nat.le_refl _⟩
                    exact segE_stop
                  exact segE_stop
                exact segE_stop
              exact segE_stop
            exact segE_stop
          · have HG := Lib.hid hg
            have HCU := Lib.hid hc
            clear hg hc
            go_wp2_with fail
            have HT := Lib.hid HS3.out
            clear x0 x1 x2 x3 x4 x5 x6 x7
            obtain ⟨W4, hW⟩ : ∃ W, W3.alloc (.cells #[.int .u64 (F k).2.1, .int .u64 (F k).2.2.1] 39) = W := ⟨_, rfl⟩
            have hE : Ext W3 W4 := by rw [← hW]; exact (Below.refl _ _).alloc (Nat.le_refl _) _
            have HP := Lib.hid (show Blk W4 W3.heap.size #[.int .u64 (F k).2.1, .int .u64 (F k).2.2.1] 39 from by rw [← hW]; exact Blk.new _ _ _)
            rw [hW]
            have HT := Lib.hid (HT.out.ext hE)
            clear hW hE
            refine (ShI.Look_some b te2 tw2 (F k).2.1 v _ HT.out.sh (by have := HI2.out.se; omega) HG.out).mono ?_
            rintro e w5 ⟨rfl, hE⟩
            have hst := Go.run_storeCells_new (P := Try.prog) w5 41 #[.int .u64 0, .int .i64 0, .int .i64 0, .int .i64 0, .int .i64 0, .int .i64 0] #[.int .u64 v.1, .int .i64 v.2.1, .int .i64 v.2.2.1, .int .i64 v.2.2.2.1, .int .i64 v.2.2.2.2.1, .int .i64 v.2.2.2.2.2] (by kernel_rfl) rfl (by simp [Value.oneCell'])
            have HT := Lib.hid (HT.out.ext hE)
            have HP := Lib.hid (HP.out.ext hE)
            clear hE
            have hbx : ∀ i, w5.cell? ⟨Bx, i, none⟩ = (#[.slice a8 te2.toL.length c8, .slice a9 Wy2.length c9] : Array Value)[i]? := fun i => HT.out.bx.cells i
            have lbx := HT.out.bx.lt
            have hb0 : ∀ i, w5.cell? ⟨W3.heap.size, i, none⟩ = (#[.int .u64 (F k).2.1, .int .u64 (F k).2.2.1] : Array Value)[i]? := fun i => HP.out.cells i
            have lb0 := HP.out.lt
            go_wp2_with fail
            clear hst
            clear hbx lbx hb0 lb0
            obtain ⟨W6, hW⟩ : ∃ W, w5.alloc (.cells #[.int .u64 v.1, .int .i64 v.2.1, .int .i64 v.2.2.1, .int .i64 v.2.2.2.1, .int .i64 v.2.2.2.2.1, .int .i64 v.2.2.2.2.2] 41) = W := ⟨_, rfl⟩
            have hE : Ext w5 W6 := by rw [← hW]; exact (Below.refl _ _).alloc (Nat.le_refl _) _
            have HB1 := Lib.hid (show Blk W6 w5.heap.size #[.int .u64 v.1, .int .i64 v.2.1, .int .i64 v.2.2.1, .int .i64 v.2.2.2.1, .int .i64 v.2.2.2.2.1, .int .i64 v.2.2.2.2.2] 41 from by rw [← hW]; exact Blk.new _ _ _)
            rw [hW]
            have HT := Lib.hid (HT.out.ext hE)
            have HP := Lib.hid (HP.out.ext hE)
            clear hW hE
            refine (rLook_yes _ _ w.heap.size (F k).2.1 v _ HT.out.x HI2.out (by omega) HG.out).mono ?_
            rintro e w7 ⟨rfl, hE⟩
            have hst := Go.run_storeCells_new (P := Try.prog) w7 35 #[.int .u64 0, .int .u64 0, .int .i64 0, .int .i64 0, .int .i64 0, .int .i64 0, .int .i64 0] #[.int .u64 (F k).2.1, .int .u64 v.1, .int .i64 v.2.1, .int .i64 v.2.2.1, .int .i64 v.2.2.2.1, .int .i64 v.2.2.2.2.1, .int .i64 v.2.2.2.2.2] (by kernel_rfl) rfl (by simp [Value.oneCell'])
            have HT := Lib.hid (HT.out.ext hE)
            have HP := Lib.hid (HP.out.ext hE)
            have HB1 := Lib.hid (HB1.out.ext hE)
            clear hE
            have hbx : ∀ i, w7.cell? ⟨Bx, i, none⟩ = (#[.slice a8 te2.toL.length c8, .slice a9 Wy2.length c9] : Array Value)[i]? := fun i => HT.out.bx.cells i
            have lbx := HT.out.bx.lt
            have hb0 : ∀ i, w7.cell? ⟨W3.heap.size, i, none⟩ = (#[.int .u64 (F k).2.1, .int .u64 (F k).2.2.1] : Array Value)[i]? := fun i => HP.out.cells i
            have lb0 := HP.out.lt
            have hb1 : ∀ i, w7.cell? ⟨w5.heap.size, i, none⟩ = (#[.int .u64 v.1, .int .i64 v.2.1, .int .i64 v.2.2.1, .int .i64 v.2.2.2.1, .int .i64 v.2.2.2.2.1, .int .i64 v.2.2.2.2.2] : Array Value)[i]? := fun i => HB1.out.cells i
            have lb1 := HB1.out.lt
            go_wp2_with fail
            clear hst
            clear hbx lbx hb0 lb0 hb1 lb1
            obtain ⟨W8, hW⟩ : ∃ W, w7.alloc (.cells #[.int .u64 (F k).2.1, .int .u64 v.1, .int .i64 v.2.1, .int .i64 v.2.2.1, .int .i64 v.2.2.2.1, .int .i64 v.2.2.2.2.1, .int .i64 v.2.2.2.2.2] 35) = W := ⟨_, rfl⟩
            have hE : Ext w7 W8 := by rw [← hW]; exact (Below.refl _ _).alloc (Nat.le_refl _) _
            have HB2 := Lib.hid (show Blk W8 w7.heap.size #[.int .u64 (F k).2.1, .int .u64 v.1, .int .i64 v.2.1, .int .i64 v.2.2.1, .int .i64 v.2.2.2.1, .int .i64 v.2.2.2.2.1, .int .i64 v.2.2.2.2.2] 35 from by rw [← hW]; exact Blk.new _ _ _)
            rw [hW]
            have HT := Lib.hid (HT.out.ext hE)
            have HP := Lib.hid (HP.out.ext hE)
            have HB1 := Lib.hid (HB1.out.ext hE)
            clear hW hE
            refine (uFind_yes b (F k).2.1 (F k).2.2.1 v _ HT.out.sh HI2.out (by omega) HCU.out).mono ?_
            rintro e w9 ⟨rfl, hE⟩
            have hst := Go.run_storeCells_new (P := Try.prog) w9 41 #[.int .u64 0, .int .i64 0, .int .i64 0, .int .i64 0, .int .i64 0, .int .i64 0] #[.int .u64 v.1, .int .i64 v.2.1, .int .i64 v.2.2.1, .int .i64 v.2.2.2.1, .int .i64 v.2.2.2.2.1, .int .i64 v.2.2.2.2.2] (by kernel_rfl) rfl (by simp [Value.oneCell'])
            have HT := Lib.hid (HT.out.ext hE)
            have HP := Lib.hid (HP.out.ext hE)
            have HB1 := Lib.hid (HB1.out.ext hE)
            have HB2 := Lib.hid (HB2.out.ext hE)
            clear hE
            have hbx : ∀ i, w9.cell? ⟨Bx, i, none⟩ = (#[.slice a8 te2.toL.length c8, .slice a9 Wy2.length c9] : Array Value)[i]? := fun i => HT.out.bx.cells i
            have lbx := HT.out.bx.lt
            have hb0 : ∀ i, w9.cell? ⟨W3.heap.size, i, none⟩ = (#[.int .u64 (F k).2.1, .int .u64 (F k).2.2.1] : Array Value)[i]? := fun i => HP.out.cells i
            have lb0 := HP.out.lt
            have hb1 : ∀ i, w9.cell? ⟨w5.heap.size, i, none⟩ = (#[.int .u64 v.1, .int .i64 v.2.1, .int .i64 v.2.2.1, .int .i64 v.2.2.2.1, .int .i64 v.2.2.2.2.1, .int .i64 v.2.2.2.2.2] : Array Value)[i]? := fun i => HB1.out.cells i
            have lb1 := HB1.out.lt
            have hb2 : ∀ i, w9.cell? ⟨w7.heap.size, i, none⟩ = (#[.int .u64 (F k).2.1, .int .u64 v.1, .int .i64 v.2.1, .int .i64 v.2.2.1, .int .i64 v.2.2.2.1, .int .i64 v.2.2.2.2.1, .int .i64 v.2.2.2.2.2] : Array Value)[i]? := fun i => HB2.out.cells i
            have lb2 := HB2.out.lt
            go_wp2_with fail
            clear hst
            clear hbx lbx hb0 lb0 hb1 lb1 hb2 lb2
            obtain ⟨W10, hW⟩ : ∃ W, w9.alloc (.cells #[.int .u64 v.1, .int .i64 v.2.1, .int .i64 v.2.2.1, .int .i64 v.2.2.2.1, .int .i64 v.2.2.2.2.1, .int .i64 v.2.2.2.2.2] 41) = W := ⟨_, rfl⟩
            have hE : Ext w9 W10 := by rw [← hW]; exact (Below.refl _ _).alloc (Nat.le_refl _) _
            have HB3 := Lib.hid (show Blk W10 w9.heap.size #[.int .u64 v.1, .int .i64 v.2.1, .int .i64 v.2.2.1, .int .i64 v.2.2.2.1, .int .i64 v.2.2.2.2.1, .int .i64 v.2.2.2.2.2] 41 from by rw [← hW]; exact Blk.new _ _ _)
            rw [hW]
            have HT := Lib.hid (HT.out.ext hE)
            have HP := Lib.hid (HP.out.ext hE)
            have HB1 := Lib.hid (HB1.out.ext hE)
            have HB2 := Lib.hid (HB2.out.ext hE)
            clear hW hE
            refine (rFind_yes _ _ w.heap.size (F k).2.1 (F k).2.2.1 v _ HT.out.x HI2.out (by omega) HCU.out).mono ?_
            rintro e w11 ⟨rfl, hE⟩
            have hst := Go.run_storeCells_new (P := Try.prog) w11 35 #[.int .u64 0, .int .u64 0, .int .i64 0, .int .i64 0, .int .i64 0, .int .i64 0, .int .i64 0] #[.int .u64 (F k).2.1, .int .u64 v.1, .int .i64 v.2.1, .int .i64 v.2.2.1, .int .i64 v.2.2.2.1, .int .i64 v.2.2.2.2.1, .int .i64 v.2.2.2.2.2] (by kernel_rfl) rfl (by simp [Value.oneCell'])
            have HT := Lib.hid (HT.out.ext hE)
            have HP := Lib.hid (HP.out.ext hE)
            have HB1 := Lib.hid (HB1.out.ext hE)
            have HB2 := Lib.hid (HB2.out.ext hE)
            have HB3 := Lib.hid (HB3.out.ext hE)
            clear hE
            have hbx : ∀ i, w11.cell? ⟨Bx, i, none⟩ = (#[.slice a8 te2.toL.length c8, .slice a9 Wy2.length c9] : Array Value)[i]? := fun i => HT.out.bx.cells i
            have lbx := HT.out.bx.lt
            have hb0 : ∀ i, w11.cell? ⟨W3.heap.size, i, none⟩ = (#[.int .u64 (F k).2.1, .int .u64 (F k).2.2.1] : Array Value)[i]? := fun i => HP.out.cells i
            have lb0 := HP.out.lt
            have hb1 : ∀ i, w11.cell? ⟨w5.heap.size, i, none⟩ = (#[.int .u64 v.1, .int .i64 v.2.1, .int .i64 v.2.2.1, .int .i64 v.2.2.2.1, .int .i64 v.2.2.2.2.1, .int .i64 v.2.2.2.2.2] : Array Value)[i]? := fun i => HB1.out.cells i
            have lb1 := HB1.out.lt
            have hb2 : ∀ i, w11.cell? ⟨w7.heap.size, i, none⟩ = (#[.int .u64 (F k).2.1, .int .u64 v.1, .int .i64 v.2.1, .int .i64 v.2.2.1, .int .i64 v.2.2.2.1, .int .i64 v.2.2.2.2.1, .int .i64 v.2.2.2.2.2] : Array Value)[i]? := fun i => HB2.out.cells i
            have lb2 := HB2.out.lt
            have hb3 : ∀ i, w11.cell? ⟨w9.heap.size, i, none⟩ = (#[.int .u64 v.1, .int .i64 v.2.1, .int .i64 v.2.2.1, .int .i64 v.2.2.2.1, .int .i64 v.2.2.2.2.1, .int .i64 v.2.2.2.2.2] : Array Value)[i]? := fun i => HB3.out.cells i
            have lb3 := HB3.out.lt
            go_wp2_with fail
            clear hst
            clear hbx lbx hb0 lb0 hb1 lb1 hb2 lb2 hb3 lb3
            obtain ⟨Wr, hW⟩ : ∃ W, w11.alloc (.cells #[.int .u64 (F k).2.1, .int .u64 v.1, .int .i64 v.2.1, .int .i64 v.2.2.1, .int .i64 v.2.2.2.1, .int .i64 v.2.2.2.2.1, .int .i64 v.2.2.2.2.2] 35) = W := ⟨_, rfl⟩
            have hE : Ext w11 Wr := by rw [← hW]; exact (Below.refl _ _).alloc (Nat.le_refl _) _
            have HB4 := Lib.hid (show Blk Wr w11.heap.size #[.int .u64 (F k).2.1, .int .u64 v.1, .int .i64 v.2.1, .int .i64 v.2.2.1, .int .i64 v.2.2.2.1, .int .i64 v.2.2.2.2.1, .int .i64 v.2.2.2.2.2] 35 from by rw [← hW]; exact Blk.new _ _ _)
            rw [hW]
            have HT := Lib.hid (HT.out.ext hE)
            have HP := Lib.hid (HP.out.ext hE)
            have HB1 := Lib.hid (HB1.out.ext hE)
            have HB2 := Lib.hid (HB2.out.ext hE)
            have HB3 := Lib.hid (HB3.out.ext hE)
            clear hW hE
            have hf1 := field1
            have n1 : (te2.sz != (te2.toL.length : Int)) = false := by rw [T.sz_toL]; simp
            have n2 : ((ShI.wayOf tw2 (F k).2.1).1 != (ShI.wayOf tw2 (F k).2.1).1) = false := by simp
            refine wp_region_segsE (Ext Wr) (.quiet [7, 29] (.alt 0 (.quiet [7, 21] (.alt 0 (.quiet [4, 1, 3, 12] (.alt 0 (.quiet [5, 1, 2, 4] (.alt 0 (.alt 0 (.quiet [3] .done) .stop) .stop)) .stop)) .stop)) .stop)) (by kernel_rfl) (by kernel_rfl) (Ext.drew Wr) ?_
            apply segE_quiet
            · intro W hW
              have hq0 : ∀ i, W.cell? ⟨Bx, i, none⟩ = (#[.slice a8 te2.toL.length c8, .slice a9 Wy2.length c9] : Array Value)[i]? := fun i => (HT.out.bx.ext hW).cells i
              have hq2 : ∀ i, W.cell? ⟨w5.heap.size, i, none⟩ = (#[.int .u64 v.1, .int .i64 v.2.1, .int .i64 v.2.2.1, .int .i64 v.2.2.2.1, .int .i64 v.2.2.2.2.1, .int .i64 v.2.2.2.2.2] : Array Value)[i]? := fun i => (HB1.out.ext hW).cells i
              have hq3 : ∀ i, W.cell? ⟨w7.heap.size, i, none⟩ = (#[.int .u64 (F k).2.1, .int .u64 v.1, .int .i64 v.2.1, .int .i64 v.2.2.1, .int .i64 v.2.2.2.1, .int .i64 v.2.2.2.2.1, .int .i64 v.2.2.2.2.2] : Array Value)[i]? := fun i => (HB2.out.ext hW).cells i
              have hq4 : ∀ i, W.cell? ⟨w9.heap.size, i, none⟩ = (#[.int .u64 v.1, .int .i64 v.2.1, .int .i64 v.2.2.1, .int .i64 v.2.2.2.1, .int .i64 v.2.2.2.2.1, .int .i64 v.2.2.2.2.2] : Array Value)[i]? := fun i => (HB3.out.ext hW).cells i
              have hq5 : ∀ i, W.cell? ⟨w11.heap.size, i, none⟩ = (#[.int .u64 (F k).2.1, .int .u64 v.1, .int .i64 v.2.1, .int .i64 v.2.2.1, .int .i64 v.2.2.2.1, .int .i64 v.2.2.2.2.1, .int .i64 v.2.2.2.2.2] : Array Value)[i]? := fun i => (HB4.out.ext hW).cells i
              simp only [runsT, runsF, rep, pick]
              repeat (first | go_values | go_skip | go_guarded | go_step)
              exact ⟨rfl, rfl⟩
            simp only [runsT, runsF, rep, left]
            refine segE_alt _ rfl ?_ ?_
            · skip
              go_wp2_with fail
              refine (same_yes (F k).2.1 v _).mono ?_
              rintro e y7 ⟨rfl, hE⟩
              have X7 := Lib.hid (show Ext Wr y7 from Ext.trans (Ext.drew Wr) hE)
              clear hE
              go_wp2_with fail
              refine ⟨X7.out, ?_⟩
              try dsimp only [List.eraseIdx]
              apply segE_quiet
              · intro W hW
                have hq0 : ∀ i, W.cell? ⟨Bx, i, none⟩ = (#[.slice a8 te2.toL.length c8, .slice a9 Wy2.length c9] : Array Value)[i]? := fun i => (HT.out.bx.ext hW).cells i
                have hq2 : ∀ i, W.cell? ⟨w5.heap.size, i, none⟩ = (#[.int .u64 v.1, .int .i64 v.2.1, .int .i64 v.2.2.1, .int .i64 v.2.2.2.1, .int .i64 v.2.2.2.2.1, .int .i64 v.2.2.2.2.2] : Array Value)[i]? := fun i => (HB1.out.ext hW).cells i
                have hq3 : ∀ i, W.cell? ⟨w7.heap.size, i, none⟩ = (#[.int .u64 (F k).2.1, .int .u64 v.1, .int .i64 v.2.1, .int .i64 v.2.2.1, .int .i64 v.2.2.2.1, .int .i64 v.2.2.2.2.1, .int .i64 v.2.2.2.2.2] : Array Value)[i]? := fun i => (HB2.out.ext hW).cells i
                have hq4 : ∀ i, W.cell? ⟨w9.heap.size, i, none⟩ = (#[.int .u64 v.1, .int .i64 v.2.1, .int .i64 v.2.2.1, .int .i64 v.2.2.2.1, .int .i64 v.2.2.2.2.1, .int .i64 v.2.2.2.2.2] : Array Value)[i]? := fun i => (HB3.out.ext hW).cells i
                have hq5 : ∀ i, W.cell? ⟨w11.heap.size, i, none⟩ = (#[.int .u64 (F k).2.1, .int .u64 v.1, .int .i64 v.2.1, .int .i64 v.2.2.1, .int .i64 v.2.2.2.1, .int .i64 v.2.2.2.2.1, .int .i64 v.2.2.2.2.2] : Array Value)[i]? := fun i => (HB4.out.ext hW).cells i
                simp only [runsT, runsF, rep, pick]
                repeat (first | go_values | go_skip | go_guarded | go_step)
                exact ⟨rfl, rfl⟩
              simp only [runsT, runsF, rep, left]
              refine segE_alt _ rfl ?_ ?_
              · skip
                go_wp2_with fail
                refine (same_yes (F k).2.1 v _).mono ?_
                rintro e y15 ⟨rfl, hE⟩
                have X15 := Lib.hid (show Ext Wr y15 from Ext.trans X7.out hE)
                clear hE
                go_wp2_with fail
                refine ⟨X15.out, ?_⟩
                try dsimp only [List.eraseIdx]
                apply segE_quiet
                · intro W hW
                  have hq0 : ∀ i, W.cell? ⟨Bx, i, none⟩ = (#[.slice a8 te2.toL.length c8, .slice a9 Wy2.length c9] : Array Value)[i]? := fun i => (HT.out.bx.ext hW).cells i
                  have hq2 : ∀ i, W.cell? ⟨w5.heap.size, i, none⟩ = (#[.int .u64 v.1, .int .i64 v.2.1, .int .i64 v.2.2.1, .int .i64 v.2.2.2.1, .int .i64 v.2.2.2.2.1, .int .i64 v.2.2.2.2.2] : Array Value)[i]? := fun i => (HB1.out.ext hW).cells i
                  have hq3 : ∀ i, W.cell? ⟨w7.heap.size, i, none⟩ = (#[.int .u64 (F k).2.1, .int .u64 v.1, .int .i64 v.2.1, .int .i64 v.2.2.1, .int .i64 v.2.2.2.1, .int .i64 v.2.2.2.2.1, .int .i64 v.2.2.2.2.2] : Array Value)[i]? := fun i => (HB2.out.ext hW).cells i
                  have hq4 : ∀ i, W.cell? ⟨w9.heap.size, i, none⟩ = (#[.int .u64 v.1, .int .i64 v.2.1, .int .i64 v.2.2.1, .int .i64 v.2.2.2.1, .int .i64 v.2.2.2.2.1, .int .i64 v.2.2.2.2.2] : Array Value)[i]? := fun i => (HB3.out.ext hW).cells i
                  have hq5 : ∀ i, W.cell? ⟨w11.heap.size, i, none⟩ = (#[.int .u64 (F k).2.1, .int .u64 v.1, .int .i64 v.2.1, .int .i64 v.2.2.1, .int .i64 v.2.2.2.1, .int .i64 v.2.2.2.2.1, .int .i64 v.2.2.2.2.2] : Array Value)[i]? := fun i => (HB4.out.ext hW).cells i
                  simp only [runsT, runsF, rep, pick]
                  repeat (first | go_values | go_skip | go_guarded | go_step)
                  exact ⟨rfl, rfl⟩
                simp only [runsT, runsF, rep, left]
                refine segE_alt _ rfl ?_ ?_
                · skip
                  go_wp2_with fail
                  refine (ShI.SLen_any b te2 tw2 _ (HT.out.ext X15.out).sh).mono ?_
                  rintro e y20 ⟨rfl, rfl⟩
                  go_wp2_with fail
                  refine ⟨X15.out, ?_⟩
                  try dsimp only [List.eraseIdx]
                  apply segE_quiet
                  · intro W hW
                    have hq0 : ∀ i, W.cell? ⟨Bx, i, none⟩ = (#[.slice a8 te2.toL.length c8, .slice a9 Wy2.length c9] : Array Value)[i]? := fun i => (HT.out.bx.ext hW).cells i
                    have hq2 : ∀ i, W.cell? ⟨w5.heap.size, i, none⟩ = (#[.int .u64 v.1, .int .i64 v.2.1, .int .i64 v.2.2.1, .int .i64 v.2.2.2.1, .int .i64 v.2.2.2.2.1, .int .i64 v.2.2.2.2.2] : Array Value)[i]? := fun i => (HB1.out.ext hW).cells i
                    have hq3 : ∀ i, W.cell? ⟨w7.heap.size, i, none⟩ = (#[.int .u64 (F k).2.1, .int .u64 v.1, .int .i64 v.2.1, .int .i64 v.2.2.1, .int .i64 v.2.2.2.1, .int .i64 v.2.2.2.2.1, .int .i64 v.2.2.2.2.2] : Array Value)[i]? := fun i => (HB2.out.ext hW).cells i
                    have hq4 : ∀ i, W.cell? ⟨w9.heap.size, i, none⟩ = (#[.int .u64 v.1, .int .i64 v.2.1, .int .i64 v.2.2.1, .int .i64 v.2.2.2.1, .int .i64 v.2.2.2.2.1, .int .i64 v.2.2.2.2.2] : Array Value)[i]? := fun i => (HB3.out.ext hW).cells i
                    have hq5 : ∀ i, W.cell? ⟨w11.heap.size, i, none⟩ = (#[.int .u64 (F k).2.1, .int .u64 v.1, .int .i64 v.2.1, .int .i64 v.2.2.1, .int .i64 v.2.2.2.1, .int .i64 v.2.2.2.2.1, .int .i64 v.2.2.2.2.2] : Array Value)[i]? := fun i => (HB4.out.ext hW).cells i
                    simp only [runsT, runsF, rep, pick]
                    repeat (first | go_values | go_skip | go_guarded | go_step)
                    exact ⟨rfl, rfl⟩
                  simp only [runsT, runsF, rep, left]
                  refine segE_alt _ rfl ?_ ?_
                  · skip
                    go_wp2_with fail
                    refine (ShI.Pending_any b te2 tw2 (F k).2.1 _ (HT.out.ext X15.out).sh (by have := HI2.out.sw; omega)).mono ?_
                    rintro e y29 ⟨rfl, hE⟩
                    have X29 := Lib.hid (show Ext Wr y29 from Ext.trans X15.out hE)
                    clear hE
                    go_wp2_with fail
                    refine ⟨X29.out, ?_⟩
                    try dsimp only [List.eraseIdx]
                    refine segE_alt _ rfl ?_ ?_
                    · skip
                      go_wp2_with fail
                      refine (rWay _ _ w.heap.size te2.toL Wy2 (F k).2.1 _ (HT.out.ext X29.out).x.l (HT.out.ext X29.out).x.y (by have := HI2.out.wlen (by omega); omega)).mono ?_
                      rw [HI2.out.ways]
                      rintro e y32 ⟨rfl, hE⟩
                      have X32 := Lib.hid (show Ext Wr y32 from Ext.trans X29.out hE)
                      clear hE
                      go_wp2_with fail
                      refine ⟨X32.out, ?_⟩
                      try dsimp only [List.eraseIdx]
                      apply segE_quiet
                      · intro W hW
                        have hq0 : ∀ i, W.cell? ⟨Bx, i, none⟩ = (#[.slice a8 te2.toL.length c8, .slice a9 Wy2.length c9] : Array Value)[i]? := fun i => (HT.out.bx.ext hW).cells i
                        have hq2 : ∀ i, W.cell? ⟨w5.heap.size, i, none⟩ = (#[.int .u64 v.1, .int .i64 v.2.1, .int .i64 v.2.2.1, .int .i64 v.2.2.2.1, .int .i64 v.2.2.2.2.1, .int .i64 v.2.2.2.2.2] : Array Value)[i]? := fun i => (HB1.out.ext hW).cells i
                        have hq3 : ∀ i, W.cell? ⟨w7.heap.size, i, none⟩ = (#[.int .u64 (F k).2.1, .int .u64 v.1, .int .i64 v.2.1, .int .i64 v.2.2.1, .int .i64 v.2.2.2.1, .int .i64 v.2.2.2.2.1, .int .i64 v.2.2.2.2.2] : Array Value)[i]? := fun i => (HB2.out.ext hW).cells i
                        have hq4 : ∀ i, W.cell? ⟨w9.heap.size, i, none⟩ = (#[.int .u64 v.1, .int .i64 v.2.1, .int .i64 v.2.2.1, .int .i64 v.2.2.2.1, .int .i64 v.2.2.2.2.1, .int .i64 v.2.2.2.2.2] : Array Value)[i]? := fun i => (HB3.out.ext hW).cells i
                        have hq5 : ∀ i, W.cell? ⟨w11.heap.size, i, none⟩ = (#[.int .u64 (F k).2.1, .int .u64 v.1, .int .i64 v.2.1, .int .i64 v.2.2.1, .int .i64 v.2.2.2.1, .int .i64 v.2.2.2.2.1, .int .i64 v.2.2.2.2.2] : Array Value)[i]? := fun i => (HB4.out.ext hW).cells i
                        simp only [runsT, runsF, rep, pick]
                        repeat (first | go_values | go_skip | go_guarded | go_step)
                        exact ⟨rfl, rfl⟩
                      simp only [runsT, runsF, rep, left]
                      apply segE_done
                      go_wp2_with fail
                      go_roundg (len - (k + 1))
                      case measure => omega
                      case rel => exact ⟨k + 1, _, _, _, _, _, by go_num, by omega, HT.out.ext X32.out, HI2.out.mono (by omega), Nat.le_refl _⟩
                    exact segE_stop
                  exact segE_stop
                exact segE_stop
              exact segE_stop
            exact segE_stop
        --A>
      · obtain rfl : k = len := by omega
        have hdk : decide ((k : Int) < (k : Int)) = false := decide_eq_false (by omega)
        clear hik
        --B<
        have hfn := fun (w : World) (f : Fn) (x y : Array Value) => run_eq_func_nil (P := Try.prog) Try.underlying55 f x y w
        go_wp2_with fail
        refine (SAll_any b te tw _ HS.out.sh).mono ?_
        rintro e w' ⟨q, hT, rfl, rfl⟩
        have HTr := Lib.hid hT
        clear hT
        go_wp2_with fail
        refine wpIn_wide (n := n).1 ?_
        obtain ⟨m, hm⟩ : ∃ m : Int, most % 45 = m := ⟨_, rfl⟩
        have hm45 : 0 ≤ m ∧ m < 45 := by omega
        have hM : Hid (most % 45 = m) := hm
        clear hm
        have hB1 : Below wr.heap.size wr ((wr.alloc (Obj.cells #[Value.pointer q] 77)).alloc (Obj.cells #[Value.int .i64 0] 3)) := ((Below.refl _ wr).alloc (Nat.le_refl _) _).alloc (by simp) _
        have hq0 : ((wr.alloc (Obj.cells #[Value.pointer q] 77)).alloc (Obj.cells #[Value.int .i64 0] 3)).cell? ⟨wr.heap.size, 0, none⟩ = some (.pointer q) := ((Blk.new wr #[Value.pointer q] 77).ext ((Below.refl _ _).alloc (Nat.le_refl _) _)).cell (i := 0) rfl
        have hn0 : Blk ((wr.alloc (Obj.cells #[Value.pointer q] 77)).alloc (Obj.cells #[Value.int .i64 0] 3)) (wr.heap.size + 1) #[Value.int .i64 0] 3 := blk_at (by simp)
        have HB1 := Lib.hid hB1
        clear hB1
        refine wpIn_range_NB (n := n) (gf := 87) (lb := #[.pointer (some ⟨wr.heap.size, 0, none⟩)]) rfl (enters_of Try.func87 (by kernel_rfl) rfl)
          (TrEi.all_N (n - 1) wr.heap.size wr.heap.size (Below wr.heap.size) (fun _ _ h => h) q te _ (by simp; omega) (by simp; omega) hq0 (HTr.out.low.below HB1.out)) belowK_t (fun W o h => (Below.refl _ _).alloc (by simp at h; omega) _) (belowK_b (by simp; omega)) (Below.refl _ _) (fun _ => rfl) (fun x : Int × En => .cells #[.int .u64 x.2.1, .int .i64 x.2.2.1, .int .i64 x.2.2.2.1, .int .i64 x.2.2.2.2.1, .int .i64 x.2.2.2.2.2.1, .int .i64 x.2.2.2.2.2.2] 41)
          (RI wr (wr.heap.size + 1) m) (RX wr (wr.heap.size + 1) m) (RI.own _ _ _ (by simp; omega)) (RX.own _ _ _ (by simp; omega)) ⟨⟨⟨hn0.cell (i := 0) rfl, hn0.frozen 0⟩, hm45.1⟩, HB1.out⟩ ?hab ?done ?stop
        case hab =>
          apply Exists.intro
          refine ⟨?assign, ?body⟩
          case assign =>
            intro l x W K hK
            have hst := Go.run_storeCells_new (P := Try.prog) W 41 #[.int .u64 0, .int .i64 0, .int .i64 0, .int .i64 0, .int .i64 0, .int .i64 0] #[.int .u64 x.2.1, .int .i64 x.2.2.1, .int .i64 x.2.2.2.1, .int .i64 x.2.2.2.2.1, .int .i64 x.2.2.2.2.2.1, .int .i64 x.2.2.2.2.2.2] (by kernel_rfl) rfl (by simp [Value.oneCell'])
            gi_wp2
            obtain ⟨k9, hk9⟩ : ∃ k, W.heap.size = k := ⟨_, rfl⟩
            rw [hk9]
            exact hK k9 hk9
          case body =>
            rintro lo kb pre ⟨x1, x2⟩ Wr hlo _ hkb hob ⟨⟨⟨hc, hf⟩, hpm⟩, hB⟩ hpre
            have HB := Lib.hid hB
            have HP := Lib.hid hpre
            have hlp : pre.length < te.toL.length := by have := hpre.length_le; simp at this; omega
            obtain ⟨bL, rfl, hY⟩ := rowL_cells HS.out.x.l _ _ (pre_at hpre)
            have HY := Lib.hid hY
            have HOB := Lib.hid (show Blk Wr kb #[.int .u64 x2.1, .int .i64 x2.2.1, .int .i64 x2.2.2.1, .int .i64 x2.2.2.2.1, .int .i64 x2.2.2.2.2.1, .int .i64 x2.2.2.2.2.2] 41 from hob)
            have hlN : wr.heap.size + 1 < Wr.heap.size := World.block_lt_of_cell? Wr _ hc
            have hp0 : (0 : Int) ≤ (pre.length : Int) := by omega
            have hp1 : (pre.length : Int) < (te.toL.length : Int) := by omega
            clear hob hkb hY
            have hbm := (Blk.ext HS.out.bm hB).cell (i := 0) rfl
            have hM' := hM.out
            have hpl : (pre.length : Int) ≤ 64 := by omega
            have HFR := Lib.hid hf
            clear hB hpre hf
            by_cases hm : (pre.length : Int) < m
            · have dm : decide (m ≤ (pre.length : Int)) = false := decide_eq_false (by omega)
              have dl : decide (te.toL.length ≤ pre.length) = false := decide_eq_false (by omega)
              have HMM := Lib.hid hm
              clear hm hpm
              gi_wp2
              refine SegR.wpIn_region_segs (n₀ := Wr.heap.size) (lr := lo) 16 [([8, 1, 5, 2], false), ([0, 2], false), ([1], false)] (by kernel_rfl) (by kernel_rfl) (by kernel_rfl) ?_
              apply SegR.segsI_cons
              · intro W hW
                have hE : Ext Wr W := Ext.trans (Ext.drew Wr) hW
                have hcn := (hE.cell (p := ⟨wr.heap.size + 1, 0, none⟩) hlN).trans hc
                have hqx : ∀ i, W.cell? ⟨Bx, i, none⟩ = (#[.slice (some ⟨bL, 0, none⟩) te.toL.length cL, .slice aW Wy.length cW] : Array Value)[i]? := fun i => ((HS.out.bx.ext HB.out).ext hE).cells i
                have hqe : ∀ i, W.cell? ⟨kb, i, none⟩ = (#[.int .u64 x2.1, .int .i64 x2.2.1, .int .i64 x2.2.2.1, .int .i64 x2.2.2.2.1, .int .i64 x2.2.2.2.2.1, .int .i64 x2.2.2.2.2.2] : Array Value)[i]? := fun i => (Blk.ext HOB.out hE).cells i
                obtain ⟨y0, y1, y2, y3, y4, y5, y6⟩ := HY.out W (Ext.trans HB.out hE)
                simp only [runsT, runsF, rep, pick]
                repeat (first | go_values | go_skip | go_guarded | go_step)
                exact ⟨rfl, rfl⟩
              simp only [runsT, runsF, rep, left]
              gi_wp2
              refine ⟨trivial, fun h => (by simp [Fence.wide] at h), (CallsIn.inRound lo (callsIn_wide.2 (back_any x1 x2 _))).mono ?_⟩
              simp only [valS]
              rintro e w9 ⟨rfl, hE9⟩
              have HE9 := Lib.hid (show Ext Wr w9 from Ext.trans (Ext.drew Wr) hE9)
              try dsimp only
              apply_assumption
              refine ⟨fun _ => hE9, ?_⟩
              apply SegR.segsI_cons
              · intro W hW
                exact ⟨rfl, rfl⟩
              simp only [runsT, runsF, rep, left]
              gi_wp2
              refine ⟨fun _ => Below.refl _ _, ?_⟩
              apply SegR.segsI_cons
              · intro W hW
                simp only [runsT, runsF, rep, pick]
                repeat (first | go_values | go_skip | go_guarded | go_step)
                exact ⟨rfl, rfl⟩
              simp only [runsT, runsF, rep, left]
              have c9 := (HE9.out.cell (p := ⟨wr.heap.size + 1, 0, none⟩) hlN).trans hc
              have f9 := (HE9.out.frozen (p := ⟨wr.heap.size + 1, 0, none⟩) hlN).trans HFR.out
              clear hE9
              gi_wp2
              refine ⟨KeepsFrom.trans ⟨HE9.out.size, fun k o h1 hk ho => (HE9.out.block k (Array.getElem?_eq_some_iff.1 hk).1).trans hk⟩ ((KeepsOthers.setCell w9 ⟨wr.heap.size + 1, 0, none⟩ _).from _), (HE9.out.mono HB.out.size).setCell (by simp) _, ⟨⟨⟨?_, ?_⟩, ?_⟩, (HB.out.trans (HE9.out.mono HB.out.size)).setCell (by simp) _⟩⟩
              · rw [show ((pre ++ [(x1, x2)]).length : Int) = (pre.length : Int) + 1 by simp]; exact World.cell?_setCell_same' _ _ _ (by rw [c9]; rfl)
              · rw [World.frozen?_setCell]; exact f9
              · have := HMM.out; simp; omega
            · have dm : decide (m ≤ (pre.length : Int)) = true := decide_eq_true (by omega)
              have hpe : (pre.length : Int) = m := by omega
              have HPE := Lib.hid hpe
              clear hpe hm hpm
              gi_wp2
              refine ⟨KeepsFrom.refl _ _, rfl, by have := HPE.out; simp; omega, ?_, HB.out⟩
              have := HPE.out
              rw [this] at hc
              exact ⟨hc, HFR.out⟩
        case done =>
          rintro D ys W hD rfl ⟨⟨⟨hc, hf⟩, hpm⟩, hB⟩ hK
          have hv : ((te.toL.length : Int) == min (te.toL.length : Int) m) = true := by rw [Int.min_eq_left hpm]; simp
          have HW := Lib.hid (HS.out.ext hB)
          have hbm := HW.out.bm.cell (i := 0) rfl
          have hqx : ∀ i, W.cell? ⟨Bx, i, none⟩ = (#[.slice aL te.toL.length cL, .slice aW Wy.length cW] : Array Value)[i]? := fun i => HW.out.bx.cells i
          have hM' := hM.out
          have HV := Lib.hid hv
          have HK := Lib.hid hK
          have HD := Lib.hid hD
          clear hB hK hD hq0 hn0 hf
          gi_wp2
          go_wp2_with fail
          refine (ShN.awake_any _).mono ?_
          rintro e w5 ⟨rfl, hE5⟩
          have HW5 := Lib.hid (HW.out.ext hE5)
          have HE5 := Lib.hid hE5
          have r0 := HW5.out.br.cell (i := 0) rfl
          have r1 := HW5.out.br.frozen 0
          clear hE5 hbm hqx hM' hc
          go_wp2_with fail
          have hlD : D < W.heap.size := (Array.getElem?_eq_some_iff.1 HK.out).1
          have hK5 : w5.heap[D]? = some (.deferred (some [])) := by rw [HE5.out.block D hlD]; exact HK.out
          have hK6 := (KeepsOthers.setCell w5 ⟨w.heap.size + 1, 0, none⟩ (.bool true)).same D _ hK5 rfl
          have hc6 := cell_kept (World.cell?_setCell_same' w5 ⟨w.heap.size + 1, 0, none⟩ (.bool true) (by rw [r0]; rfl)) (grownBy_putObj' _ D (.deferred none)) (fun r e => by cases e; exact ⟨_, hK6, rfl⟩)
          have hDw : w.heap.size ≤ D := by have h1 := HD.out; have h2 := HS.out.size; simp at h1; omega
          refine ⟨by simp, .inl ⟨_, _, rfl, run_takeDeferred hK6, ?_⟩⟩
          refine ⟨.bool true, by rw [ShI.results_cell rfl]; simp [go_sem, hc6], rfl, ?_⟩
          exact ((HW5.out.bel : Below w.heap.size w w5).setCell (p := ⟨w.heap.size + 1, 0, none⟩) (Nat.le_succ _) _).trans (belowK_b (w := w) (Nat.le_refl _) _ D _ _ hDw hK6 rfl rfl)
        case stop =>
          rintro D cc pre W hD hpre ⟨rfl, hlen, ⟨hc, hf⟩, hB⟩ hK
          have hlt : m < (te.toL.length : Int) := by have := hpre.length_le; omega
          have hv : (m == min (te.toL.length : Int) m) = true := by rw [Int.min_eq_right (by omega)]; simp
          clear hlen
          have HW := Lib.hid (HS.out.ext hB)
          have hbm := HW.out.bm.cell (i := 0) rfl
          have hqx : ∀ i, W.cell? ⟨Bx, i, none⟩ = (#[.slice aL te.toL.length cL, .slice aW Wy.length cW] : Array Value)[i]? := fun i => HW.out.bx.cells i
          have hM' := hM.out
          have HV := Lib.hid hv
          have HK := Lib.hid hK
          have HD := Lib.hid hD
          clear hB hK hD hq0 hn0 hf
          gi_wp2
          go_wp2_with fail
          refine (ShN.awake_any _).mono ?_
          rintro e w5 ⟨rfl, hE5⟩
          have HW5 := Lib.hid (HW.out.ext hE5)
          have HE5 := Lib.hid hE5
          have r0 := HW5.out.br.cell (i := 0) rfl
          have r1 := HW5.out.br.frozen 0
          clear hE5 hbm hqx hM' hc
          go_wp2_with fail
          have hlD : D < W.heap.size := (Array.getElem?_eq_some_iff.1 HK.out).1
          have hK5 : w5.heap[D]? = some (.deferred (some [])) := by rw [HE5.out.block D hlD]; exact HK.out
          have hK6 := (KeepsOthers.setCell w5 ⟨w.heap.size + 1, 0, none⟩ (.bool true)).same D _ hK5 rfl
          have hc6 := cell_kept (World.cell?_setCell_same' w5 ⟨w.heap.size + 1, 0, none⟩ (.bool true) (by rw [r0]; rfl)) (grownBy_putObj' _ D (.deferred none)) (fun r e => by cases e; exact ⟨_, hK6, rfl⟩)
          have hDw : w.heap.size ≤ D := by have h1 := HD.out; have h2 := HS.out.size; simp at h1; omega
          refine ⟨by simp, .inl ⟨_, _, rfl, run_takeDeferred hK6, ?_⟩⟩
          refine ⟨.bool true, by rw [ShI.results_cell rfl]; simp [go_sem, hc6], rfl, ?_⟩
          exact ((HW5.out.bel : Below w.heap.size w w5).setCell (p := ⟨w.heap.size + 1, 0, none⟩) (Nat.le_succ _) _).trans (belowK_b (w := w) (Nat.le_refl _) _ D _ _ hDw hK6 rfl rfl)
        --B>
theorem plays_walk (a : Option Addr) (len cap : Nat) (b0 off : Nat) (F : Nat → Int × Int × En) (most : Int) (w : World) (ha : 0 < len → a = some ⟨b0, off, none⟩) (hl : len ≤ maxLen) (hm0 : 0 ≤ most) (hm1 : most ≤ 18446744073709551615) (hF0 : ∀ i, i < len → 0 ≤ (F i).1 ∧ (F i).1 ≤ 18446744073709551615)
    (hF : ∀ W, Below w.heap.size w W → ∀ i, i < len → W.cell? ⟨b0, off + i * 8, none⟩ = some (.int .u64 (F i).1) ∧ W.cell? ⟨b0, off + i * 8 + 1, none⟩ = some (.int .u64 (F i).2.1) ∧ W.cell? ⟨b0, off + i * 8 + 2, none⟩ = some (.int .u64 (F i).2.2.1) ∧ W.cell? ⟨b0, off + i * 8 + 3, none⟩ = some (.int .i64 (F i).2.2.2.1) ∧ W.cell? ⟨b0, off + i * 8 + 4, none⟩ = some (.int .i64 (F i).2.2.2.2.1) ∧ W.cell? ⟨b0, off + i * 8 + 5, none⟩ = some (.int .i64 (F i).2.2.2.2.2.1) ∧ W.cell? ⟨b0, off + i * 8 + 6, none⟩ = some (.int .i64 (F i).2.2.2.2.2.2.1) ∧ W.cell? ⟨b0, off + i * 8 + 7, none⟩ = some (.int .i64 (F i).2.2.2.2.2.2.2)) :
    Calls Try.prog 3 #[.slice a len cap, .int .u64 most] w fun e w' => e = .returned (.bool true) ∧ Below w.heap.size w w' :=
  callsIn_wide.1 (plays_in 3 (by omega) a len cap b0 off F most w ha hl hm0 hm1 hF0 hF)
end Go.Proofs.Ytnpfikabcmngpaa.ShP
