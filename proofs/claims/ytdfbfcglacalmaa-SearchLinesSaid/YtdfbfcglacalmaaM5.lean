/-
  Iterators that keep a record of their own in memory and change it between the rounds: what they owe is asked of invariants that speak of older blocks alone; a caller's range over such a one. No program in sight; no condition.
  The contracts of the ranked tree at thing: each function of package rank comes to the plain tree's. Trees of fewer than 800,000,000 keys; no other condition.
  Packages clock, cost, lossy: each function comes to what LossyT says. Maps of fewer than 800,000,000 keys; no other condition.
-/
import Derived.Test.YtdfbfcglacalmaaM2
import Derived.Test.YtdfbfcglacalmaaM1
import Derived.WalkKit
import Derived.KernelRfl
import Derived.Deep.RegionWith
import Derived.Deep.LoopGhost
import Derived.Lib.Hide
import Derived.Laws.ResultCell
import Derived.Test.YtdfbfcglacalmaaM4
import Derived.Test.YtdfbfcglacalmaaProg
section
namespace Go
open Go.RowKit Go.Open
variable {P : Program} {n : Nat}

/-- What lies from a place on lies as it lay. -/
def HiFrom (B : Nat) (W W' : World) : Prop := ∀ (k : Nat) (o : Obj), B ≤ k → W.heap[k]? = some o → W'.heap[k]? = some o
theorem HiFrom.refl (B : Nat) (W : World) : HiFrom B W W := fun _ _ _ h => h
theorem HiFrom.trans {B : Nat} {X Y Z : World} (h : HiFrom B X Y) (k : HiFrom B Y Z) : HiFrom B X Z := fun i o hi ho => k i o hi (h i o hi ho)
theorem HiFrom.mono {B B' : Nat} {X Y : World} (h : HiFrom B X Y) (hB : B ≤ B') : HiFrom B' X Y := fun i o hi ho => h i o (Nat.le_trans hB hi) ho
theorem HiFrom.of_chg {S : Nat → Prop} {B : Nat} {X Y : World} (h : Chg S X Y) (hS : ∀ k, S k → k < B) : HiFrom B X Y := fun i o hi ho => by
  have hl := (Array.getElem?_eq_some_iff.1 ho).1
  rw [h.block i hl (fun hs => by have := hS i hs; omega)]; exact ho
theorem chg_putObj {S : Nat → Prop} {W : World} {l : Nat} (o : Obj) (h : S l) : Chg S W (W.putObj l o) := by
  have hg := grownBy_putObj' W l o
  exact ⟨hg.os, hg.tape, hg.output, hg.size, fun k hk hs => hg.block k hk (fun e => hs (by cases e; exact h))⟩
theorem chg_alloc {S : Nat → Prop} (W : World) (o : Obj) : Chg S W (W.alloc o) := by
  have hg := World.grownBy_alloc W o none
  exact ⟨hg.os, hg.tape, hg.output, hg.size, fun k hk _ => hg.block k hk (fun e => by cases e)⟩

/-- An iterator goes through rows (S) or is stopped in their midst (Sp); what it hands on (Hd) lies behind a place that it tells of; it changes what it has laid itself ahead of that place. -/
def SeqB {α ν : Type} (n : Nat) (P : Program) (g : Nat) (lb : Array Value) (en : ν → Array Value) (Hd : α → ν → Nat → World → Prop) (Kp : World → World → Prop) (S Sp : List α → Prop) (w : World) : Prop :=
  ∀ (l : Nat) (J : List α → World → Prop) (Jx : Nat → List α → World → Prop) (W : World), Below w.heap.size w W →
    (∀ s A A', J s A → Chg (fun k => W.heap.size ≤ k) A A' → J s A') →
    (∀ c s A A', Jx c s A → Chg (fun k => W.heap.size ≤ k ∧ k < c) A A' → Jx c s A') →
    (∀ pre x v c W1, J pre W1 → Hd x v c W1 → W.heap.size ≤ c → Sp (pre ++ [x]) → YieldAt Fence.wide (n - 1) P l (en v) W1 fun e W' =>
      HiFrom W.heap.size W1 W' ∧ Kp W1 W' ∧ ((e = .returned (.bool true) ∧ J (pre ++ [x]) W') ∨ (e = .returned (.bool false) ∧ Jx c (pre ++ [x]) W'))) →
    J [] W →
    CallsIn Fence.wide n P g (#[.func (.yield l) #[] #[]] ++ lb) W fun e W' => (∃ v, e = .returned v) ∧ ((∃ xs, S xs ∧ J xs W') ∨ (∃ pre c, W.heap.size ≤ c ∧ Sp pre ∧ Jx c pre W'))

/-- What a round of the caller's owes. -/
def ownPostB {α : Type} (B c : Nat) (Kp : World → World → Prop) (I : List α → World → Prop) (Ix : Code → Nat → List α → World → Prop) (s : List α) (W : World) : Exit → Act → World → Prop
  | .normal, _, W' => HiFrom B W W' ∧ Kp W W' ∧ I s W'
  | .ret, _, W' => HiFrom B W W' ∧ Kp W W' ∧ Ix .ret c s W'
  | .exit id, _, W' => HiFrom B W W' ∧ Kp W W' ∧ Ix (.exit id) c s W'
  | _, _, _ => False

theorem wpIn_range_B {α ν : Type} {g : Operand} {ps : Array Tmp} {assign body : Code} {Q : Exit → Act → World → Prop} {a : Act} {w : World} {gf : Nat} {lb : Array Value}
    (hg : a.eval g = .func (.func gf) #[] lb) (eg : ∀ args w, (callFunc gf args).run P w = .ok (.enter gf args) w)
    {en : ν → Array Value} {Hd : α → ν → Nat → World → Prop} {Kp : World → World → Prop} {S Sp : List α → Prop} {w0 : World} (hseq : SeqB (n - 1) P gf lb en Hd Kp S Sp w0)
    (hKt : ∀ {A B C : World}, Kp A B → Kp B C → Kp A C) (hKb : ∀ (W : World) (l : Nat) (o o' : Obj), w.heap.size ≤ l → W.heap[l]? = some o → o.isCells = false → o.isWalk = false → Kp W (W.putObj l o')) (hb0 : Below w0.heap.size w0 w) (hps : ∀ v, (en v).size = ps.size)
    (hHd : ∀ x v c W l o o', Hd x v c W → l < c → W.heap[l]? = some o → o.isCells = false → Hd x v c (W.putObj l o'))
    (I : List α → World → Prop) (Ix : Code → Nat → List α → World → Prop) (hI : ∀ s A A', I s A → Chg (fun k => w.heap.size ≤ k) A A' → I s A')
    (hIx : ∀ q c s A A', Ix q c s A → Chg (fun k => w.heap.size ≤ k ∧ k < c) A A' → Ix q c s A') (h0 : I [] w)
    (hab : ∃ a₁ : ν → Act, (∀ (l : Nat) (v : ν) (W : World) (K : Act → World → Prop), K (a₁ v) W →
      assign.wpIn (Fence.wide.inRound l) (n - 1 - 1) P (Exit.then K (fun _ _ _ => False)) { tmps := (ps.zip (en v)).foldl (fun t (p, v) => t.setIfInBounds p v) a.tmps, defers := [] } W) ∧
      (∀ (l : Nat) (pre : List α) (x : α) (v : ν) (c : Nat) (W : World), w.heap.size ≤ l → l < c → (∃ r, W.heap[l]? = some (.loop r)) → Hd x v c W → I pre W → Sp (pre ++ [x]) → body.wpIn (Fence.wide.inRound l) (n - 1 - 1) P (ownPostB w.heap.size c Kp I Ix (pre ++ [x]) W) (a₁ v) W))
    (hdone : ∀ (D : Nat) (xs : List α) (W : World), w.heap.size ≤ D → S xs → I xs W → W.heap[D]? = some (.deferred (some [])) → Q .normal { a with defers := { target := .collected D, args := #[] } :: a.defers } W)
    (hstop : ∀ (D : Nat) (q : Code) (c : Nat) (pre : List α) (W : World), w.heap.size ≤ D → D < c → Sp pre → Ix q c pre W → W.heap[D]? = some (.deferred (some [])) → q.wpIn Fence.wide n P Q { a with defers := { target := .collected D, args := #[] } :: a.defers } W) :
    (Code.rangeFunc g ps assign body).wpIn Fence.wide n P Q a w := by
  obtain ⟨a₁, hassign, hbody⟩ := hab
  refine wpIn_rangeFunc (fun fn hfn => ?_)
  let R : LoopState → Option Code → Obj := fun st pe => .loop { state := st, pending := pe, fn := fn, tmps := a.tmps, params := ps, assign := assign, body := body, defers := w.heap.size }
  have hRc : ∀ st pe, (R st pe).isCells = false := fun _ _ => rfl
  obtain ⟨W1, hW1⟩ : ∃ W1, (w.alloc (.deferred (some []))).alloc (R .ready none) = W1 := ⟨_, rfl⟩
  have hz : W1.heap.size = w.heap.size + 2 := by rw [← hW1]; simp
  have hL1 : W1.heap[w.heap.size + 1]? = some (R .ready none) := by
    rw [← hW1]
    have := World.alloc_heap_new (w.alloc (.deferred (some []))) (R .ready none)
    rwa [World.size_alloc] at this
  have hD1 : W1.heap[w.heap.size]? = some (.deferred (some [])) := by
    rw [← hW1]
    exact (Below.heap_alloc _ _ _ (by simp)).trans (World.alloc_heap_new w _)
  have hw1 : Below w.heap.size w W1 := by rw [← hW1]; exact ((Below.refl _ w).alloc (Nat.le_refl _) _).alloc (by simp) _
  have hI1 : I [] W1 := by rw [← hW1]; exact hI _ _ _ h0 ((chg_alloc _ _).trans (chg_alloc _ _))
  refine ⟨w.heap.size + 1, [{ target := .collected w.heap.size, args := #[] }], W1, { target := .fn (.func gf) lb, args := #[.func (.yield (w.heap.size + 1)) #[] #[]] }, W1, gf,
    #[.func (.yield (w.heap.size + 1)) #[] #[]] ++ lb, W1, ?_, ?_, fun _ _ => trivial, ?_, fun h => (by simp [Fence.wide] at h), ?_⟩
  · rw [← hW1]; exact run_enterLoop_outer _ _ _ _ _
  · simp only [resolve, hg]
    simp [go_sem]
  · simp [invoke, go_sem, eg]
  · have hlD : w.heap.size < W1.heap.size := by omega
    have hlL : w.heap.size + 1 < W1.heap.size := by omega
    have keepB : ∀ (A A' : World) (k : Nat) (o : Obj), k < W1.heap.size → A.heap[k]? = some o → Chg (fun k => W1.heap.size ≤ k) A A' → A'.heap[k]? = some o := fun A A' k o hk ho hc => by
      rw [hc.block k (Array.getElem?_eq_some_iff.1 ho).1 (by omega)]; exact ho
    have call := hseq (w.heap.size + 1) (fun pre W => I pre W ∧ W.heap[w.heap.size + 1]? = some (R .ready none) ∧ W.heap[w.heap.size]? = some (.deferred (some [])))
      (fun c pre W => ∃ q, Ix q c pre W ∧ W.heap[w.heap.size + 1]? = some (R .done (some q)) ∧ W.heap[w.heap.size]? = some (.deferred (some []))) W1 (hb0.trans (hw1.mono hb0.size))
      (fun s A A' hs hc => ⟨hI s A A' hs.1 (hc.mono fun k hk => by omega), keepB A A' _ _ hlL hs.2.1 hc, keepB A A' _ _ hlD hs.2.2 hc⟩)
      (fun c s A A' hs hc => by
        obtain ⟨q, hq, h1, h2⟩ := hs
        exact ⟨q, hIx q c s A A' hq (hc.mono fun k hk => ⟨by omega, hk.2⟩), keepB A A' _ _ hlL h1 (hc.mono fun k hk => hk.1), keepB A A' _ _ hlD h2 (hc.mono fun k hk => hk.1)⟩)
      ?_ ⟨hI1, hL1, hD1⟩
    · refine call.mono ?_
      rintro e W2 ⟨⟨v, rfl⟩, hend⟩
      rcases hend with ⟨xs, hS, hi, hl, hk⟩ | ⟨pre, c, hc, hSp, q, hi, hl, hk⟩
      · refine ⟨none, _, run_endLoop (P := P) hl (by simp), hdone _ xs _ (Nat.le_refl _) hS (hI _ _ _ hi (chg_putObj _ (by omega))) ?_⟩
        rw [World.putObj_heap_other (by omega)]
        exact hk
      · refine ⟨some q, _, run_endLoop (P := P) hl (by simp), hstop _ q c pre _ (Nat.le_refl _) (by omega) hSp (hIx _ _ _ _ _ hi (chg_putObj _ ⟨by omega, by omega⟩)) ?_⟩
        rw [World.putObj_heap_other (by omega)]
        exact hk
    · rintro pre x v c W ⟨hi, hl, hk⟩ hHd0 hc hlen
      have hlt : w.heap.size + 1 < W.heap.size := (Array.getElem?_eq_some_iff.1 hl).1
      refine ⟨fn, _, assign, body, run_yield hl (hps v), roundIn_of_wpIn hfn (hassign _ v W _ ?_)⟩
      refine ⟨_, run_beginRound hl rfl, ?_⟩
      obtain ⟨Wb, hWb⟩ : ∃ Wb, W.putObj (w.heap.size + 1) (R .busy none) = Wb := ⟨_, rfl⟩
      have hlb : Wb.heap[w.heap.size + 1]? = some (R .busy none) := by rw [← hWb]; exact World.putObj_heap_same hlt
      have hkb : Wb.heap[w.heap.size]? = some (.deferred (some [])) := by rw [← hWb, World.putObj_heap_other (by omega)]; exact hk
      have hib : I pre Wb := by rw [← hWb]; exact hI _ _ _ hi (chg_putObj _ (by omega))
      have hHb : Hd x v c Wb := by rw [← hWb]; exact hHd _ _ _ _ _ _ _ hHd0 (by omega) hl rfl
      have hKW : Kp W Wb := by rw [← hWb]; exact hKb _ _ _ _ (by omega) hl rfl rfl
      have hHW : HiFrom W1.heap.size W Wb := by rw [← hWb]; exact HiFrom.of_chg (S := (· = w.heap.size + 1)) (chg_putObj _ rfl) (fun k hk => by omega)
      have keep : ∀ (W3 : World) (o : Obj), HiFrom w.heap.size Wb W3 → HiFrom W1.heap.size W (W3.putObj (w.heap.size + 1) o) := fun W3 o h3 =>
        hHW.trans ((h3.mono (by omega)).trans (HiFrom.of_chg (S := (· = w.heap.size + 1)) (chg_putObj _ rfl) (fun k hk => by omega)))
      have stop : ∀ (q : Code) (a3 : Act) (W3 : World), HiFrom w.heap.size Wb W3 → Kp Wb W3 → Ix q c (pre ++ [x]) W3 → ∃ u W4, (Instr.endRound (w.heap.size + 1) (some q)).run P W3 = .ok u W4 ∧ u = .bool false ∧ HiFrom W1.heap.size W W4 ∧ Kp W W4 ∧ (∃ q, Ix q c (pre ++ [x]) W4 ∧ W4.heap[w.heap.size + 1]? = some (R .done (some q)) ∧ W4.heap[w.heap.size]? = some (.deferred (some []))) := fun q _ W3 h3 hk3 hx => by
        have hl3 := h3 _ _ (by omega) hlb
        refine ⟨_, _, run_endRound (P := P) (some q) hl3, rfl, keep W3 _ h3, hKt hKW (hKt hk3 (hKb _ _ _ _ (by omega) hl3 rfl rfl)), q, hIx _ _ _ _ _ hx (chg_putObj _ ⟨by omega, by omega⟩), World.putObj_heap_same (Array.getElem?_eq_some_iff.1 hl3).1, ?_⟩
        rw [World.putObj_heap_other (by omega)]
        exact h3 _ _ (Nat.le_refl _) hkb
      show body.wpIn _ _ P _ _ (W.putObj (w.heap.size + 1) (R .busy none))
      rw [hWb]
      refine wpIn_mono (hbody _ pre x v c Wb (by omega) (by omega) ⟨_, hlb⟩ hHb hib hlen) ?_
      rintro e a3 W3 hp
      cases e with
      | normal =>
        obtain ⟨h3, hk3, hi3⟩ := hp
        have hl3 := h3 _ _ (by omega) hlb
        refine ⟨_, _, run_endRound (P := P) none hl3, keep W3 _ h3, hKt hKW (hKt hk3 (hKb _ _ _ _ (by omega) hl3 rfl rfl)), .inl ⟨rfl, hI _ _ _ hi3 (chg_putObj _ (by omega)), World.putObj_heap_same (Array.getElem?_eq_some_iff.1 hl3).1, ?_⟩⟩
        rw [World.putObj_heap_other (by omega)]
        exact h3 _ _ (Nat.le_refl _) hkb
      | ret =>
        obtain ⟨u, W4, h4, rfl, hkf, hk4, hx⟩ := stop _ a3 W3 hp.1 hp.2.1 hp.2.2
        exact ⟨_, _, h4, hkf, hk4, .inr ⟨rfl, hx⟩⟩
      | exit id =>
        obtain ⟨u, W4, h4, rfl, hkf, hk4, hx⟩ := stop _ a3 W3 hp.1 hp.2.1 hp.2.2
        exact ⟨_, _, h4, hkf, hk4, .inr ⟨rfl, hx⟩⟩
      | goto t => exact hp.elim
      | panic ch => exact hp.elim
      | outgrown => exact hp.elim
end Go
end

section
namespace Go.Proofs.Ytdfbfcglacalmaa.TrTh
open Go.RowKit Go.Seg Go.Open Rk
/-- A node's block. -/
def NodeAt (w : World) (b : Nat) (k : Int) (v : Int × Int) (pl pr : Option Addr) (n d : Int) : Prop := Blk w b #[.int .i64 k, .int .i64 v.1, .int .i64 v.2, .pointer pl, .pointer pr, .int .i64 n, .int .i64 d] 102
theorem NodeAt.ext {w w' : World} {b : Nat} {k : Int} {v : Int × Int} {pl pr : Option Addr} {n d : Int} (h : NodeAt w b k v pl pr n d) (e : Ext w w') : NodeAt w' b k v pl pr n d := Blk.ext h e
theorem NodeAt.c0 {w : World} {b : Nat} {k : Int} {v : Int × Int} {pl pr : Option Addr} {n d : Int} (h : NodeAt w b k v pl pr n d) : w.cell? ⟨b, 0, none⟩ = some (.int .i64 k) := Blk.cell h rfl
theorem NodeAt.c1 {w : World} {b : Nat} {k : Int} {v : Int × Int} {pl pr : Option Addr} {n d : Int} (h : NodeAt w b k v pl pr n d) : w.cell? ⟨b, 1, none⟩ = some (.int .i64 v.1) := Blk.cell h rfl
theorem NodeAt.c2 {w : World} {b : Nat} {k : Int} {v : Int × Int} {pl pr : Option Addr} {n d : Int} (h : NodeAt w b k v pl pr n d) : w.cell? ⟨b, 2, none⟩ = some (.int .i64 v.2) := Blk.cell h rfl
theorem NodeAt.c3 {w : World} {b : Nat} {k : Int} {v : Int × Int} {pl pr : Option Addr} {n d : Int} (h : NodeAt w b k v pl pr n d) : w.cell? ⟨b, 3, none⟩ = some (.pointer pl) := Blk.cell h rfl
theorem NodeAt.c4 {w : World} {b : Nat} {k : Int} {v : Int × Int} {pl pr : Option Addr} {n d : Int} (h : NodeAt w b k v pl pr n d) : w.cell? ⟨b, 4, none⟩ = some (.pointer pr) := Blk.cell h rfl
theorem NodeAt.c5 {w : World} {b : Nat} {k : Int} {v : Int × Int} {pl pr : Option Addr} {n d : Int} (h : NodeAt w b k v pl pr n d) : w.cell? ⟨b, 5, none⟩ = some (.int .i64 n) := Blk.cell h rfl
theorem NodeAt.c6 {w : World} {b : Nat} {k : Int} {v : Int × Int} {pl pr : Option Addr} {n d : Int} (h : NodeAt w b k v pl pr n d) : w.cell? ⟨b, 6, none⟩ = some (.int .i64 d) := Blk.cell h rfl
/-- The tree lies there. -/
def isT (w : World) : Option Addr → T Int (Int × Int) → Prop
  | p, .nil => p = none
  | p, .node k v l r => ∃ b pl pr, p = some ⟨b, 0, none⟩ ∧ NodeAt w b k v pl pr (l.sz + r.sz + 1) (max l.dp r.dp + 1) ∧ isT w pl l ∧ isT w pr r
theorem isT.ext {w w' : World} (e : Ext w w') : ∀ {t : T Int (Int × Int)} {p : Option Addr}, isT w p t → isT w' p t
  | .nil, _, hp => hp
  | .node _ _ _ _, _, ⟨b, pl, pr, hp, hb, hl, hr⟩ => ⟨b, pl, pr, hp, hb.ext e, hl.ext e, hr.ext e⟩
theorem isT_node {w : World} {p : Option Addr} {k : Int} {v : Int × Int} {l r : T Int (Int × Int)} (h : isT w p (.node k v l r)) : ∃ b pl pr, p = some ⟨b, 0, none⟩ ∧ NodeAt w b k v pl pr (l.sz + r.sz + 1) (max l.dp r.dp + 1) ∧ isT w pl l ∧ isT w pr r := h
theorem size_any (w : World) (p : Option Addr) (t : T Int (Int × Int)) (h : isT w p t) : Calls Try.prog 84 #[.pointer p] w fun e w' => e = .returned (.int .i64 t.sz) ∧ w = w' := by
  cases t with
  | nil =>
    obtain rfl := h
    go_enter Try.func84, Try.ntmps84
    go_wp2
    go_ret
    exact ⟨rfl, rfl⟩
  | node k v l r =>
    obtain ⟨b, pl, pr, rfl, hb, _, _⟩ := isT_node h
    have c := hb.c5
    clear hb h
    go_enter Try.func84, Try.ntmps84
    go_wp2
    go_ret
    exact ⟨rfl, rfl⟩
theorem deep_any (w : World) (p : Option Addr) (t : T Int (Int × Int)) (h : isT w p t) : Calls Try.prog 85 #[.pointer p] w fun e w' => e = .returned (.int .i64 t.dp) ∧ w = w' := by
  cases t with
  | nil =>
    obtain rfl := h
    go_enter Try.func85, Try.ntmps85
    go_wp2
    go_ret
    exact ⟨rfl, rfl⟩
  | node k v l r =>
    obtain ⟨b, pl, pr, rfl, hb, _, _⟩ := isT_node h
    have c := hb.c6
    clear hb h
    go_enter Try.func85, Try.ntmps85
    go_wp2
    go_ret
    exact ⟨rfl, rfl⟩
set_option maxRecDepth 100000 in
theorem made_any (w : World) (k : Int) (v : Int × Int) (pl pr : Option Addr) (l r : T Int (Int × Int)) (hl : isT w pl l) (hr : isT w pr r) (hs : l.sz + r.sz < 1000000000) :
    Calls Try.prog 73 #[.int .i64 k, .agg #[.int .i64 v.1, .int .i64 v.2], .pointer pl, .pointer pr] w fun e w' => ∃ p, e = .returned (.pointer p) ∧ isT w' p (.node k v l r) ∧ Ext w w' := by
  have h1 := l.sz_nn
  have h2 := r.sz_nn
  have h3 := l.dp_nn
  have h4 := r.dp_nn
  have h5 := l.dp_le_sz
  have h6 := r.dp_le_sz
  have hA : Ext w (w.alloc (Obj.cells #[.int .i64 v.1, .int .i64 v.2] 69)) := (Below.refl _ _).alloc (Nat.le_refl _) _
  have HP := Lib.hid (show Blk (w.alloc (Obj.cells #[.int .i64 v.1, .int .i64 v.2] 69)) w.heap.size #[.int .i64 v.1, .int .i64 v.2] 69 from Blk.new _ _ _)
  have p0 := HP.out.cell (i := 0) rfl
  have p1 := HP.out.cell (i := 1) rfl
  have H1 := Lib.hid (hl.ext hA)
  have H2 := Lib.hid (hr.ext hA)
  clear hl hr
  rcases Int.lt_or_le l.dp r.dp with hm | hm
  all_goals
    go_enter Try.func73, Try.ntmps73
    go_wp2_with fail
    refine wp_region_segs 19 [([5, 1, 1, 3, 1, 1, 1, 6], false), ([0, 10], false), ([2, 7], false), ([0, 6], false), ([3, 2], false), ([1], false)] (by kernel_rfl) (by kernel_rfl) ?_
    apply segs_cons
    · intro W hW
      skip
      have p0 := (HP.out.ext hW.of_drew).cell (i := 0) rfl
      have p1 := (HP.out.ext hW.of_drew).cell (i := 1) rfl
      simp only [runsT, runsF, rep, pick]
      go_wp2_with fail
      exact ⟨rfl, rfl⟩
    simp only [runsT, runsF, rep, left]
    go_wp2_with fail
    refine (size_any _ _ _ (H1.out.ext (Ext.drew _))).mono ?_
    rintro e w' ⟨rfl, rfl⟩
    go_wp2_with fail
    refine ⟨fun _ => Ext.refl _, ?_⟩
    apply segs_cons
    · intro W hW
      exact ⟨rfl, rfl⟩
    simp only [runsT, runsF, rep, left]
    go_wp2_with fail
    refine (size_any _ _ _ (H2.out.ext (Ext.drew _))).mono ?_
    rintro e w' ⟨rfl, rfl⟩
    go_wp2_with fail
    refine ⟨fun _ => Ext.refl _, ?_⟩
    apply segs_cons
    · intro W hW
      simp only [runsT, runsF, rep, pick]
      go_wp2_with fail
      exact ⟨rfl, rfl⟩
    simp only [runsT, runsF, rep, left]
    go_wp2_with fail
    refine (deep_any _ _ _ (H1.out.ext (Ext.drew _))).mono ?_
    rintro e w' ⟨rfl, rfl⟩
    go_wp2_with fail
    refine ⟨fun _ => Ext.refl _, ?_⟩
    apply segs_cons
    · intro W hW
      exact ⟨rfl, rfl⟩
    simp only [runsT, runsF, rep, left]
    go_wp2_with fail
    refine (deep_any _ _ _ (H2.out.ext (Ext.drew _))).mono ?_
    rintro e w' ⟨rfl, rfl⟩
    go_wp2_with fail
    refine ⟨fun _ => Ext.refl _, ?_⟩
    apply segs_cons
    · intro W hW
      simp only [runsT, runsF, rep, pick]
      go_wp2_with fail
      exact ⟨rfl, rfl⟩
    simp only [runsT, runsF, rep, left]
    go_wp2_with fail
    refine ⟨fun _ => (Below.refl _ _).alloc (Nat.le_refl _) _, ?_⟩
    apply segs_cons
    · intro W hW
      simp only [runsT, runsF, rep, pick]
      go_wp2_with fail
      exact ⟨rfl, rfl⟩
    simp only [runsT, runsF, rep, left]
    go_wp2_with fail
    have hs0 : ((w.alloc (Obj.cells #[.int .i64 v.1, .int .i64 v.2] 69))).heap.size = w.heap.size + 1 := by exact Array.size_push _
    have hB : Ext (w.alloc (Obj.cells #[.int .i64 v.1, .int .i64 v.2] 69)) (((w.alloc (Obj.cells #[.int .i64 v.1, .int .i64 v.2] 69)).alloc (Obj.cells #[.int .i64 k, .int .i64 v.1, .int .i64 v.2, .pointer pl, .pointer pr, .int .i64 (l.sz + r.sz + 1), .int .i64 (max l.dp r.dp + 1)] 102)).drew) := below_ext ((Below.refl _ _).alloc (Nat.le_refl _) _) (Ext.drew _)
    have hI : isT (((w.alloc (Obj.cells #[.int .i64 v.1, .int .i64 v.2] 69)).alloc (Obj.cells #[.int .i64 k, .int .i64 v.1, .int .i64 v.2, .pointer pl, .pointer pr, .int .i64 (l.sz + r.sz + 1), .int .i64 (max l.dp r.dp + 1)] 102)).drew) (some ⟨w.heap.size + 1, 0, none⟩) (.node k v l r) := by
      rw [← hs0]
      exact ⟨_, pl, pr, rfl, (Blk.new _ _ _).ext (Ext.drew _), H1.out.ext hB, H2.out.ext hB⟩
    first
      | (have e : max l.dp r.dp = l.dp := by omega)
      | (have e : max l.dp r.dp = r.dp := by omega)
    rw [e] at hI hB
    go_ret
    exact ⟨_, rfl, hI, hA.trans hB⟩
set_option maxRecDepth 100000 in
theorem leftUp_deep (w : World) (k : Int) (v : Int × Int) (b bm : Nat) (pr pll pml pmr : Option Addr) (ll ml mr r : T Int (Int × Int)) (lk mk : Int) (lv mv : Int × Int) (ln ld mn md : Int)
    (hb : NodeAt w b lk lv pll (some ⟨bm, 0, none⟩) ln ld) (hm : NodeAt w bm mk mv pml pmr mn md) (hM : isT w (some ⟨bm, 0, none⟩) (.node mk mv ml mr))
    (h1 : isT w pll ll) (h2 : isT w pml ml) (h3 : isT w pmr mr) (h4 : isT w pr r) (hd : ll.dp < (T.node mk mv ml mr).dp) (hs : ll.sz + ml.sz + mr.sz + r.sz < 900000000) :
    Calls Try.prog 86 #[.int .i64 k, .agg #[.int .i64 v.1, .int .i64 v.2], .pointer (some ⟨b, 0, none⟩), .pointer pr] w fun e w' => ∃ p, e = .returned (.pointer p) ∧ isT w' p (.node mk mv (.node lk lv ll ml) (.node k v mr r)) ∧ Ext w w' := by
  have g1 := ll.sz_nn
  have g2 := ml.sz_nn
  have g3 := mr.sz_nn
  have g4 := r.sz_nn
  have hD : decide (ll.dp < (T.node mk mv ml mr).dp) = true := decide_eq_true hd
  have hA : Ext w (w.alloc (Obj.cells #[.int .i64 v.1, .int .i64 v.2] 69)) := (Below.refl _ _).alloc (Nat.le_refl _) _
  have HP := Lib.hid (show Blk (w.alloc (Obj.cells #[.int .i64 v.1, .int .i64 v.2] 69)) w.heap.size #[.int .i64 v.1, .int .i64 v.2] 69 from Blk.new _ _ _)
  have c0 := (hb.ext hA).c0
  have c1 := (hb.ext hA).c1
  have c2 := (hb.ext hA).c2
  have c3 := (hb.ext hA).c3
  have c4 := (hb.ext hA).c4
  have c5 := (hb.ext hA).c5
  have c6 := (hb.ext hA).c6
  have HB := Lib.hid (hb.ext hA)
  have HN := Lib.hid (hm.ext hA)
  have H1 := Lib.hid (h1.ext hA)
  have H2 := Lib.hid (h2.ext hA)
  have H3 := Lib.hid (h3.ext hA)
  have H4 := Lib.hid (h4.ext hA)
  have HM := Lib.hid (hM.ext hA)
  clear h1 h2 h3 h4 hm hb hM hd
  go_enter Try.func86, Try.ntmps86
  go_wp2_with fail
  refine (deep_any _ _ _ H1.out).mono ?_; rintro e w' ⟨rfl, rfl⟩
  go_wp2_with fail
  refine (deep_any _ _ _ HM.out).mono ?_; rintro e w' ⟨rfl, rfl⟩
  go_wp2_with fail
  clear c0 c1 c2 c3 c4 c5 c6
  refine wp_region_segs 35 [([24, 1, 7, 3], false), ([0, 3], false), ([0, 2], false), ([1], false)] (by kernel_rfl) (by kernel_rfl) ?_
  apply segs_cons
  · intro W hW
    have c0 := (HB.out.ext hW.of_drew).c0
    have c1 := (HB.out.ext hW.of_drew).c1
    have c2 := (HB.out.ext hW.of_drew).c2
    have c3 := (HB.out.ext hW.of_drew).c3
    have c4 := (HB.out.ext hW.of_drew).c4
    have c5 := (HB.out.ext hW.of_drew).c5
    have c6 := (HB.out.ext hW.of_drew).c6
    have m0 := (HN.out.ext hW.of_drew).c0
    have m1 := (HN.out.ext hW.of_drew).c1
    have m2 := (HN.out.ext hW.of_drew).c2
    have m3 := (HN.out.ext hW.of_drew).c3
    have m4 := (HN.out.ext hW.of_drew).c4
    have m5 := (HN.out.ext hW.of_drew).c5
    have m6 := (HN.out.ext hW.of_drew).c6
    have p0 := (HP.out.ext hW.of_drew).cell (i := 0) rfl
    have p1 := (HP.out.ext hW.of_drew).cell (i := 1) rfl
    simp only [runsT, runsF, rep, pick]
    go_wp2_with fail
    exact ⟨rfl, rfl⟩
  simp only [runsT, runsF, rep, left]
  go_wp2_with fail
  refine (made_any _ _ _ _ _ _ _ (H1.out.ext (Ext.drew _)) (H2.out.ext (Ext.drew _)) (by omega)).mono ?_
  rintro e w1 ⟨p1, rfl, hp1, hE1⟩
  go_wp2_with fail
  refine ⟨fun _ => hE1, ?_⟩
  apply segs_cons
  · intro W hW
    exact ⟨rfl, rfl⟩
  simp only [runsT, runsF, rep, left]
  go_wp2_with fail
  refine (made_any _ _ _ _ _ _ _ (H3.out.ext ((Ext.drew _).trans hE1)) (H4.out.ext ((Ext.drew _).trans hE1)) (by omega)).mono ?_
  rintro e w2 ⟨p2, rfl, hp2, hE2⟩
  go_wp2_with fail
  refine ⟨fun _ => hE2, ?_⟩
  apply segs_cons
  · intro W hW
    exact ⟨rfl, rfl⟩
  simp only [runsT, runsF, rep, left]
  go_wp2_with fail
  refine (made_any _ _ _ _ _ (.node lk lv ll ml) (.node k v mr r) (hp1.ext hE2) hp2 (by simp only [T.sz]; omega)).mono ?_
  rintro e w3 ⟨p3, rfl, hp3, hE3⟩
  go_wp2_with fail
  refine ⟨fun _ => hE3, ?_⟩
  apply segs_cons
  · intro W hW
    simp only [runsT, runsF, rep, pick]
    go_wp2_with fail
    exact ⟨rfl, rfl⟩
  simp only [runsT, runsF, rep, left]
  go_wp2_with fail
  go_ret
  exact ⟨_, rfl, hp3, hA.trans ((((Ext.drew _).trans hE1).trans hE2).trans hE3)⟩
set_option maxRecDepth 100000 in
theorem leftUp_flat (w : World) (k : Int) (v : Int × Int) (b : Nat) (pr pll plr : Option Addr) (ll lr r : T Int (Int × Int)) (lk : Int) (lv : Int × Int) (ln ld : Int)
    (hb : NodeAt w b lk lv pll plr ln ld) (h1 : isT w pll ll) (h3 : isT w plr lr) (h4 : isT w pr r) (hd : ¬ ll.dp < lr.dp) (hs : ll.sz + lr.sz + r.sz < 900000000) :
    Calls Try.prog 86 #[.int .i64 k, .agg #[.int .i64 v.1, .int .i64 v.2], .pointer (some ⟨b, 0, none⟩), .pointer pr] w fun e w' => ∃ p, e = .returned (.pointer p) ∧ isT w' p (.node lk lv ll (.node k v lr r)) ∧ Ext w w' := by
  have g1 := ll.sz_nn
  have g2 := lr.sz_nn
  have g3 := r.sz_nn
  have g4 := r.sz_nn
  have hD : decide (ll.dp < lr.dp) = false := decide_eq_false hd
  have hA : Ext w (w.alloc (Obj.cells #[.int .i64 v.1, .int .i64 v.2] 69)) := (Below.refl _ _).alloc (Nat.le_refl _) _
  have HP := Lib.hid (show Blk (w.alloc (Obj.cells #[.int .i64 v.1, .int .i64 v.2] 69)) w.heap.size #[.int .i64 v.1, .int .i64 v.2] 69 from Blk.new _ _ _)
  have c0 := (hb.ext hA).c0
  have c1 := (hb.ext hA).c1
  have c2 := (hb.ext hA).c2
  have c3 := (hb.ext hA).c3
  have c4 := (hb.ext hA).c4
  have c5 := (hb.ext hA).c5
  have c6 := (hb.ext hA).c6
  have HB := Lib.hid (hb.ext hA)
  have H1 := Lib.hid (h1.ext hA)
  have H3 := Lib.hid (h3.ext hA)
  have H4 := Lib.hid (h4.ext hA)
  clear h1 h3 h4 hb hd
  go_enter Try.func86, Try.ntmps86
  go_wp2_with fail
  refine (deep_any _ _ _ H1.out).mono ?_; rintro e w' ⟨rfl, rfl⟩
  go_wp2_with fail
  refine (deep_any _ _ _ H3.out).mono ?_; rintro e w' ⟨rfl, rfl⟩
  go_wp2_with fail
  clear c0 c1 c2 c3 c4 c5 c6
  refine wp_region_segs 22 [([19, 3], false), ([0, 2], false), ([1], false)] (by kernel_rfl) (by kernel_rfl) ?_
  apply segs_cons
  · intro W hW
    have c0 := (HB.out.ext hW.of_drew).c0
    have c1 := (HB.out.ext hW.of_drew).c1
    have c2 := (HB.out.ext hW.of_drew).c2
    have c3 := (HB.out.ext hW.of_drew).c3
    have c4 := (HB.out.ext hW.of_drew).c4
    have c5 := (HB.out.ext hW.of_drew).c5
    have c6 := (HB.out.ext hW.of_drew).c6
    have p0 := (HP.out.ext hW.of_drew).cell (i := 0) rfl
    have p1 := (HP.out.ext hW.of_drew).cell (i := 1) rfl
    simp only [runsT, runsF, rep, pick]
    go_wp2_with fail
    exact ⟨rfl, rfl⟩
  simp only [runsT, runsF, rep, left]
  go_wp2_with fail
  refine (made_any _ _ _ _ _ _ _ (H3.out.ext (Ext.drew _)) (H4.out.ext (Ext.drew _)) (by omega)).mono ?_
  rintro e w1 ⟨p1, rfl, hp1, hE1⟩
  go_wp2_with fail
  refine ⟨fun _ => hE1, ?_⟩
  apply segs_cons
  · intro W hW
    exact ⟨rfl, rfl⟩
  simp only [runsT, runsF, rep, left]
  go_wp2_with fail
  refine (made_any _ _ _ _ _ ll (.node k v lr r) (H1.out.ext ((Ext.drew _).trans hE1)) hp1 (by simp only [T.sz]; omega)).mono ?_
  rintro e w2 ⟨p2, rfl, hp2, hE2⟩
  go_wp2_with fail
  refine ⟨fun _ => hE2, ?_⟩
  apply segs_cons
  · intro W hW
    simp only [runsT, runsF, rep, pick]
    go_wp2_with fail
    exact ⟨rfl, rfl⟩
  simp only [runsT, runsF, rep, left]
  go_wp2_with fail
  go_ret
  exact ⟨_, rfl, hp2, hA.trans (((Ext.drew _).trans hE1).trans hE2)⟩
theorem leftUp_any (w : World) (k : Int) (v : Int × Int) (pl pr : Option Addr) (l r : T Int (Int × Int)) (hl : isT w pl l) (hr : isT w pr r) (hd : 0 < l.dp) (hs : l.sz + r.sz < 900000000) :
    Calls Try.prog 86 #[.int .i64 k, .agg #[.int .i64 v.1, .int .i64 v.2], .pointer pl, .pointer pr] w fun e w' => ∃ p, e = .returned (.pointer p) ∧ isT w' p (T.leftUp k v l r) ∧ Ext w w' := by
  obtain ⟨lk, lv, ll, lr, rfl⟩ := T.dp_pos hd
  obtain ⟨b, pll, plr, rfl, hb, hll, hlr⟩ := isT_node hl
  simp only [T.sz] at hs
  by_cases h : ll.dp < lr.dp
  · obtain ⟨mk, mv, ml, mr, rfl⟩ := T.dp_pos (t := lr) (by have := ll.dp_nn; omega)
    obtain ⟨bm, pml, pmr, rfl, hm, hml, hmr⟩ := isT_node hlr
    have e : T.leftUp k v (.node lk lv ll (.node mk mv ml mr)) r = .node mk mv (.node lk lv ll ml) (.node k v mr r) := by simp only [T.leftUp]; rw [if_pos h]
    rw [e]
    simp only [T.sz] at hs
    exact leftUp_deep w k v b bm pr pll pml pmr ll ml mr r lk mk lv mv _ _ _ _ hb hm hlr hll hml hmr hr h (by omega)
  · have e : T.leftUp k v (.node lk lv ll lr) r = .node lk lv ll (.node k v lr r) := by simp only [T.leftUp]; rw [if_neg h]
    rw [e]
    exact leftUp_flat w k v b pr pll plr ll lr r lk lv _ _ hb hll hlr hr h (by omega)
set_option maxRecDepth 100000 in
theorem rightUp_deep (w : World) (k : Int) (v : Int × Int) (b bm : Nat) (pl prr pml pmr : Option Addr) (l ml mr rr : T Int (Int × Int)) (rk mk : Int) (rv mv : Int × Int) (rn rd mn md : Int)
    (hb : NodeAt w b rk rv (some ⟨bm, 0, none⟩) prr rn rd) (hm : NodeAt w bm mk mv pml pmr mn md) (hM : isT w (some ⟨bm, 0, none⟩) (.node mk mv ml mr))
    (h1 : isT w pl l) (h2 : isT w pml ml) (h3 : isT w pmr mr) (h4 : isT w prr rr) (hd : rr.dp < (T.node mk mv ml mr).dp) (hs : l.sz + ml.sz + mr.sz + rr.sz < 900000000) :
    Calls Try.prog 87 #[.int .i64 k, .agg #[.int .i64 v.1, .int .i64 v.2], .pointer pl, .pointer (some ⟨b, 0, none⟩)] w fun e w' => ∃ p, e = .returned (.pointer p) ∧ isT w' p (.node mk mv (.node k v l ml) (.node rk rv mr rr)) ∧ Ext w w' := by
  have g1 := l.sz_nn
  have g2 := ml.sz_nn
  have g3 := mr.sz_nn
  have g4 := rr.sz_nn
  have hD : decide (rr.dp < (T.node mk mv ml mr).dp) = true := decide_eq_true hd
  have hA : Ext w (w.alloc (Obj.cells #[.int .i64 v.1, .int .i64 v.2] 69)) := (Below.refl _ _).alloc (Nat.le_refl _) _
  have HP := Lib.hid (show Blk (w.alloc (Obj.cells #[.int .i64 v.1, .int .i64 v.2] 69)) w.heap.size #[.int .i64 v.1, .int .i64 v.2] 69 from Blk.new _ _ _)
  have c0 := (hb.ext hA).c0
  have c1 := (hb.ext hA).c1
  have c2 := (hb.ext hA).c2
  have c3 := (hb.ext hA).c3
  have c4 := (hb.ext hA).c4
  have c5 := (hb.ext hA).c5
  have c6 := (hb.ext hA).c6
  have HB := Lib.hid (hb.ext hA)
  have HN := Lib.hid (hm.ext hA)
  have H1 := Lib.hid (h1.ext hA)
  have H2 := Lib.hid (h2.ext hA)
  have H3 := Lib.hid (h3.ext hA)
  have H4 := Lib.hid (h4.ext hA)
  have HM := Lib.hid (hM.ext hA)
  clear h1 h2 h3 h4 hm hb hM hd
  go_enter Try.func87, Try.ntmps87
  go_wp2_with fail
  refine (deep_any _ _ _ H4.out).mono ?_; rintro e w' ⟨rfl, rfl⟩
  go_wp2_with fail
  refine (deep_any _ _ _ HM.out).mono ?_; rintro e w' ⟨rfl, rfl⟩
  go_wp2_with fail
  clear c0 c1 c2 c3 c4 c5 c6
  refine wp_region_segs 35 [([15, 1, 16, 3], false), ([0, 3], false), ([0, 2], false), ([1], false)] (by kernel_rfl) (by kernel_rfl) ?_
  apply segs_cons
  · intro W hW
    have c0 := (HB.out.ext hW.of_drew).c0
    have c1 := (HB.out.ext hW.of_drew).c1
    have c2 := (HB.out.ext hW.of_drew).c2
    have c3 := (HB.out.ext hW.of_drew).c3
    have c4 := (HB.out.ext hW.of_drew).c4
    have c5 := (HB.out.ext hW.of_drew).c5
    have c6 := (HB.out.ext hW.of_drew).c6
    have m0 := (HN.out.ext hW.of_drew).c0
    have m1 := (HN.out.ext hW.of_drew).c1
    have m2 := (HN.out.ext hW.of_drew).c2
    have m3 := (HN.out.ext hW.of_drew).c3
    have m4 := (HN.out.ext hW.of_drew).c4
    have m5 := (HN.out.ext hW.of_drew).c5
    have m6 := (HN.out.ext hW.of_drew).c6
    have p0 := (HP.out.ext hW.of_drew).cell (i := 0) rfl
    have p1 := (HP.out.ext hW.of_drew).cell (i := 1) rfl
    simp only [runsT, runsF, rep, pick]
    go_wp2_with fail
    exact ⟨rfl, rfl⟩
  simp only [runsT, runsF, rep, left]
  go_wp2_with fail
  refine (made_any _ _ _ _ _ _ _ (H1.out.ext (Ext.drew _)) (H2.out.ext (Ext.drew _)) (by omega)).mono ?_
  rintro e w1 ⟨p1, rfl, hp1, hE1⟩
  go_wp2_with fail
  refine ⟨fun _ => hE1, ?_⟩
  apply segs_cons
  · intro W hW
    exact ⟨rfl, rfl⟩
  simp only [runsT, runsF, rep, left]
  go_wp2_with fail
  refine (made_any _ _ _ _ _ _ _ (H3.out.ext ((Ext.drew _).trans hE1)) (H4.out.ext ((Ext.drew _).trans hE1)) (by omega)).mono ?_
  rintro e w2 ⟨p2, rfl, hp2, hE2⟩
  go_wp2_with fail
  refine ⟨fun _ => hE2, ?_⟩
  apply segs_cons
  · intro W hW
    exact ⟨rfl, rfl⟩
  simp only [runsT, runsF, rep, left]
  go_wp2_with fail
  refine (made_any _ _ _ _ _ (.node k v l ml) (.node rk rv mr rr) (hp1.ext hE2) hp2 (by simp only [T.sz]; omega)).mono ?_
  rintro e w3 ⟨p3, rfl, hp3, hE3⟩
  go_wp2_with fail
  refine ⟨fun _ => hE3, ?_⟩
  apply segs_cons
  · intro W hW
    simp only [runsT, runsF, rep, pick]
    go_wp2_with fail
    exact ⟨rfl, rfl⟩
  simp only [runsT, runsF, rep, left]
  go_wp2_with fail
  go_ret
  exact ⟨_, rfl, hp3, hA.trans ((((Ext.drew _).trans hE1).trans hE2).trans hE3)⟩
set_option maxRecDepth 100000 in
theorem rightUp_flat (w : World) (k : Int) (v : Int × Int) (b : Nat) (pl prl prr : Option Addr) (l rl rr : T Int (Int × Int)) (rk : Int) (rv : Int × Int) (rn rd : Int)
    (hb : NodeAt w b rk rv prl prr rn rd) (h1 : isT w pl l) (h3 : isT w prl rl) (h4 : isT w prr rr) (hd : ¬ rr.dp < rl.dp) (hs : l.sz + rl.sz + rr.sz < 900000000) :
    Calls Try.prog 87 #[.int .i64 k, .agg #[.int .i64 v.1, .int .i64 v.2], .pointer pl, .pointer (some ⟨b, 0, none⟩)] w fun e w' => ∃ p, e = .returned (.pointer p) ∧ isT w' p (.node rk rv (.node k v l rl) rr) ∧ Ext w w' := by
  have g1 := l.sz_nn
  have g2 := rl.sz_nn
  have g3 := rr.sz_nn
  have g4 := rr.sz_nn
  have hD : decide (rr.dp < rl.dp) = false := decide_eq_false hd
  have hA : Ext w (w.alloc (Obj.cells #[.int .i64 v.1, .int .i64 v.2] 69)) := (Below.refl _ _).alloc (Nat.le_refl _) _
  have HP := Lib.hid (show Blk (w.alloc (Obj.cells #[.int .i64 v.1, .int .i64 v.2] 69)) w.heap.size #[.int .i64 v.1, .int .i64 v.2] 69 from Blk.new _ _ _)
  have c0 := (hb.ext hA).c0
  have c1 := (hb.ext hA).c1
  have c2 := (hb.ext hA).c2
  have c3 := (hb.ext hA).c3
  have c4 := (hb.ext hA).c4
  have c5 := (hb.ext hA).c5
  have c6 := (hb.ext hA).c6
  have HB := Lib.hid (hb.ext hA)
  have H1 := Lib.hid (h1.ext hA)
  have H3 := Lib.hid (h3.ext hA)
  have H4 := Lib.hid (h4.ext hA)
  clear h1 h3 h4 hb hd
  go_enter Try.func87, Try.ntmps87
  go_wp2_with fail
  refine (deep_any _ _ _ H4.out).mono ?_; rintro e w' ⟨rfl, rfl⟩
  go_wp2_with fail
  refine (deep_any _ _ _ H3.out).mono ?_; rintro e w' ⟨rfl, rfl⟩
  go_wp2_with fail
  clear c0 c1 c2 c3 c4 c5 c6
  refine wp_region_segs 22 [([15, 1, 4, 2], false), ([0, 2], false), ([1], false)] (by kernel_rfl) (by kernel_rfl) ?_
  apply segs_cons
  · intro W hW
    have c0 := (HB.out.ext hW.of_drew).c0
    have c1 := (HB.out.ext hW.of_drew).c1
    have c2 := (HB.out.ext hW.of_drew).c2
    have c3 := (HB.out.ext hW.of_drew).c3
    have c4 := (HB.out.ext hW.of_drew).c4
    have c5 := (HB.out.ext hW.of_drew).c5
    have c6 := (HB.out.ext hW.of_drew).c6
    have p0 := (HP.out.ext hW.of_drew).cell (i := 0) rfl
    have p1 := (HP.out.ext hW.of_drew).cell (i := 1) rfl
    simp only [runsT, runsF, rep, pick]
    go_wp2_with fail
    exact ⟨rfl, rfl⟩
  simp only [runsT, runsF, rep, left]
  go_wp2_with fail
  refine (made_any _ _ _ _ _ _ _ (H1.out.ext (Ext.drew _)) (H3.out.ext (Ext.drew _)) (by omega)).mono ?_
  rintro e w1 ⟨p1, rfl, hp1, hE1⟩
  go_wp2_with fail
  refine ⟨fun _ => hE1, ?_⟩
  apply segs_cons
  · intro W hW
    exact ⟨rfl, rfl⟩
  simp only [runsT, runsF, rep, left]
  go_wp2_with fail
  refine (made_any _ _ _ _ _ (.node k v l rl) rr hp1 (H4.out.ext ((Ext.drew _).trans hE1)) (by simp only [T.sz]; omega)).mono ?_
  rintro e w2 ⟨p2, rfl, hp2, hE2⟩
  go_wp2_with fail
  refine ⟨fun _ => hE2, ?_⟩
  apply segs_cons
  · intro W hW
    simp only [runsT, runsF, rep, pick]
    go_wp2_with fail
    exact ⟨rfl, rfl⟩
  simp only [runsT, runsF, rep, left]
  go_wp2_with fail
  go_ret
  exact ⟨_, rfl, hp2, hA.trans (((Ext.drew _).trans hE1).trans hE2)⟩
theorem rightUp_any (w : World) (k : Int) (v : Int × Int) (pl pr : Option Addr) (l r : T Int (Int × Int)) (hl : isT w pl l) (hr : isT w pr r) (hd : 0 < r.dp) (hs : l.sz + r.sz < 900000000) :
    Calls Try.prog 87 #[.int .i64 k, .agg #[.int .i64 v.1, .int .i64 v.2], .pointer pl, .pointer pr] w fun e w' => ∃ p, e = .returned (.pointer p) ∧ isT w' p (T.rightUp k v l r) ∧ Ext w w' := by
  obtain ⟨rk, rv, rl, rr, rfl⟩ := T.dp_pos hd
  obtain ⟨b, prl, prr, rfl, hb, hrl, hrr⟩ := isT_node hr
  simp only [T.sz] at hs
  by_cases h : rr.dp < rl.dp
  · obtain ⟨mk, mv, ml, mr, rfl⟩ := T.dp_pos (t := rl) (by have := rr.dp_nn; omega)
    obtain ⟨bm, pml, pmr, rfl, hm, hml, hmr⟩ := isT_node hrl
    have e : T.rightUp k v l (.node rk rv (.node mk mv ml mr) rr) = .node mk mv (.node k v l ml) (.node rk rv mr rr) := by simp only [T.rightUp]; rw [if_pos h]
    rw [e]
    simp only [T.sz] at hs
    exact rightUp_deep w k v b bm pl prr pml pmr l ml mr rr rk mk rv mv _ _ _ _ hb hm hrl hl hml hmr hrr h (by omega)
  · have e : T.rightUp k v l (.node rk rv rl rr) = .node rk rv (.node k v l rl) rr := by simp only [T.rightUp]; rw [if_neg h]
    rw [e]
    exact rightUp_flat w k v b pl prl prr l rl rr rk rv _ _ hb hl hrl hrr h (by omega)
theorem joined_any (w : World) (k : Int) (v : Int × Int) (pl pr : Option Addr) (l r : T Int (Int × Int)) (hl : isT w pl l) (hr : isT w pr r) (hs : l.sz + r.sz < 900000000) :
    Calls Try.prog 74 #[.int .i64 k, .agg #[.int .i64 v.1, .int .i64 v.2], .pointer pl, .pointer pr] w fun e w' => ∃ p, e = .returned (.pointer p) ∧ isT w' p (T.joined k v l r) ∧ Ext w w' := by
  have h3 := l.dp_nn
  have h4 := r.dp_nn
  have h5 := l.dp_le_sz
  have h6 := r.dp_le_sz
  have h7 := l.sz_nn
  have h8 := r.sz_nn
  have hA : Ext w (w.alloc (Obj.cells #[.int .i64 v.1, .int .i64 v.2] 69)) := (Below.refl _ _).alloc (Nat.le_refl _) _
  have HP := Lib.hid (show Blk (w.alloc (Obj.cells #[.int .i64 v.1, .int .i64 v.2] 69)) w.heap.size #[.int .i64 v.1, .int .i64 v.2] 69 from Blk.new _ _ _)
  have p0 := HP.out.cell (i := 0) rfl
  have p1 := HP.out.cell (i := 1) rfl
  have H1 := Lib.hid (hl.ext hA)
  have H2 := Lib.hid (hr.ext hA)
  clear hl hr
  by_cases c1 : l.dp - r.dp > 1
  · have e : T.joined k v l r = T.leftUp k v l r := by unfold T.joined; rw [if_pos c1]
    rw [e]
    have hd : decide (1 < l.dp - r.dp) = true := decide_eq_true c1
    clear e
    go_enter Try.func74, Try.ntmps74
    go_wp2_with fail
    refine (deep_any _ _ _ H1.out).mono ?_; rintro e w' ⟨rfl, rfl⟩
    go_wp2_with fail
    refine (deep_any _ _ _ H2.out).mono ?_; rintro e w' ⟨rfl, rfl⟩
    go_wp2_with fail
    refine (leftUp_any _ _ _ _ _ _ _ H1.out H2.out (by omega) hs).mono ?_
    rintro e w1 ⟨p1, rfl, hp1, hE1⟩
    go_wp2_with fail
    go_ret
    exact ⟨_, rfl, hp1, hA.trans hE1⟩
  · by_cases c2 : l.dp - r.dp < -1
    · have e : T.joined k v l r = T.rightUp k v l r := by unfold T.joined; rw [if_neg c1, if_pos c2]
      rw [e]
      have hd : decide (1 < l.dp - r.dp) = false := decide_eq_false c1
      have hd2 : decide (l.dp - r.dp < -1) = true := decide_eq_true c2
      clear e
      go_enter Try.func74, Try.ntmps74
      go_wp2_with fail
      refine (deep_any _ _ _ H1.out).mono ?_; rintro e w' ⟨rfl, rfl⟩
      go_wp2_with fail
      refine (deep_any _ _ _ H2.out).mono ?_; rintro e w' ⟨rfl, rfl⟩
      go_wp2_with fail
      refine (rightUp_any _ _ _ _ _ _ _ H1.out H2.out (by omega) hs).mono ?_
      rintro e w1 ⟨p1, rfl, hp1, hE1⟩
      go_wp2_with fail
      go_ret
      exact ⟨_, rfl, hp1, hA.trans hE1⟩
    · have e : T.joined k v l r = .node k v l r := by unfold T.joined; rw [if_neg c1, if_neg c2]
      rw [e]
      have hd : decide (1 < l.dp - r.dp) = false := decide_eq_false c1
      have hd2 : decide (l.dp - r.dp < -1) = false := decide_eq_false c2
      clear e
      go_enter Try.func74, Try.ntmps74
      go_wp2_with fail
      refine (deep_any _ _ _ H1.out).mono ?_; rintro e w' ⟨rfl, rfl⟩
      go_wp2_with fail
      refine (deep_any _ _ _ H2.out).mono ?_; rintro e w' ⟨rfl, rfl⟩
      go_wp2_with fail
      refine (made_any _ _ _ _ _ _ _ H1.out H2.out (by omega)).mono ?_
      rintro e w1 ⟨p1, rfl, hp1, hE1⟩
      go_wp2_with fail
      go_ret
      exact ⟨_, rfl, hp1, hA.trans hE1⟩
/-- The tree's own block. -/
def TreeAt (w : World) (b : Nat) (root : Option Addr) : Prop := Blk w b #[.func (.func 45) #[] #[], .pointer root] 84
theorem TreeAt.ext {w w' : World} {b : Nat} {root : Option Addr} (h : TreeAt w b root) (e : Ext w w') : TreeAt w' b root := Blk.ext h e
theorem TreeAt.c0 {w : World} {b : Nat} {root : Option Addr} (h : TreeAt w b root) : w.cell? ⟨b, 0, none⟩ = some (.func (.func 45) #[] #[]) := Blk.cell h rfl
theorem TreeAt.c1 {w : World} {b : Nat} {root : Option Addr} (h : TreeAt w b root) : w.cell? ⟨b, 1, none⟩ = some (.pointer root) := Blk.cell h rfl
/-- A tree of these keys and things. -/
def isTree (w : World) (p : Option Addr) (t : T Int (Int × Int)) : Prop := ∃ b root, p = some ⟨b, 0, none⟩ ∧ TreeAt w b root ∧ isT w root t
theorem isTree.ext {w w' : World} (e : Ext w w') {t : T Int (Int × Int)} {p : Option Addr} : isTree w p t → isTree w' p t := fun ⟨b, root, hp, hb, ht⟩ => ⟨b, root, hp, hb.ext e, ht.ext e⟩
theorem isT.chg {S : Nat → Prop} {w w' : World} (hc : Chg S w w') (hn : Off S w 102) : ∀ {t : T Int (Int × Int)} {p : Option Addr}, isT w p t → isT w' p t
  | .nil, _, hp => hp
  | .node _ _ _ _, _, ⟨b, pl, pr, hp, hb, hl, hr⟩ => ⟨b, pl, pr, hp, Blk.chg hb hc hn, hl.chg hc hn, hr.chg hc hn⟩
theorem isTree.chg {S : Nat → Prop} {w w' : World} (hc : Chg S w w') (hn : Off S w 102) (hn' : Off S w 84) {t : T Int (Int × Int)} {p : Option Addr} : isTree w p t → isTree w' p t := fun ⟨b, root, hp, hb, ht⟩ => ⟨b, root, hp, Blk.chg hb hc hn', ht.chg hc hn⟩
theorem nan_any (a : Int) (w : World) : Calls Try.prog 57 #[.int .i64 a] w fun e w' => e = .returned (.bool false) ∧ w = w' := by
  go_enter Try.func57, Try.ntmps57
  go_wp2
  go_ret
  exact ⟨rfl, rfl⟩
theorem cmp_any (a b : Int) (w : World) : Calls Try.prog 45 #[.int .i64 a, .int .i64 b] w fun e w' => e = .returned (.int .i64 (cint a b)) ∧ w = w' := by
  go_enter Try.func45, Try.ntmps45
  go_wp2_with (go_at_call 57; refine (nan_any _ _).mono ?_; rintro e w' ⟨rfl, rfl⟩)
  all_goals
    go_ret
    refine ⟨?_, rfl⟩
    unfold cint
    first
      | (rw [if_pos (by omega)]; rfl)
      | (rw [if_neg (by omega), if_pos (by omega)]; rfl)
      | (rw [if_neg (by omega), if_neg (by omega)]; rfl)
set_option maxRecDepth 100000 in
theorem put_any (k : Int) (v : Int × Int) : ∀ (t : T Int (Int × Int)) (p : Option Addr) (w : World) (tb : Nat) (root : Option Addr), isT w p t → TreeAt w tb root → t.sz < 800000000 →
    Calls Try.prog 55 #[.pointer (some ⟨tb, 0, none⟩), .pointer p, .int .i64 k, .agg #[.int .i64 v.1, .int .i64 v.2]] w fun e w' => ∃ q, e = .returned (.pointer q) ∧ isT w' q (T.put cint k v t) ∧ Ext w w' := by
  intro t
  induction t with
  | nil =>
    intro p w tb root hp hT _
    obtain rfl := hp
    clear hT
    have hA : Ext w (w.alloc (Obj.cells #[.int .i64 v.1, .int .i64 v.2] 69)) := (Below.refl _ _).alloc (Nat.le_refl _) _
    have HP := Lib.hid (show Blk (w.alloc (Obj.cells #[.int .i64 v.1, .int .i64 v.2] 69)) w.heap.size #[.int .i64 v.1, .int .i64 v.2] 69 from Blk.new _ _ _)
    have p0 := HP.out.cell (i := 0) rfl
    have p1 := HP.out.cell (i := 1) rfl
    go_enter Try.func55, Try.ntmps55
    go_wp2_with fail
    refine (made_any _ _ _ _ _ .nil .nil rfl rfl (by simp [T.sz])).mono ?_
    rintro e w1 ⟨p1, rfl, hp1, hE1⟩
    go_wp2_with fail
    go_ret
    exact ⟨_, rfl, hp1, hA.trans hE1⟩
  | node xk xv l r ihl ihr =>
    intro p w tb root hp hT hs
    obtain ⟨b, pl, pr, rfl, hb, hl, hr⟩ := isT_node hp
    simp only [T.sz] at hs
    have g1 := l.sz_nn
    have g2 := r.sz_nn
    have hA : Ext w (w.alloc (Obj.cells #[.int .i64 v.1, .int .i64 v.2] 69)) := (Below.refl _ _).alloc (Nat.le_refl _) _
    have HP := Lib.hid (show Blk (w.alloc (Obj.cells #[.int .i64 v.1, .int .i64 v.2] 69)) w.heap.size #[.int .i64 v.1, .int .i64 v.2] 69 from Blk.new _ _ _)
    have p0 := HP.out.cell (i := 0) rfl
    have p1 := HP.out.cell (i := 1) rfl
    have HB := Lib.hid (hb.ext hA)
    have HT := Lib.hid (hT.ext hA)
    have H1 := Lib.hid (hl.ext hA)
    have H2 := Lib.hid (hr.ext hA)
    have IHL0 := Lib.hid ihl
    have IHR0 := Lib.hid ihr
    clear hb hT hl hr hp ihl ihr
    by_cases q1 : cint k xk < 0
    · have e : T.put cint k v (.node xk xv l r) = T.joined xk xv (T.put cint k v l) r := by simp only [T.put]; rw [if_pos q1]
      rw [e]
      have hd : decide (cint k xk < 0) = true := decide_eq_true q1
      clear e
      go_enter Try.func55, Try.ntmps55
      go_wp2_with fail
      refine wp_region_segs 11 [([9, 2], false), ([1], false)] (by kernel_rfl) (by kernel_rfl) ?_
      apply segs_cons
      · intro W hW
        have c0 := (HB.out.ext hW.of_drew).c0
        have c1 := (HB.out.ext hW.of_drew).c1
        have c2 := (HB.out.ext hW.of_drew).c2
        have c3 := (HB.out.ext hW.of_drew).c3
        have c4 := (HB.out.ext hW.of_drew).c4
        have c5 := (HB.out.ext hW.of_drew).c5
        have c6 := (HB.out.ext hW.of_drew).c6
        have t0 := (HT.out.ext hW.of_drew).c0
        have t1 := (HT.out.ext hW.of_drew).c1
        have p0 := (HP.out.ext hW.of_drew).cell (i := 0) rfl
        have p1 := (HP.out.ext hW.of_drew).cell (i := 1) rfl
        simp only [runsT, runsF, rep, pick]
        go_wp2_with fail
        exact ⟨rfl, rfl⟩
      simp only [runsT, runsF, rep, left]
      go_wp2_with fail
      refine (cmp_any _ _ _).mono ?_
      rintro e w' ⟨rfl, rfl⟩
      go_wp2_with fail
      refine ⟨fun _ => Ext.refl _, ?_⟩
      apply segs_cons
      · intro W hW
        simp only [runsT, runsF, rep, pick]
        go_wp2_with fail
        exact ⟨rfl, rfl⟩
      simp only [runsT, runsF, rep, left]
      go_wp2_with fail
      have IHL := IHL0.out
      refine wp_region_segs 22 [([15, 1, 4, 2], false), ([0, 2], false), ([1], false)] (by kernel_rfl) (by kernel_rfl) ?_
      apply segs_cons
      · intro W hW
        have c0 := (HB.out.ext ((Ext.drew _).trans hW.of_drew)).c0
        have c1 := (HB.out.ext ((Ext.drew _).trans hW.of_drew)).c1
        have c2 := (HB.out.ext ((Ext.drew _).trans hW.of_drew)).c2
        have c3 := (HB.out.ext ((Ext.drew _).trans hW.of_drew)).c3
        have c4 := (HB.out.ext ((Ext.drew _).trans hW.of_drew)).c4
        have c5 := (HB.out.ext ((Ext.drew _).trans hW.of_drew)).c5
        have c6 := (HB.out.ext ((Ext.drew _).trans hW.of_drew)).c6
        have p0 := (HP.out.ext ((Ext.drew _).trans hW.of_drew)).cell (i := 0) rfl
        have p1 := (HP.out.ext ((Ext.drew _).trans hW.of_drew)).cell (i := 1) rfl
        simp only [runsT, runsF, rep, pick]
        go_wp2_with fail
        exact ⟨rfl, rfl⟩
      simp only [runsT, runsF, rep, left]
      go_wp2_with fail
      refine (IHL pl _ tb root (H1.out.ext ((Ext.drew _).trans (Ext.drew _))) (HT.out.ext ((Ext.drew _).trans (Ext.drew _))) (by omega)).mono ?_
      rintro e w1 ⟨p1, rfl, hp1, hE1⟩
      go_wp2_with fail
      refine ⟨fun _ => hE1, ?_⟩
      apply segs_cons
      · intro W hW
        exact ⟨rfl, rfl⟩
      simp only [runsT, runsF, rep, left]
      go_wp2_with fail
      refine (joined_any _ _ _ _ _ _ _ hp1 (H2.out.ext (((Ext.drew _).trans (Ext.drew _)).trans hE1)) (by have := T.sz_put_le cint k v l; omega)).mono ?_
      rintro e w2 ⟨p2, rfl, hp2, hE2⟩
      go_wp2_with fail
      refine ⟨fun _ => hE2, ?_⟩
      apply segs_cons
      · intro W hW
        simp only [runsT, runsF, rep, pick]
        go_wp2_with fail
        exact ⟨rfl, rfl⟩
      simp only [runsT, runsF, rep, left]
      go_wp2_with fail
      go_ret
      exact ⟨_, rfl, hp2, hA.trans ((((Ext.drew _).trans (Ext.drew _)).trans hE1).trans hE2)⟩
    · by_cases q2 : cint k xk > 0
      · have e : T.put cint k v (.node xk xv l r) = T.joined xk xv l (T.put cint k v r) := by simp only [T.put]; rw [if_neg q1, if_pos q2]
        rw [e]
        have hd : decide (cint k xk < 0) = false := decide_eq_false q1
        have hd2 : decide (0 < cint k xk) = true := decide_eq_true q2
        clear e
        go_enter Try.func55, Try.ntmps55
        go_wp2_with fail
        refine wp_region_segs 11 [([9, 2], false), ([1], false)] (by kernel_rfl) (by kernel_rfl) ?_
        apply segs_cons
        · intro W hW
          have c0 := (HB.out.ext hW.of_drew).c0
          have c1 := (HB.out.ext hW.of_drew).c1
          have c2 := (HB.out.ext hW.of_drew).c2
          have c3 := (HB.out.ext hW.of_drew).c3
          have c4 := (HB.out.ext hW.of_drew).c4
          have c5 := (HB.out.ext hW.of_drew).c5
          have c6 := (HB.out.ext hW.of_drew).c6
          have t0 := (HT.out.ext hW.of_drew).c0
          have t1 := (HT.out.ext hW.of_drew).c1
          have p0 := (HP.out.ext hW.of_drew).cell (i := 0) rfl
          have p1 := (HP.out.ext hW.of_drew).cell (i := 1) rfl
          simp only [runsT, runsF, rep, pick]
          go_wp2_with fail
          exact ⟨rfl, rfl⟩
        simp only [runsT, runsF, rep, left]
        go_wp2_with fail
        refine (cmp_any _ _ _).mono ?_
        rintro e w' ⟨rfl, rfl⟩
        go_wp2_with fail
        refine ⟨fun _ => Ext.refl _, ?_⟩
        apply segs_cons
        · intro W hW
          simp only [runsT, runsF, rep, pick]
          go_wp2_with fail
          exact ⟨rfl, rfl⟩
        simp only [runsT, runsF, rep, left]
        go_wp2_with fail
        have IHR := IHR0.out
        refine wp_region_segs 22 [([19, 3], false), ([0, 2], false), ([1], false)] (by kernel_rfl) (by kernel_rfl) ?_
        apply segs_cons
        · intro W hW
          have c0 := (HB.out.ext ((Ext.drew _).trans hW.of_drew)).c0
          have c1 := (HB.out.ext ((Ext.drew _).trans hW.of_drew)).c1
          have c2 := (HB.out.ext ((Ext.drew _).trans hW.of_drew)).c2
          have c3 := (HB.out.ext ((Ext.drew _).trans hW.of_drew)).c3
          have c4 := (HB.out.ext ((Ext.drew _).trans hW.of_drew)).c4
          have c5 := (HB.out.ext ((Ext.drew _).trans hW.of_drew)).c5
          have c6 := (HB.out.ext ((Ext.drew _).trans hW.of_drew)).c6
          have p0 := (HP.out.ext ((Ext.drew _).trans hW.of_drew)).cell (i := 0) rfl
          have p1 := (HP.out.ext ((Ext.drew _).trans hW.of_drew)).cell (i := 1) rfl
          simp only [runsT, runsF, rep, pick]
          go_wp2_with fail
          exact ⟨rfl, rfl⟩
        simp only [runsT, runsF, rep, left]
        go_wp2_with fail
        refine (IHR pr _ tb root (H2.out.ext ((Ext.drew _).trans (Ext.drew _))) (HT.out.ext ((Ext.drew _).trans (Ext.drew _))) (by omega)).mono ?_
        rintro e w1 ⟨p1, rfl, hp1, hE1⟩
        go_wp2_with fail
        refine ⟨fun _ => hE1, ?_⟩
        apply segs_cons
        · intro W hW
          exact ⟨rfl, rfl⟩
        simp only [runsT, runsF, rep, left]
        go_wp2_with fail
        refine (joined_any _ _ _ _ _ _ _ (H1.out.ext (((Ext.drew _).trans (Ext.drew _)).trans hE1)) hp1 (by have := T.sz_put_le cint k v r; omega)).mono ?_
        rintro e w2 ⟨p2, rfl, hp2, hE2⟩
        go_wp2_with fail
        refine ⟨fun _ => hE2, ?_⟩
        apply segs_cons
        · intro W hW
          simp only [runsT, runsF, rep, pick]
          go_wp2_with fail
          exact ⟨rfl, rfl⟩
        simp only [runsT, runsF, rep, left]
        go_wp2_with fail
        go_ret
        exact ⟨_, rfl, hp2, hA.trans ((((Ext.drew _).trans (Ext.drew _)).trans hE1).trans hE2)⟩
      · have e : T.put cint k v (.node xk xv l r) = .node k v l r := by simp only [T.put]; rw [if_neg q1, if_neg q2]
        rw [e]
        have hd : decide (cint k xk < 0) = false := decide_eq_false q1
        have hd2 : decide (0 < cint k xk) = false := decide_eq_false q2
        clear e
        go_enter Try.func55, Try.ntmps55
        go_wp2_with fail
        refine wp_region_segs 11 [([9, 2], false), ([1], false)] (by kernel_rfl) (by kernel_rfl) ?_
        apply segs_cons
        · intro W hW
          have c0 := (HB.out.ext hW.of_drew).c0
          have c1 := (HB.out.ext hW.of_drew).c1
          have c2 := (HB.out.ext hW.of_drew).c2
          have c3 := (HB.out.ext hW.of_drew).c3
          have c4 := (HB.out.ext hW.of_drew).c4
          have c5 := (HB.out.ext hW.of_drew).c5
          have c6 := (HB.out.ext hW.of_drew).c6
          have t0 := (HT.out.ext hW.of_drew).c0
          have t1 := (HT.out.ext hW.of_drew).c1
          have p0 := (HP.out.ext hW.of_drew).cell (i := 0) rfl
          have p1 := (HP.out.ext hW.of_drew).cell (i := 1) rfl
          simp only [runsT, runsF, rep, pick]
          go_wp2_with fail
          exact ⟨rfl, rfl⟩
        simp only [runsT, runsF, rep, left]
        go_wp2_with fail
        refine (cmp_any _ _ _).mono ?_
        rintro e w' ⟨rfl, rfl⟩
        go_wp2_with fail
        refine ⟨fun _ => Ext.refl _, ?_⟩
        apply segs_cons
        · intro W hW
          simp only [runsT, runsF, rep, pick]
          go_wp2_with fail
          exact ⟨rfl, rfl⟩
        simp only [runsT, runsF, rep, left]
        go_wp2_with fail
        refine wp_region_segs 12 [([10, 2], false), ([1], false)] (by kernel_rfl) (by kernel_rfl) ?_
        apply segs_cons
        · intro W hW
          have c0 := (HB.out.ext ((Ext.drew _).trans hW.of_drew)).c0
          have c1 := (HB.out.ext ((Ext.drew _).trans hW.of_drew)).c1
          have c2 := (HB.out.ext ((Ext.drew _).trans hW.of_drew)).c2
          have c3 := (HB.out.ext ((Ext.drew _).trans hW.of_drew)).c3
          have c4 := (HB.out.ext ((Ext.drew _).trans hW.of_drew)).c4
          have c5 := (HB.out.ext ((Ext.drew _).trans hW.of_drew)).c5
          have c6 := (HB.out.ext ((Ext.drew _).trans hW.of_drew)).c6
          have p0 := (HP.out.ext ((Ext.drew _).trans hW.of_drew)).cell (i := 0) rfl
          have p1 := (HP.out.ext ((Ext.drew _).trans hW.of_drew)).cell (i := 1) rfl
          simp only [runsT, runsF, rep, pick]
          go_wp2_with fail
          exact ⟨rfl, rfl⟩
        simp only [runsT, runsF, rep, left]
        go_wp2_with fail
        refine (made_any _ _ _ _ _ _ _ (H1.out.ext ((Ext.drew _).trans (Ext.drew _))) (H2.out.ext ((Ext.drew _).trans (Ext.drew _))) (by omega)).mono ?_
        rintro e w1 ⟨p1, rfl, hp1, hE1⟩
        go_wp2_with fail
        refine ⟨fun _ => hE1, ?_⟩
        apply segs_cons
        · intro W hW
          simp only [runsT, runsF, rep, pick]
          go_wp2_with fail
          exact ⟨rfl, rfl⟩
        simp only [runsT, runsF, rep, left]
        go_wp2_with fail
        go_ret
        exact ⟨_, rfl, hp1, hA.trans (((Ext.drew _).trans (Ext.drew _)).trans hE1)⟩
set_option maxRecDepth 100000 in
theorem Put_any (k : Int) (v : Int × Int) (t : T Int (Int × Int)) (p : Option Addr) (w : World) (h : isTree w p t) (hs : t.sz < 800000000) :
    Calls Try.prog 42 #[.pointer p, .int .i64 k, .agg #[.int .i64 v.1, .int .i64 v.2]] w fun e w' => ∃ q, e = .returned (.pointer q) ∧ isTree w' q (T.put cint k v t) ∧ Ext w w' := by
  obtain ⟨tb, root, rfl, hT, hR⟩ := h
  have hA : Ext w (w.alloc (Obj.cells #[.int .i64 v.1, .int .i64 v.2] 69)) := (Below.refl _ _).alloc (Nat.le_refl _) _
  have HP := Lib.hid (show Blk (w.alloc (Obj.cells #[.int .i64 v.1, .int .i64 v.2] 69)) w.heap.size #[.int .i64 v.1, .int .i64 v.2] 69 from Blk.new _ _ _)
  have HT := Lib.hid (hT.ext hA)
  have H1 := Lib.hid (hR.ext hA)
  clear hT hR
  go_enter Try.func42, Try.ntmps42
  go_wp2_with fail
  refine wp_region_segs 15 [([11, 4], false), ([1, 2], false), ([1], false)] (by kernel_rfl) (by kernel_rfl) ?_
  apply segs_cons
  · intro W hW
    have t0 := (HT.out.ext hW.of_drew).c0
    have t1 := (HT.out.ext hW.of_drew).c1
    have p0 := (HP.out.ext hW.of_drew).cell (i := 0) rfl
    have p1 := (HP.out.ext hW.of_drew).cell (i := 1) rfl
    simp only [runsT, runsF, rep, pick]
    go_wp2_with fail
    exact ⟨rfl, rfl⟩
  simp only [runsT, runsF, rep, left]
  go_wp2_with fail
  refine (put_any _ _ _ _ _ tb root (H1.out.ext (Ext.drew _)) (HT.out.ext (Ext.drew _)) hs).mono ?_
  rintro e w1 ⟨p1, rfl, hp1, hE1⟩
  go_wp2_with fail
  refine ⟨fun _ => hE1, ?_⟩
  apply segs_cons
  · intro W hW
    simp only [runsT, runsF, rep, pick]
    go_wp2_with fail
    exact ⟨rfl, rfl⟩
  simp only [runsT, runsF, rep, left]
  go_wp2_with fail
  refine ⟨fun _ => (Below.refl _ _).alloc (Nat.le_refl _) _, ?_⟩
  apply segs_cons
  · intro W hW
    simp only [runsT, runsF, rep, pick]
    go_wp2_with fail
    exact ⟨rfl, rfl⟩
  simp only [runsT, runsF, rep, left]
  go_wp2_with fail
  go_ret
  have hB : Ext w1 (w1.alloc (Obj.cells #[.func (.func 45) #[] #[], .pointer p1] 84)) := (Below.refl _ _).alloc (Nat.le_refl _) _
  exact ⟨_, rfl, ⟨_, p1, rfl, Blk.new _ _ _, hp1.ext hB⟩, hA.trans (((Ext.drew _).trans hE1).trans hB)⟩
set_option maxRecDepth 100000 in
theorem first_any : ∀ (l : T Int (Int × Int)) (k : Int) (v : Int × Int) (r : T Int (Int × Int)) (p : Option Addr) (w : World), isT w p (.node k v l r) → l.sz + r.sz < 800000000 →
    Calls Try.prog 88 #[.pointer p] w fun e w' => ∃ q ql, e = .returned (.tuple #[.pointer q, .pointer ql]) ∧ isT w' q (T.first k v l r).1 ∧ (∃ b pl pr n d, ql = some ⟨b, 0, none⟩ ∧ NodeAt w' b (T.first k v l r).2.1 (T.first k v l r).2.2 pl pr n d) ∧ Ext w w' := by
  intro l
  induction l with
  | nil =>
    intro k v r p w hp _
    obtain ⟨b, pl, pr, rfl, hb, hl, hr⟩ := isT_node hp
    obtain rfl := hl
    have HB := Lib.hid hb
    have H2 := Lib.hid hr
    have c0 := hb.c0
    have c1 := hb.c1
    have c2 := hb.c2
    have c3 := hb.c3
    have c4 := hb.c4
    have c5 := hb.c5
    have c6 := hb.c6
    clear hb hr hp
    go_enter Try.func88, Try.ntmps88
    go_wp2_with fail
    go_ret2
    exact ⟨_, _, rfl, H2.out, ⟨b, _, _, _, _, rfl, HB.out⟩, Ext.refl _⟩
  | node lk lv ll lr ihl _ =>
    intro k v r p w hp hs
    obtain ⟨b, pl, pr, rfl, hb, hl, hr⟩ := isT_node hp
    simp only [T.sz] at hs
    have g1 := ll.sz_nn
    have g2 := lr.sz_nn
    have g3 := r.sz_nn
    have HB := Lib.hid hb
    have H1 := Lib.hid hl
    have H2 := Lib.hid hr
    obtain ⟨bl, pll, plr, rfl, _, _, _⟩ := isT_node hl
    have IHL0 := Lib.hid ihl
    have c0 := hb.c0
    have c1 := hb.c1
    have c2 := hb.c2
    have c3 := hb.c3
    have c4 := hb.c4
    have c5 := hb.c5
    have c6 := hb.c6
    clear hb hl hr hp ihl
    go_enter Try.func88, Try.ntmps88
    go_wp2_with fail
    refine (IHL0.out lk lv lr _ _ H1.out (by omega)).mono ?_
    rintro e w1 ⟨q1, ql1, rfl, hq1, ⟨b1, pl1, pr1, n1, d1, rfl, hN1⟩, hE1⟩
    go_wp2_with fail
    clear c0 c1 c2 c3 c4 c5 c6
    refine wp_region_segs 17 [([13, 1, 1, 2], false), ([2], false)] (by kernel_rfl) (by kernel_rfl) ?_
    apply segs_cons
    · intro W hW
      have c0 := (HB.out.ext (hE1.trans hW.of_drew)).c0
      have c1 := (HB.out.ext (hE1.trans hW.of_drew)).c1
      have c2 := (HB.out.ext (hE1.trans hW.of_drew)).c2
      have c3 := (HB.out.ext (hE1.trans hW.of_drew)).c3
      have c4 := (HB.out.ext (hE1.trans hW.of_drew)).c4
      have c5 := (HB.out.ext (hE1.trans hW.of_drew)).c5
      have c6 := (HB.out.ext (hE1.trans hW.of_drew)).c6
      simp only [runsT, runsF, rep, pick]
      go_wp2_with fail
      exact ⟨rfl, rfl⟩
    simp only [runsT, runsF, rep, left]
    go_wp2_with fail
    refine (joined_any _ _ _ _ _ _ _ (hq1.ext (Ext.drew _)) (H2.out.ext (hE1.trans (Ext.drew _))) (by have := T.sz_first ll lk lv lr; omega)).mono ?_
    rintro e w2 ⟨p2, rfl, hp2, hE2⟩
    go_wp2_with fail
    refine ⟨fun _ => hE2, ?_⟩
    apply segs_cons
    · intro W hW
      simp only [runsT, runsF, rep, pick]
      go_wp2_with fail
      exact ⟨rfl, rfl⟩
    simp only [runsT, runsF, rep, left]
    go_wp2_with fail
    go_ret2
    exact ⟨_, _, rfl, hp2, ⟨b1, _, _, _, _, rfl, hN1.ext ((Ext.drew _).trans hE2)⟩, (hE1.trans (Ext.drew _)).trans hE2⟩
set_option maxRecDepth 100000 in
theorem both_any (l r : T Int (Int × Int)) (p q : Option Addr) (w : World) (hl : isT w p l) (hr : isT w q r) (hs : l.sz + r.sz < 800000000) :
    Calls Try.prog 75 #[.pointer p, .pointer q] w fun e w' => ∃ s, e = .returned (.pointer s) ∧ isT w' s (T.both l r) ∧ Ext w w' := by
  have H1 := Lib.hid hl
  have H2 := Lib.hid hr
  cases l with
  | nil =>
    obtain rfl := hl
    clear hr
    go_enter Try.func75, Try.ntmps75
    go_wp2_with fail
    go_ret
    exact ⟨_, rfl, by rw [show T.both .nil r = r from by cases r <;> rfl]; exact H2.out, Ext.refl _⟩
  | node lk lv ll lr =>
    obtain ⟨b, pl, pr, rfl, _, _, _⟩ := isT_node hl
    cases r with
    | nil =>
      obtain rfl := hr
      clear hl
      go_enter Try.func75, Try.ntmps75
      go_wp2_with fail
      go_ret
      exact ⟨_, rfl, H1.out, Ext.refl _⟩
    | node rk rv rl rr =>
      obtain ⟨b2, pl2, pr2, rfl, _, _, _⟩ := isT_node hr
      simp only [T.sz] at hs
      have g1 := ll.sz_nn
      have g2 := lr.sz_nn
      have g3 := rl.sz_nn
      have g4 := rr.sz_nn
      clear hl hr
      go_enter Try.func75, Try.ntmps75
      go_wp2_with fail
      refine (first_any rl rk rv rr _ _ H2.out (by omega)).mono ?_
      rintro e w1 ⟨q1, ql1, rfl, hq1, ⟨b1, pl1, pr1, n1, d1, rfl, hN1⟩, hE1⟩
      go_wp2_with fail
      refine wp_region_segs 12 [([10, 2], false), ([1], false)] (by kernel_rfl) (by kernel_rfl) ?_
      apply segs_cons
      · intro W hW
        have c0 := (hN1.ext hW.of_drew).c0
        have c1 := (hN1.ext hW.of_drew).c1
        have c2 := (hN1.ext hW.of_drew).c2
        have c3 := (hN1.ext hW.of_drew).c3
        have c4 := (hN1.ext hW.of_drew).c4
        have c5 := (hN1.ext hW.of_drew).c5
        have c6 := (hN1.ext hW.of_drew).c6
        simp only [runsT, runsF, rep, pick]
        go_wp2_with fail
        exact ⟨rfl, rfl⟩
      simp only [runsT, runsF, rep, left]
      go_wp2_with fail
      refine (joined_any _ _ _ _ _ (.node lk lv ll lr) _ (H1.out.ext (hE1.trans (Ext.drew _))) (hq1.ext (Ext.drew _)) (by have := T.sz_first rl rk rv rr; simp only [T.sz]; omega)).mono ?_
      rintro e w2 ⟨p2, rfl, hp2, hE2⟩
      go_wp2_with fail
      refine ⟨fun _ => hE2, ?_⟩
      apply segs_cons
      · intro W hW
        simp only [runsT, runsF, rep, pick]
        go_wp2_with fail
        exact ⟨rfl, rfl⟩
      simp only [runsT, runsF, rep, left]
      go_wp2_with fail
      go_ret
      exact ⟨_, rfl, hp2, (hE1.trans (Ext.drew _)).trans hE2⟩
set_option maxRecDepth 100000 in
theorem drop_any (k : Int) : ∀ (t : T Int (Int × Int)) (p : Option Addr) (w : World) (tb : Nat) (root : Option Addr), isT w p t → TreeAt w tb root → t.sz < 800000000 →
    Calls Try.prog 56 #[.pointer (some ⟨tb, 0, none⟩), .pointer p, .int .i64 k] w fun e w' => ∃ q, e = .returned (.pointer q) ∧ isT w' q (T.drop cint k t) ∧ Ext w w' := by
  intro t
  induction t with
  | nil =>
    intro p w tb root hp hT _
    obtain rfl := hp
    clear hT
    go_enter Try.func56, Try.ntmps56
    go_wp2_with fail
    go_ret
    exact ⟨_, rfl, rfl, Ext.refl _⟩
  | node xk xv l r ihl ihr =>
    intro p w tb root hp hT hs
    obtain ⟨b, pl, pr, rfl, hb, hl, hr⟩ := isT_node hp
    simp only [T.sz] at hs
    have g1 := l.sz_nn
    have g2 := r.sz_nn
    have HB := Lib.hid hb
    have HT := Lib.hid hT
    have H1 := Lib.hid hl
    have H2 := Lib.hid hr
    have IHL0 := Lib.hid ihl
    have IHR0 := Lib.hid ihr
    clear hb hT hl hr hp ihl ihr
    by_cases q1 : cint k xk < 0
    · have e : T.drop cint k (.node xk xv l r) = T.joined xk xv (T.drop cint k l) r := by simp only [T.drop]; rw [if_pos q1]
      rw [e]
      have hd : decide (cint k xk < 0) = true := decide_eq_true q1
      clear e
      go_enter Try.func56, Try.ntmps56
      go_wp2_with fail
      refine wp_region_segs 11 [([9, 2], false), ([1], false)] (by kernel_rfl) (by kernel_rfl) ?_
      apply segs_cons
      · intro W hW
        have c0 := (HB.out.ext hW.of_drew).c0
        have c1 := (HB.out.ext hW.of_drew).c1
        have c2 := (HB.out.ext hW.of_drew).c2
        have c3 := (HB.out.ext hW.of_drew).c3
        have c4 := (HB.out.ext hW.of_drew).c4
        have c5 := (HB.out.ext hW.of_drew).c5
        have c6 := (HB.out.ext hW.of_drew).c6
        have t0 := (HT.out.ext hW.of_drew).c0
        have t1 := (HT.out.ext hW.of_drew).c1
        simp only [runsT, runsF, rep, pick]
        go_wp2_with fail
        exact ⟨rfl, rfl⟩
      simp only [runsT, runsF, rep, left]
      go_wp2_with fail
      refine (cmp_any _ _ _).mono ?_
      rintro e w' ⟨rfl, rfl⟩
      go_wp2_with fail
      refine ⟨fun _ => Ext.refl _, ?_⟩
      apply segs_cons
      · intro W hW
        simp only [runsT, runsF, rep, pick]
        go_wp2_with fail
        exact ⟨rfl, rfl⟩
      simp only [runsT, runsF, rep, left]
      go_wp2_with fail
      have IHL := IHL0.out
      refine wp_region_segs 21 [([14, 1, 4, 2], false), ([0, 2], false), ([1], false)] (by kernel_rfl) (by kernel_rfl) ?_
      apply segs_cons
      · intro W hW
        have c0 := (HB.out.ext ((Ext.drew _).trans hW.of_drew)).c0
        have c1 := (HB.out.ext ((Ext.drew _).trans hW.of_drew)).c1
        have c2 := (HB.out.ext ((Ext.drew _).trans hW.of_drew)).c2
        have c3 := (HB.out.ext ((Ext.drew _).trans hW.of_drew)).c3
        have c4 := (HB.out.ext ((Ext.drew _).trans hW.of_drew)).c4
        have c5 := (HB.out.ext ((Ext.drew _).trans hW.of_drew)).c5
        have c6 := (HB.out.ext ((Ext.drew _).trans hW.of_drew)).c6
        simp only [runsT, runsF, rep, pick]
        go_wp2_with fail
        exact ⟨rfl, rfl⟩
      simp only [runsT, runsF, rep, left]
      go_wp2_with fail
      refine (IHL pl _ tb root (H1.out.ext ((Ext.drew _).trans (Ext.drew _))) (HT.out.ext ((Ext.drew _).trans (Ext.drew _))) (by omega)).mono ?_
      rintro e w1 ⟨p1, rfl, hp1, hE1⟩
      go_wp2_with fail
      refine ⟨fun _ => hE1, ?_⟩
      apply segs_cons
      · intro W hW
        exact ⟨rfl, rfl⟩
      simp only [runsT, runsF, rep, left]
      go_wp2_with fail
      refine (joined_any _ _ _ _ _ _ _ hp1 (H2.out.ext (((Ext.drew _).trans (Ext.drew _)).trans hE1)) (by have := T.sz_drop_le cint k l; omega)).mono ?_
      rintro e w2 ⟨p2, rfl, hp2, hE2⟩
      go_wp2_with fail
      refine ⟨fun _ => hE2, ?_⟩
      apply segs_cons
      · intro W hW
        simp only [runsT, runsF, rep, pick]
        go_wp2_with fail
        exact ⟨rfl, rfl⟩
      simp only [runsT, runsF, rep, left]
      go_wp2_with fail
      go_ret
      exact ⟨_, rfl, hp2, (((Ext.drew _).trans (Ext.drew _)).trans hE1).trans hE2⟩
    · by_cases q2 : cint k xk > 0
      · have e : T.drop cint k (.node xk xv l r) = T.joined xk xv l (T.drop cint k r) := by simp only [T.drop]; rw [if_neg q1, if_pos q2]
        rw [e]
        have hd : decide (cint k xk < 0) = false := decide_eq_false q1
        have hd2 : decide (0 < cint k xk) = true := decide_eq_true q2
        clear e
        go_enter Try.func56, Try.ntmps56
        go_wp2_with fail
        refine wp_region_segs 11 [([9, 2], false), ([1], false)] (by kernel_rfl) (by kernel_rfl) ?_
        apply segs_cons
        · intro W hW
          have c0 := (HB.out.ext hW.of_drew).c0
          have c1 := (HB.out.ext hW.of_drew).c1
          have c2 := (HB.out.ext hW.of_drew).c2
          have c3 := (HB.out.ext hW.of_drew).c3
          have c4 := (HB.out.ext hW.of_drew).c4
          have c5 := (HB.out.ext hW.of_drew).c5
          have c6 := (HB.out.ext hW.of_drew).c6
          have t0 := (HT.out.ext hW.of_drew).c0
          have t1 := (HT.out.ext hW.of_drew).c1
          simp only [runsT, runsF, rep, pick]
          go_wp2_with fail
          exact ⟨rfl, rfl⟩
        simp only [runsT, runsF, rep, left]
        go_wp2_with fail
        refine (cmp_any _ _ _).mono ?_
        rintro e w' ⟨rfl, rfl⟩
        go_wp2_with fail
        refine ⟨fun _ => Ext.refl _, ?_⟩
        apply segs_cons
        · intro W hW
          simp only [runsT, runsF, rep, pick]
          go_wp2_with fail
          exact ⟨rfl, rfl⟩
        simp only [runsT, runsF, rep, left]
        go_wp2_with fail
        have IHR := IHR0.out
        refine wp_region_segs 21 [([18, 3], false), ([0, 2], false), ([1], false)] (by kernel_rfl) (by kernel_rfl) ?_
        apply segs_cons
        · intro W hW
          have c0 := (HB.out.ext ((Ext.drew _).trans hW.of_drew)).c0
          have c1 := (HB.out.ext ((Ext.drew _).trans hW.of_drew)).c1
          have c2 := (HB.out.ext ((Ext.drew _).trans hW.of_drew)).c2
          have c3 := (HB.out.ext ((Ext.drew _).trans hW.of_drew)).c3
          have c4 := (HB.out.ext ((Ext.drew _).trans hW.of_drew)).c4
          have c5 := (HB.out.ext ((Ext.drew _).trans hW.of_drew)).c5
          have c6 := (HB.out.ext ((Ext.drew _).trans hW.of_drew)).c6
          simp only [runsT, runsF, rep, pick]
          go_wp2_with fail
          exact ⟨rfl, rfl⟩
        simp only [runsT, runsF, rep, left]
        go_wp2_with fail
        refine (IHR pr _ tb root (H2.out.ext ((Ext.drew _).trans (Ext.drew _))) (HT.out.ext ((Ext.drew _).trans (Ext.drew _))) (by omega)).mono ?_
        rintro e w1 ⟨p1, rfl, hp1, hE1⟩
        go_wp2_with fail
        refine ⟨fun _ => hE1, ?_⟩
        apply segs_cons
        · intro W hW
          exact ⟨rfl, rfl⟩
        simp only [runsT, runsF, rep, left]
        go_wp2_with fail
        refine (joined_any _ _ _ _ _ _ _ (H1.out.ext (((Ext.drew _).trans (Ext.drew _)).trans hE1)) hp1 (by have := T.sz_drop_le cint k r; omega)).mono ?_
        rintro e w2 ⟨p2, rfl, hp2, hE2⟩
        go_wp2_with fail
        refine ⟨fun _ => hE2, ?_⟩
        apply segs_cons
        · intro W hW
          simp only [runsT, runsF, rep, pick]
          go_wp2_with fail
          exact ⟨rfl, rfl⟩
        simp only [runsT, runsF, rep, left]
        go_wp2_with fail
        go_ret
        exact ⟨_, rfl, hp2, (((Ext.drew _).trans (Ext.drew _)).trans hE1).trans hE2⟩
      · have e : T.drop cint k (.node xk xv l r) = T.both l r := by simp only [T.drop]; rw [if_neg q1, if_neg q2]
        rw [e]
        have hd : decide (cint k xk < 0) = false := decide_eq_false q1
        have hd2 : decide (0 < cint k xk) = false := decide_eq_false q2
        clear e
        go_enter Try.func56, Try.ntmps56
        go_wp2_with fail
        refine wp_region_segs 11 [([9, 2], false), ([1], false)] (by kernel_rfl) (by kernel_rfl) ?_
        apply segs_cons
        · intro W hW
          have c0 := (HB.out.ext hW.of_drew).c0
          have c1 := (HB.out.ext hW.of_drew).c1
          have c2 := (HB.out.ext hW.of_drew).c2
          have c3 := (HB.out.ext hW.of_drew).c3
          have c4 := (HB.out.ext hW.of_drew).c4
          have c5 := (HB.out.ext hW.of_drew).c5
          have c6 := (HB.out.ext hW.of_drew).c6
          have t0 := (HT.out.ext hW.of_drew).c0
          have t1 := (HT.out.ext hW.of_drew).c1
          simp only [runsT, runsF, rep, pick]
          go_wp2_with fail
          exact ⟨rfl, rfl⟩
        simp only [runsT, runsF, rep, left]
        go_wp2_with fail
        refine (cmp_any _ _ _).mono ?_
        rintro e w' ⟨rfl, rfl⟩
        go_wp2_with fail
        refine ⟨fun _ => Ext.refl _, ?_⟩
        apply segs_cons
        · intro W hW
          simp only [runsT, runsF, rep, pick]
          go_wp2_with fail
          exact ⟨rfl, rfl⟩
        simp only [runsT, runsF, rep, left]
        go_wp2_with fail
        refine wp_region_segs 10 [([8, 2], false), ([1], false)] (by kernel_rfl) (by kernel_rfl) ?_
        apply segs_cons
        · intro W hW
          have c0 := (HB.out.ext ((Ext.drew _).trans hW.of_drew)).c0
          have c1 := (HB.out.ext ((Ext.drew _).trans hW.of_drew)).c1
          have c2 := (HB.out.ext ((Ext.drew _).trans hW.of_drew)).c2
          have c3 := (HB.out.ext ((Ext.drew _).trans hW.of_drew)).c3
          have c4 := (HB.out.ext ((Ext.drew _).trans hW.of_drew)).c4
          have c5 := (HB.out.ext ((Ext.drew _).trans hW.of_drew)).c5
          have c6 := (HB.out.ext ((Ext.drew _).trans hW.of_drew)).c6
          simp only [runsT, runsF, rep, pick]
          go_wp2_with fail
          exact ⟨rfl, rfl⟩
        simp only [runsT, runsF, rep, left]
        go_wp2_with fail
        refine (both_any _ _ _ _ _ (H1.out.ext ((Ext.drew _).trans (Ext.drew _))) (H2.out.ext ((Ext.drew _).trans (Ext.drew _))) (by omega)).mono ?_
        rintro e w1 ⟨p1, rfl, hp1, hE1⟩
        go_wp2_with fail
        refine ⟨fun _ => hE1, ?_⟩
        apply segs_cons
        · intro W hW
          simp only [runsT, runsF, rep, pick]
          go_wp2_with fail
          exact ⟨rfl, rfl⟩
        simp only [runsT, runsF, rep, left]
        go_wp2_with fail
        go_ret
        exact ⟨_, rfl, hp1, ((Ext.drew _).trans (Ext.drew _)).trans hE1⟩
set_option maxRecDepth 100000 in
theorem Drop_any (k : Int) (t : T Int (Int × Int)) (p : Option Addr) (w : World) (h : isTree w p t) (hs : t.sz < 800000000) :
    Calls Try.prog 43 #[.pointer p, .int .i64 k] w fun e w' => ∃ q, e = .returned (.pointer q) ∧ isTree w' q (T.drop cint k t) ∧ Ext w w' := by
  obtain ⟨tb, root, rfl, hT, hR⟩ := h
  have hA : Ext w w := Ext.refl _
  have HT := Lib.hid (hT.ext hA)
  have H1 := Lib.hid (hR.ext hA)
  clear hT hR
  go_enter Try.func43, Try.ntmps43
  go_wp2_with fail
  refine wp_region_segs 14 [([10, 4], false), ([1, 2], false), ([1], false)] (by kernel_rfl) (by kernel_rfl) ?_
  apply segs_cons
  · intro W hW
    have t0 := (HT.out.ext hW.of_drew).c0
    have t1 := (HT.out.ext hW.of_drew).c1
    simp only [runsT, runsF, rep, pick]
    go_wp2_with fail
    exact ⟨rfl, rfl⟩
  simp only [runsT, runsF, rep, left]
  go_wp2_with fail
  refine (drop_any _ _ _ _ tb root (H1.out.ext (Ext.drew _)) (HT.out.ext (Ext.drew _)) hs).mono ?_
  rintro e w1 ⟨p1, rfl, hp1, hE1⟩
  go_wp2_with fail
  refine ⟨fun _ => hE1, ?_⟩
  apply segs_cons
  · intro W hW
    simp only [runsT, runsF, rep, pick]
    go_wp2_with fail
    exact ⟨rfl, rfl⟩
  simp only [runsT, runsF, rep, left]
  go_wp2_with fail
  refine ⟨fun _ => (Below.refl _ _).alloc (Nat.le_refl _) _, ?_⟩
  apply segs_cons
  · intro W hW
    simp only [runsT, runsF, rep, pick]
    go_wp2_with fail
    exact ⟨rfl, rfl⟩
  simp only [runsT, runsF, rep, left]
  go_wp2_with fail
  go_ret
  have hB : Ext w1 (w1.alloc (Obj.cells #[.func (.func 45) #[] #[], .pointer p1] 84)) := (Below.refl _ _).alloc (Nat.le_refl _) _
  exact ⟨_, rfl, ⟨_, p1, rfl, Blk.new _ _ _, hp1.ext hB⟩, hA.trans (((Ext.drew _).trans hE1).trans hB)⟩
/-- What a search tells. -/
def Found (w : World) (r : Option (T Int (Int × Int)) × Int) (e : Ending) (w' : World) : Prop :=
  ∃ q, e = .returned (.tuple #[.pointer q, .int .i64 r.2]) ∧ (match r.1 with | none => q = none | some s => isT w' q s ∧ ∃ k v l r, s = .node k v l r) ∧ Ext w w'
set_option maxRecDepth 100000 in
set_option maxHeartbeats 800000 in
theorem find_any (k : Int) (t : T Int (Int × Int)) (p : Option Addr) (w : World) (h : isTree w p t) (hs : t.sz < 1000000000) :
    Calls Try.prog 83 #[.pointer p, .int .i64 k] w (Found w (T.find cint k t)) := by
  obtain ⟨tb, root, rfl, hT, hR⟩ := h
  have HT0 := Lib.hid hT
  have H0 := Lib.hid hR
  have t1 := hT.c1
  have g0 := t.sz_nn
  clear hT hR
  go_enter Try.func83, Try.ntmps83
  go_wp2_with fail
  clear t1
  go_loopg [6, 7] t.sz.toNat (fun g ah x wr => ∃ (s : T Int (Int × Int)) (q : Option Addr) (acc : Int), x = .pointer q ∧ ah = .int .i64 acc ∧ isT wr q s ∧ Ext w wr ∧ (T.find cint k t).1 = (T.find cint k s).1 ∧ (T.find cint k t).2 = acc + (T.find cint k s).2 ∧ 0 ≤ acc ∧ acc + s.sz ≤ t.sz ∧ s.sz.toNat ≤ g)
  case atStart => exact ⟨t, root, 0, rfl, rfl, H0.out, Ext.refl _, rfl, by omega, by omega, by omega, Nat.le_refl _⟩
  case round =>
    obtain ⟨s, q, acc, rfl, rfl, hq, hE, e1, e2, hacc, hsum, hg⟩ := hrel
    have He1 := Lib.hid e1
    have He2 := Lib.hid e2
    have HE := Lib.hid hE
    have HT := Lib.hid (HT0.out.ext hE)
    clear e1 e2 hE
    cases s with
    | nil =>
      obtain rfl := hq
      simp only [T.sz] at hsum hg
      go_wp2_with fail
      go_ret2
      refine ⟨none, ?_, ?_, HE.out⟩
      · rw [He2.out]; simp [T.find]
      · rw [He1.out]; simp [T.find]
    | node xk xv l r =>
      obtain ⟨b, pl, pr, rfl, hb, hl, hr⟩ := isT_node hq
      simp only [T.sz] at hsum hg
      have g1 := l.sz_nn
      have g2 := r.sz_nn
      have HB := Lib.hid hb
      have H1 := Lib.hid hl
      have H2 := Lib.hid hr
      have HQ := Lib.hid hq
      clear hb hl hr hq
      by_cases q1 : cint k xk = 0
      · have e : T.find cint k (.node xk xv l r) = (some (.node xk xv l r), l.sz) := by simp only [T.find]; rw [if_pos q1]
        have He := Lib.hid e
        have hd : (cint k xk == 0) = true := beq_iff_eq.2 q1
        have Hq1 := Lib.hid q1
        clear e q1
        go_wp2_with fail
        have cL := HB.out.c3
        refine wp_region_segs 11 [([9, 2], false), ([1], false)] (by kernel_rfl) (by kernel_rfl) ?_
        apply segs_cons
        · intro W hW
          have c0 := (HB.out.ext hW.of_drew).c0
          have c1 := (HB.out.ext hW.of_drew).c1
          have c2 := (HB.out.ext hW.of_drew).c2
          have c3 := (HB.out.ext hW.of_drew).c3
          have c4 := (HB.out.ext hW.of_drew).c4
          have c5 := (HB.out.ext hW.of_drew).c5
          have c6 := (HB.out.ext hW.of_drew).c6
          have t0 := (HT.out.ext hW.of_drew).c0
          simp only [runsT, runsF, rep, pick]
          go_wp2_with fail
          exact ⟨rfl, rfl⟩
        simp only [runsT, runsF, rep, left]
        go_wp2_with fail
        refine (cmp_any _ _ _).mono ?_
        rintro e w' ⟨rfl, rfl⟩
        go_wp2_with fail
        refine ⟨fun _ => Ext.refl _, ?_⟩
        apply segs_cons
        · intro W hW
          simp only [runsT, runsF, rep, pick]
          go_wp2_with fail
          exact ⟨rfl, rfl⟩
        simp only [runsT, runsF, rep, left]
        go_wp2_with fail
        refine (size_any _ _ _ (H1.out.ext ((Ext.drew _)))).mono ?_
        rintro e w' ⟨rfl, rfl⟩
        go_wp2_with fail
        go_ret2
        refine ⟨some ⟨b, 0, none⟩, ?_, ?_, HE.out.trans (Ext.drew _)⟩
        · rw [He2.out, He.out]; rfl
        · rw [He1.out, He.out]; exact ⟨HQ.out.ext (Ext.drew _), _, _, _, _, rfl⟩
      · by_cases q2 : cint k xk < 0
        · have e : T.find cint k (.node xk xv l r) = T.find cint k l := by simp only [T.find]; rw [if_neg q1, if_pos q2]
          have He := Lib.hid e
          have hd : (cint k xk == 0) = false := beq_eq_false_iff_ne.2 q1
          have hd2 : decide (cint k xk < 0) = true := decide_eq_true q2
          clear e q1
          go_wp2_with fail
          have cL := HB.out.c3
          refine wp_region_segs 11 [([9, 2], false), ([1], false)] (by kernel_rfl) (by kernel_rfl) ?_
          apply segs_cons
          · intro W hW
            have c0 := (HB.out.ext hW.of_drew).c0
            have c1 := (HB.out.ext hW.of_drew).c1
            have c2 := (HB.out.ext hW.of_drew).c2
            have c3 := (HB.out.ext hW.of_drew).c3
            have c4 := (HB.out.ext hW.of_drew).c4
            have c5 := (HB.out.ext hW.of_drew).c5
            have c6 := (HB.out.ext hW.of_drew).c6
            have t0 := (HT.out.ext hW.of_drew).c0
            simp only [runsT, runsF, rep, pick]
            go_wp2_with fail
            exact ⟨rfl, rfl⟩
          simp only [runsT, runsF, rep, left]
          go_wp2_with fail
          refine (cmp_any _ _ _).mono ?_
          rintro e w' ⟨rfl, rfl⟩
          go_wp2_with fail
          refine ⟨fun _ => Ext.refl _, ?_⟩
          apply segs_cons
          · intro W hW
            simp only [runsT, runsF, rep, pick]
            go_wp2_with fail
            exact ⟨rfl, rfl⟩
          simp only [runsT, runsF, rep, left]
          go_wp2_with fail
          go_roundg l.sz.toNat
          case measure => omega
          case rel => exact ⟨l, pl, acc, rfl, rfl, H1.out.ext (Ext.drew _), HE.out.trans (Ext.drew _), by rw [He1.out, He.out], by rw [He2.out, He.out], hacc, by omega, Nat.le_refl _⟩
        · have e : T.find cint k (.node xk xv l r) = ((T.find cint k r).1, l.sz + 1 + (T.find cint k r).2) := by simp only [T.find]; rw [if_neg q1, if_neg q2]
          have He := Lib.hid e
          have hd : (cint k xk == 0) = false := beq_eq_false_iff_ne.2 q1
          have hd2 : decide (cint k xk < 0) = false := decide_eq_false q2
          clear e q1 q2
          go_wp2_with fail
          refine wp_region_segs 11 [([9, 2], false), ([1], false)] (by kernel_rfl) (by kernel_rfl) ?_
          apply segs_cons
          · intro W hW
            have c0 := (HB.out.ext hW.of_drew).c0
            have c1 := (HB.out.ext hW.of_drew).c1
            have c2 := (HB.out.ext hW.of_drew).c2
            have c3 := (HB.out.ext hW.of_drew).c3
            have c4 := (HB.out.ext hW.of_drew).c4
            have c5 := (HB.out.ext hW.of_drew).c5
            have c6 := (HB.out.ext hW.of_drew).c6
            have t0 := (HT.out.ext hW.of_drew).c0
            simp only [runsT, runsF, rep, pick]
            go_wp2_with fail
            exact ⟨rfl, rfl⟩
          simp only [runsT, runsF, rep, left]
          go_wp2_with fail
          refine (cmp_any _ _ _).mono ?_
          rintro e w' ⟨rfl, rfl⟩
          go_wp2_with fail
          refine ⟨fun _ => Ext.refl _, ?_⟩
          apply segs_cons
          · intro W hW
            simp only [runsT, runsF, rep, pick]
            go_wp2_with fail
            exact ⟨rfl, rfl⟩
          simp only [runsT, runsF, rep, left]
          go_wp2_with fail
          refine wp_region_segs 14 [([5, 3, 4, 2], false), ([4], false)] (by kernel_rfl) (by kernel_rfl) ?_
          apply segs_cons
          · intro W hW
            have c0 := (HB.out.ext ((Ext.drew _).trans hW.of_drew)).c0
            have c1 := (HB.out.ext ((Ext.drew _).trans hW.of_drew)).c1
            have c2 := (HB.out.ext ((Ext.drew _).trans hW.of_drew)).c2
            have c3 := (HB.out.ext ((Ext.drew _).trans hW.of_drew)).c3
            have c4 := (HB.out.ext ((Ext.drew _).trans hW.of_drew)).c4
            have c5 := (HB.out.ext ((Ext.drew _).trans hW.of_drew)).c5
            have c6 := (HB.out.ext ((Ext.drew _).trans hW.of_drew)).c6
            simp only [runsT, runsF, rep, pick]
            go_wp2_with fail
            exact ⟨rfl, rfl⟩
          simp only [runsT, runsF, rep, left]
          go_wp2_with fail
          refine (size_any _ _ _ (H1.out.ext ((Ext.drew _).trans (Ext.drew _)))).mono ?_
          rintro e w' ⟨rfl, rfl⟩
          go_wp2_with fail
          refine ⟨fun _ => Ext.refl _, ?_⟩
          apply segs_cons
          · intro W hW
            simp only [runsT, runsF, rep, pick]
            go_wp2_with fail
            exact ⟨rfl, rfl⟩
          simp only [runsT, runsF, rep, left]
          go_wp2_with fail
          go_roundg r.sz.toNat
          case measure => omega
          case rel => exact ⟨r, pr, acc + l.sz + 1, rfl, by go_num, H2.out.ext ((Ext.drew _).trans (Ext.drew _)), HE.out.trans ((Ext.drew _).trans (Ext.drew _)), by rw [He1.out, He.out], by rw [He2.out, He.out]; omega, by omega, by omega, Nat.le_refl _⟩
theorem New_any (w : World) : Calls Try.prog 44 #[.func (.func 45) #[] #[]] w fun e w' => ∃ q, e = .returned (.pointer q) ∧ isTree w' q (T.nil : T Int (Int × Int)) ∧ Ext w w' := by
  have he := fun (w : World) => run_eq_func_nil (P := Try.prog) Try.underlying72 (.func 45) #[] #[] w
  go_enter Try.func44, Try.ntmps44
  go_wp2_with fail
  go_ret
  have hA : Ext w (w.alloc (Obj.cells #[.func (.func 45) #[] #[], .pointer none] 84)) := (Below.refl _ _).alloc (Nat.le_refl _) _
  exact ⟨_, rfl, ⟨_, none, rfl, Blk.new _ _ _, rfl⟩, hA⟩
/-- What a look for a key tells: its thing, or the zero one. -/
def Got (w : World) (r : Option (Int × Int)) (e : Ending) (w' : World) : Prop :=
  (match r with | some v => e = .returned (.tuple #[.agg #[.int .i64 v.1, .int .i64 v.2], .bool true]) | none => e = .returned (.tuple #[.agg #[.int .i64 0, .int .i64 0], .bool false])) ∧ Ext w w'
theorem get_find (k : Int) : ∀ t : T Int (Int × Int), T.get cint k t = match (T.find cint k t).1 with | some (.node _ v _ _) => some v | _ => none
  | .nil => rfl
  | .node xk xv l r => by
    simp only [T.get, T.find]
    split
    · rfl
    · split
      · exact get_find k l
      · exact get_find k r
theorem Get_any (k : Int) (t : T Int (Int × Int)) (p : Option Addr) (w : World) (h : isTree w p t) (hs : t.sz < 1000000000) :
    Calls Try.prog 71 #[.pointer p, .int .i64 k] w (Got w (T.get cint k t)) := by
  have hA : Ext w (w.alloc (Obj.cells #[.int .i64 0, .int .i64 0] 69)) := (Below.refl _ _).alloc (Nat.le_refl _) _
  have HR := Lib.hid (show Blk (w.alloc (Obj.cells #[.int .i64 0, .int .i64 0] 69)) w.heap.size #[.int .i64 0, .int .i64 0] 69 from Blk.new _ _ _)
  have HP := Lib.hid (h.ext hA)
  clear h
  go_enter Try.func71, Try.ntmps71
  go_wp2_with fail
  refine (find_any k t p _ HP.out hs).mono ?_
  rintro e w1 ⟨q, rfl, hq, hE⟩
  have z0 := (HR.out.ext hE).cell (i := 0) rfl
  have y0 := (HR.out.ext hE).frozen 0
  have z1 := (HR.out.ext hE).cell (i := 1) rfl
  have y1 := (HR.out.ext hE).frozen 1
  have hg := get_find k t
  cases hf : (T.find cint k t).1 with
  | none =>
    rw [hf] at hq hg
    obtain rfl := hq
    have HG := Lib.hid hg
    clear hg hf
    go_wp2_with fail
    (try simp only [Exit.inBlock, Exit.then])
    refine bodyPost_ret (v := .tuple #[.agg #[.int .i64 0, .int .i64 0], .bool false]) ?_ rfl ?_
    · rw [results_cell_tmp rfl]
      go_simp
    unfold Got
    rw [HG.out]
    exact ⟨rfl, (((below_ext hA hE).setCell (p := ⟨w.heap.size, 0, none⟩) (Nat.le_refl _) _).setCell (p := ⟨w.heap.size, 1, none⟩) (Nat.le_refl _) _)⟩
  | some s =>
    rw [hf] at hq hg
    obtain ⟨hq, xk, xv, l, r, rfl⟩ := hq
    obtain ⟨b, pl, pr, rfl, hb, _, _⟩ := isT_node hq
    have HG := Lib.hid hg
    have c1 := hb.c1
    have c2 := hb.c2
    clear hg hf hq hb
    go_wp2_with fail
    (try simp only [Exit.inBlock, Exit.then])
    refine bodyPost_ret (v := .tuple #[.agg #[.int .i64 xv.1, .int .i64 xv.2], .bool true]) ?_ rfl ?_
    · rw [results_cell_tmp rfl]
      go_simp
    unfold Got
    rw [HG.out]
    exact ⟨rfl, (((below_ext hA hE).setCell (p := ⟨w.heap.size, 0, none⟩) (Nat.le_refl _) _).setCell (p := ⟨w.heap.size, 1, none⟩) (Nat.le_refl _) _)⟩
end Go.Proofs.Ytdfbfcglacalmaa.TrTh
end

section
namespace Go.Proofs.Ytdfbfcglacalmaa.Lo
open Go.RowKit Go.Seg Go.Open Rk TrTh Lossy

theorem right_any (n : Int) (w : World) : Calls Try.prog 70 #[.int .i64 n] w fun e w' => e = .returned (.bool (right n)) ∧ w = w' := by
  by_cases h1 : 0 ≤ n
  · have d1 : decide (0 ≤ n) = true := decide_eq_true h1
    have e : right n = decide (n ≤ 4611686018427387904) := by unfold right; rw [d1, Bool.true_and]
    rw [e]
    clear e
    go_enter Try.func70, Try.ntmps70
    go_wp2_with fail
    go_ret
    exact ⟨rfl, rfl⟩
  · have d1 : decide (0 ≤ n) = false := decide_eq_false h1
    have e : right n = false := by unfold right; rw [d1, Bool.false_and]
    rw [e]
    clear e
    go_enter Try.func70, Try.ntmps70
    go_wp2_with fail
    go_ret
    exact ⟨rfl, rfl⟩

theorem over_any (x n : Int) (w : World) : Calls Try.prog 72 #[.int .i64 x, .int .i64 n] w fun e w' => e = .returned (.bool (Lossy.over x n)) ∧ w = w' := by
  by_cases h1 : 0 < x
  · have d1 : decide (0 < x) = true := decide_eq_true h1
    have e : Lossy.over x n = decide (x ≤ n) := by unfold Lossy.over; rw [d1, Bool.true_and]
    rw [e]
    clear e
    go_enter Try.func72, Try.ntmps72
    go_wp2_with fail
    go_ret
    exact ⟨rfl, rfl⟩
  · have d1 : decide (0 < x) = false := decide_eq_false h1
    have e : Lossy.over x n = false := by unfold Lossy.over; rw [d1, Bool.false_and]
    rw [e]
    clear e
    go_enter Try.func72, Try.ntmps72
    go_wp2_with fail
    go_ret
    exact ⟨rfl, rfl⟩

theorem cut_any (n : Int) (w : World) : Calls Try.prog 54 #[.int .i64 n] w fun e w' => e = .returned (.int .i64 (cut n)) ∧ w = w' := by
  go_enter Try.func54, Try.ntmps54
  go_wp2_with fail
  all_goals
    go_ret
    refine ⟨?_, rfl⟩
    show Ending.returned (Value.int .i64 _) = _
    congr 2
    unfold cut mx
    first | omega | (rename_i q; split at q <;> omega)

theorem behind_any (now n : Int) (w : World) (h0 : 0 ≤ now) (h1 : now ≤ 1099511627776) : Calls Try.prog 53 #[.int .i64 now, .int .i64 n] w fun e w' => e = .returned (.int .i64 (behind now n)) ∧ w = w' := by
  by_cases h2 : 1099511627776 - now ≤ n
  · have d : decide (1099511627776 - now ≤ n) = true := decide_eq_true h2
    have e : behind now n = 1099511627776 := by unfold behind mx; rw [if_pos h2]
    rw [e]
    clear e
    go_enter Try.func53, Try.ntmps53
    go_wp2_with fail
    go_ret
    exact ⟨rfl, rfl⟩
  · have d : decide (1099511627776 - now ≤ n) = false := decide_eq_false h2
    have e : behind now n = now + max n 0 := by unfold behind mx; rw [if_neg h2]
    rw [e]
    clear e
    go_enter Try.func53, Try.ntmps53
    go_wp2_with fail
    all_goals
      go_ret
      refine ⟨?_, rfl⟩
      show Ending.returned (Value.int .i64 _) = _
      congr 2
      omega

theorem end_any (now ttl : Int) (w : World) : Calls Try.prog 41 #[.int .i64 now, .int .i64 ttl] w fun e w' => (∃ b, e = .returned (.tuple #[.int .i64 (endOf now ttl), .bool b])) ∧ w = w' := by
  by_cases h1 : ttl = 0
  · have d : (ttl == 0) = true := beq_iff_eq.2 h1
    have e : endOf now ttl = 0 := by unfold endOf; rw [if_pos h1]
    rw [e]
    clear e
    go_enter Try.func41, Try.ntmps41
    go_wp2_with fail
    go_ret2
    exact ⟨⟨_, rfl⟩, rfl⟩
  · have d : (ttl == 0) = false := beq_eq_false_iff_ne.2 h1
    by_cases h2 : ttl < 0
    · have d2 : decide (ttl < 0) = true := decide_eq_true h2
      have e : endOf now ttl = 0 := by unfold endOf; rw [if_neg h1, if_pos h2]
      rw [e]
      clear e
      go_enter Try.func41, Try.ntmps41
      go_wp2_with fail
      go_ret2
      exact ⟨⟨_, rfl⟩, rfl⟩
    · have d2 : decide (ttl < 0) = false := decide_eq_false h2
      have e : endOf now ttl = behind (cut now) ttl := by unfold endOf; rw [if_neg h1, if_neg h2]
      have hc : 0 ≤ cut now ∧ cut now ≤ 1099511627776 := by unfold cut mx; omega
      rw [e]
      clear e
      go_enter Try.func41, Try.ntmps41
      go_wp2_with fail
      refine (cut_any _ _).mono ?_
      rintro e w' ⟨rfl, rfl⟩
      go_wp2_with fail
      refine (behind_any _ _ _ hc.1 hc.2).mono ?_
      rintro e w' ⟨rfl, rfl⟩
      go_wp2_with fail
      go_ret2
      exact ⟨⟨_, rfl⟩, rfl⟩

/-- A map. -/
def isMap (w : World) (b : Nat) (s : Th × Bool) : Prop := ∃ q, Blk w b #[.pointer q, .bool s.2] 61 ∧ isTree w q s.1
theorem isMap.ext {w w' : World} {b : Nat} {s : Th × Bool} (e : Ext w w') : isMap w b s → isMap w' b s := fun ⟨q, h, ht⟩ => ⟨q, h.ext e, ht.ext e⟩

theorem none_any (w : World) : Calls Try.prog 32 #[] w fun e w' => ∃ q, e = .returned (.pointer q) ∧ isTree w' q (T.nil : Th) ∧ Ext w w' := by
  go_enter Try.func32, Try.ntmps32
  go_wp2_with fail
  refine (New_any _).mono ?_
  rintro e w1 ⟨q, rfl, hq, hE⟩
  go_wp2_with fail
  go_ret
  exact ⟨_, rfl, hq, hE⟩

theorem New_map (w : World) : Calls Try.prog 21 #[] w fun e w' => ∃ b, e = .returned (.pointer (some ⟨b, 0, none⟩)) ∧ w.heap.size ≤ b ∧ isMap w' b (.nil, false) ∧ Ext w w' := by
  go_enter Try.func21, Try.ntmps21
  go_wp2_with fail
  refine (none_any _).mono ?_
  rintro e w1 ⟨q, rfl, hq, hE⟩
  go_wp2_with fail
  go_ret
  have hA : Ext w1 (w1.alloc (Obj.cells #[.pointer q, .bool false] 61)) := (Below.refl _ _).alloc (Nat.le_refl _) _
  exact ⟨_, rfl, hE.size, ⟨q, Blk.new _ _ _, hq.ext hA⟩, below_ext hE hA⟩

/-- What a get tells. -/
def Mgot (w : World) (r : Option Int) (e : Ending) (w' : World) : Prop :=
  (match r with | some v => e = .returned (.tuple #[.int .i64 v, .bool true]) | none => e = .returned (.tuple #[.int .i64 0, .bool false])) ∧ Ext w w'

theorem mget_any (b : Nat) (s : Th × Bool) (key now : Int) (w : World) (h : isMap w b s) (hs : s.1.sz < 800000000) :
    Calls Try.prog 52 #[.pointer (some ⟨b, 0, none⟩), .int .i64 key, .int .i64 now] w (Mgot w (mget s.1 key now)) := by
  obtain ⟨q, hB, hT⟩ := h
  have b0 := Blk.cell (i := 0) hB rfl
  have HT := Lib.hid hT
  clear hB hT
  go_enter Try.func52, Try.ntmps52
  go_wp2_with fail
  refine (Get_any _ _ _ _ HT.out (by omega)).mono ?_
  rintro e w1 ⟨he, hE⟩
  cases hg : T.get cint key s.1 with
  | none =>
    rw [hg] at he
    obtain rfl := he
    have HG := Lib.hid hg
    clear hg b0
    go_wp2_with fail
    go_ret2
    unfold Mgot mget
    rw [HG.out]
    exact ⟨rfl, by (repeat' (first | assumption | exact Below.refl _ _ | exact below_ext (by assumption) (by assumption) | refine Below.drew ?_ | refine Below.setCell ?_ (by first | exact Nat.le_refl _ | exact Below.size (by assumption) | omega) _ | refine Below.alloc ?_ (by first | exact Nat.le_refl _ | exact Below.size (by assumption) | omega) _))⟩
  | some v =>
    rw [hg] at he
    obtain rfl := he
    have HG := Lib.hid hg
    clear hg b0
    by_cases ho : over v.2 now = true
    · go_wp2_with fail
      refine (over_any _ _ _).mono ?_
      rintro e w' ⟨rfl, rfl⟩
      go_wp2_with fail
      go_ret2
      unfold Mgot mget
      rw [HG.out]
      simp only [ho, if_true]
      exact ⟨rfl, by (repeat' (first | assumption | exact Below.refl _ _ | exact below_ext (by assumption) (by assumption) | refine Below.drew ?_ | refine Below.setCell ?_ (by first | exact Nat.le_refl _ | exact Below.size (by assumption) | omega) _ | refine Below.alloc ?_ (by first | exact Nat.le_refl _ | exact Below.size (by assumption) | omega) _))⟩
    · have ho' : over v.2 now = false := by simpa using ho
      go_wp2_with fail
      refine (over_any _ _ _).mono ?_
      rintro e w' ⟨rfl, rfl⟩
      go_wp2_with fail
      go_ret2
      unfold Mgot mget
      rw [HG.out]
      simp only [ho']
      exact ⟨rfl, by (repeat' (first | assumption | exact Below.refl _ _ | exact below_ext (by assumption) (by assumption) | refine Below.drew ?_ | refine Below.setCell ?_ (by first | exact Nat.le_refl _ | exact Below.size (by assumption) | omega) _ | refine Below.alloc ?_ (by first | exact Nat.le_refl _ | exact Below.size (by assumption) | omega) _))⟩

theorem mget_nil (key now : Int) (w : World) : Calls Try.prog 52 #[.pointer none, .int .i64 key, .int .i64 now] w fun e w' => e = .returned (.tuple #[.int .i64 0, .bool false]) ∧ w = w' := by
  go_enter Try.func52, Try.ntmps52
  go_wp2_with fail
  go_ret2
  exact ⟨rfl, rfl⟩
theorem mclone_nil (w : World) : Calls Try.prog 29 #[.pointer none] w fun e w' => e = .returned (.pointer none) ∧ w = w' := by
  go_enter Try.func29, Try.ntmps29
  go_wp2_with fail
  go_ret
  exact ⟨rfl, rfl⟩
theorem may_nil (c : C) (w : World) : Calls Try.prog 40 #[.pointer none, .agg #[.int .i64 c.cl, .int .i64 c.id, .int .i64 c.kd, .int .i64 c.ky, .int .i64 c.vl, .int .i64 c.co, .int .i64 c.tt, .int .i64 c.be, .int .i64 c.wh, .int .i64 c.en, .int .i64 c.tk, .bool c.ok, .int .i64 c.rv]] w fun e w' => e = .returned (.bool false) ∧ Ext w w' := by
  go_enter Try.func40, Try.ntmps40
  go_wp2_with fail
  go_ret
  exact ⟨rfl, by (repeat' (first | assumption | exact Below.refl _ _ | exact below_ext (by assumption) (by assumption) | refine Below.drew ?_ | refine Below.setCell ?_ (by first | exact Nat.le_refl _ | exact Below.size (by assumption) | omega) _ | refine Below.alloc ?_ (by first | exact Nat.le_refl _ | exact Below.size (by assumption) | omega) _))⟩
theorem do_nil (c : C) (w : World) : Calls Try.prog 31 #[.pointer none, .agg #[.int .i64 c.cl, .int .i64 c.id, .int .i64 c.kd, .int .i64 c.ky, .int .i64 c.vl, .int .i64 c.co, .int .i64 c.tt, .int .i64 c.be, .int .i64 c.wh, .int .i64 c.en, .int .i64 c.tk, .bool c.ok, .int .i64 c.rv]] w fun e w' => e = .returned (.bool false) ∧ Ext w w' := by
  have HP := Lib.hid (show Blk (w.alloc (Obj.cells #[.int .i64 c.cl, .int .i64 c.id, .int .i64 c.kd, .int .i64 c.ky, .int .i64 c.vl, .int .i64 c.co, .int .i64 c.tt, .int .i64 c.be, .int .i64 c.wh, .int .i64 c.en, .int .i64 c.tk, .bool c.ok, .int .i64 c.rv] 41)) w.heap.size #[.int .i64 c.cl, .int .i64 c.id, .int .i64 c.kd, .int .i64 c.ky, .int .i64 c.vl, .int .i64 c.co, .int .i64 c.tt, .int .i64 c.be, .int .i64 c.wh, .int .i64 c.en, .int .i64 c.tk, .bool c.ok, .int .i64 c.rv] 41 from Blk.new _ _ _)
  have p0 := Blk.cell (i := 0) HP.out rfl
  have p1 := Blk.cell (i := 1) HP.out rfl
  have p2 := Blk.cell (i := 2) HP.out rfl
  have p3 := Blk.cell (i := 3) HP.out rfl
  have p4 := Blk.cell (i := 4) HP.out rfl
  have p5 := Blk.cell (i := 5) HP.out rfl
  have p6 := Blk.cell (i := 6) HP.out rfl
  have p7 := Blk.cell (i := 7) HP.out rfl
  have p8 := Blk.cell (i := 8) HP.out rfl
  have p9 := Blk.cell (i := 9) HP.out rfl
  have p10 := Blk.cell (i := 10) HP.out rfl
  have p11 := Blk.cell (i := 11) HP.out rfl
  have p12 := Blk.cell (i := 12) HP.out rfl
  have hA : Ext w (w.alloc (Obj.cells #[.int .i64 c.cl, .int .i64 c.id, .int .i64 c.kd, .int .i64 c.ky, .int .i64 c.vl, .int .i64 c.co, .int .i64 c.tt, .int .i64 c.be, .int .i64 c.wh, .int .i64 c.en, .int .i64 c.tk, .bool c.ok, .int .i64 c.rv] 41)) := (Below.refl _ _).alloc (Nat.le_refl _) _
  have HA := Lib.hid hA
  clear hA
  go_enter Try.func31, Try.ntmps31
  go_wp2_with fail
  refine (may_nil c _).mono ?_
  rintro e w1 ⟨rfl, hE⟩
  go_wp2_with fail
  go_ret
  exact ⟨rfl, below_ext HA.out hE⟩

set_option maxRecDepth 100000 in
theorem must_any (b : Nat) (s : Th × Bool) (c : C) (w : World) (h : isMap w b s) :
    Calls Try.prog 51 #[.pointer (some ⟨b, 0, none⟩), .agg #[.int .i64 c.cl, .int .i64 c.id, .int .i64 c.kd, .int .i64 c.ky, .int .i64 c.vl, .int .i64 c.co, .int .i64 c.tt, .int .i64 c.be, .int .i64 c.wh, .int .i64 c.en, .int .i64 c.tk, .bool c.ok, .int .i64 c.rv]] w fun e w' => e = .returned (.tuple #[.bool (must s.2 c).1, .bool (must s.2 c).2]) ∧ Ext w w' := by
  obtain ⟨q, hB, _⟩ := h
  have hA : Ext w (w.alloc (Obj.cells #[.int .i64 c.cl, .int .i64 c.id, .int .i64 c.kd, .int .i64 c.ky, .int .i64 c.vl, .int .i64 c.co, .int .i64 c.tt, .int .i64 c.be, .int .i64 c.wh, .int .i64 c.en, .int .i64 c.tk, .bool c.ok, .int .i64 c.rv] 41)) := (Below.refl _ _).alloc (Nat.le_refl _) _
  have HP := Lib.hid (show Blk (w.alloc (Obj.cells #[.int .i64 c.cl, .int .i64 c.id, .int .i64 c.kd, .int .i64 c.ky, .int .i64 c.vl, .int .i64 c.co, .int .i64 c.tt, .int .i64 c.be, .int .i64 c.wh, .int .i64 c.en, .int .i64 c.tk, .bool c.ok, .int .i64 c.rv] 41)) w.heap.size #[.int .i64 c.cl, .int .i64 c.id, .int .i64 c.kd, .int .i64 c.ky, .int .i64 c.vl, .int .i64 c.co, .int .i64 c.tt, .int .i64 c.be, .int .i64 c.wh, .int .i64 c.en, .int .i64 c.tk, .bool c.ok, .int .i64 c.rv] 41 from Blk.new _ _ _)

  have b1 := Blk.cell (i := 1) (hB.ext hA) rfl
  have p2 := Blk.cell (i := 2) HP.out rfl
  have p5 := Blk.cell (i := 5) HP.out rfl
  have p6 := Blk.cell (i := 6) HP.out rfl
  clear hB
  cases hcl : s.2 with
  | true =>
    rw [hcl] at b1
    have e : must true c = (c.kd == 6, true) := rfl
    rw [e]
    go_enter Try.func51, Try.ntmps51
    go_wp2_with fail

    go_ret2
    exact ⟨rfl, by (repeat' (first | assumption | exact Below.refl _ _ | exact below_ext (by assumption) (by assumption) | refine Below.drew ?_ | refine Below.setCell ?_ (by first | exact Nat.le_refl _ | exact Below.size (by assumption) | omega) _ | refine Below.alloc ?_ (by first | exact Nat.le_refl _ | exact Below.size (by assumption) | omega) _))⟩
  | false =>
    rw [hcl] at b1
    by_cases h2 : c.kd = 2
    · have d2 : (c.kd == 2) = true := beq_iff_eq.2 h2
      have e : must false c = (false, !right c.co || decide (c.tt < 0)) := by unfold must; rw [if_neg (by decide), if_pos h2]
      cases hr : right c.co with
      | true =>
        rw [hr] at e
        simp only [Bool.not_true, Bool.false_or] at e
        rw [e]
        clear e h2
        go_enter Try.func51, Try.ntmps51
        go_wp2_with fail

        refine wp_region_segs 13 [([3, 10], false), ([9], false)] (by kernel_rfl) (by kernel_rfl) ?_
        apply segs_cons
        · intro W hW
          have p2 := Blk.cell (i := 2) (HP.out.ext hW.of_drew) rfl
          have p5 := Blk.cell (i := 5) (HP.out.ext hW.of_drew) rfl
          have p6 := Blk.cell (i := 6) (HP.out.ext hW.of_drew) rfl
          simp only [runsT, runsF, rep, pick]
          go_wp2_with fail
          exact ⟨rfl, rfl⟩
        simp only [runsT, runsF, rep, left]
        go_wp2_with fail
        refine (right_any _ _).mono ?_
        rintro e w' ⟨rfl, rfl⟩
        go_wp2_with fail
        refine ⟨fun _ => Ext.refl _, ?_⟩
        apply segs_cons
        · intro W hW
          have p2 := Blk.cell (i := 2) (HP.out.ext hW.of_drew) rfl
          have p5 := Blk.cell (i := 5) (HP.out.ext hW.of_drew) rfl
          have p6 := Blk.cell (i := 6) (HP.out.ext hW.of_drew) rfl
          simp only [runsT, runsF, rep, pick]
          go_wp2_with fail
          exact ⟨rfl, rfl⟩
        simp only [runsT, runsF, rep, left]
        go_wp2_with fail
        go_ret2
        exact ⟨rfl, by (repeat' (first | assumption | exact Below.refl _ _ | exact below_ext (by assumption) (by assumption) | refine Below.drew ?_ | refine Below.setCell ?_ (by first | exact Nat.le_refl _ | exact Below.size (by assumption) | omega) _ | refine Below.alloc ?_ (by first | exact Nat.le_refl _ | exact Below.size (by assumption) | omega) _))⟩
      | false =>
        rw [hr] at e
        simp only [Bool.not_false, Bool.true_or] at e
        rw [e]
        clear e h2
        go_enter Try.func51, Try.ntmps51
        go_wp2_with fail

        refine wp_region_segs 13 [([3, 10], false), ([9], false)] (by kernel_rfl) (by kernel_rfl) ?_
        apply segs_cons
        · intro W hW
          have p2 := Blk.cell (i := 2) (HP.out.ext hW.of_drew) rfl
          have p5 := Blk.cell (i := 5) (HP.out.ext hW.of_drew) rfl
          have p6 := Blk.cell (i := 6) (HP.out.ext hW.of_drew) rfl
          simp only [runsT, runsF, rep, pick]
          go_wp2_with fail
          exact ⟨rfl, rfl⟩
        simp only [runsT, runsF, rep, left]
        go_wp2_with fail
        refine (right_any _ _).mono ?_
        rintro e w' ⟨rfl, rfl⟩
        go_wp2_with fail
        refine ⟨fun _ => Ext.refl _, ?_⟩
        apply segs_cons
        · intro W hW
          have p2 := Blk.cell (i := 2) (HP.out.ext hW.of_drew) rfl
          have p5 := Blk.cell (i := 5) (HP.out.ext hW.of_drew) rfl
          have p6 := Blk.cell (i := 6) (HP.out.ext hW.of_drew) rfl
          simp only [runsT, runsF, rep, pick]
          go_wp2_with fail
          exact ⟨rfl, rfl⟩
        simp only [runsT, runsF, rep, left]
        go_wp2_with fail
        go_ret2
        exact ⟨rfl, by (repeat' (first | assumption | exact Below.refl _ _ | exact below_ext (by assumption) (by assumption) | refine Below.drew ?_ | refine Below.setCell ?_ (by first | exact Nat.le_refl _ | exact Below.size (by assumption) | omega) _ | refine Below.alloc ?_ (by first | exact Nat.le_refl _ | exact Below.size (by assumption) | omega) _))⟩
    · have d2 : (c.kd == 2) = false := beq_eq_false_iff_ne.2 h2
      by_cases h7 : c.kd = 7
      · have d7 : (c.kd == 7) = true := beq_iff_eq.2 h7
        have e : must false c = (right c.co, true) := by unfold must; rw [if_neg (by decide), if_neg h2, if_pos h7]
        clear h7
        rw [e]
        go_enter Try.func51, Try.ntmps51
        go_wp2_with fail
        refine (right_any _ _).mono ?_
        rintro e w' ⟨rfl, rfl⟩
        go_wp2_with fail
        go_ret2
        exact ⟨rfl, by (repeat' (first | assumption | exact Below.refl _ _ | exact below_ext (by assumption) (by assumption) | refine Below.drew ?_ | refine Below.setCell ?_ (by first | exact Nat.le_refl _ | exact Below.size (by assumption) | omega) _ | refine Below.alloc ?_ (by first | exact Nat.le_refl _ | exact Below.size (by assumption) | omega) _))⟩
      · have d7 : (c.kd == 7) = false := beq_eq_false_iff_ne.2 h7
        by_cases h1 : c.kd = 1
        · have d1 : (c.kd == 1) = true := beq_iff_eq.2 h1
          have e : must false c = (false, false) := by unfold must; rw [if_neg (by decide), if_neg h2, if_neg h7, if_pos h1]
          clear h1 h2 h7
          rw [e]
          go_enter Try.func51, Try.ntmps51
          go_wp2_with fail

          go_ret2
          exact ⟨rfl, by (repeat' (first | assumption | exact Below.refl _ _ | exact below_ext (by assumption) (by assumption) | refine Below.drew ?_ | refine Below.setCell ?_ (by first | exact Nat.le_refl _ | exact Below.size (by assumption) | omega) _ | refine Below.alloc ?_ (by first | exact Nat.le_refl _ | exact Below.size (by assumption) | omega) _))⟩
        · have d1 : (c.kd == 1) = false := beq_eq_false_iff_ne.2 h1
          have e : must false c = (decide (0 < c.kd) && decide (c.kd < 7), true) := by unfold must; rw [if_neg (by decide), if_neg h2, if_neg h7, if_neg h1]
          clear h1 h2 h7
          by_cases h0 : 0 < c.kd
          · have d0 : decide (0 < c.kd) = true := decide_eq_true h0
            rw [d0, Bool.true_and] at e
            clear h0
            rw [e]
            go_enter Try.func51, Try.ntmps51
            go_wp2_with fail

            go_ret2
            exact ⟨rfl, by (repeat' (first | assumption | exact Below.refl _ _ | exact below_ext (by assumption) (by assumption) | refine Below.drew ?_ | refine Below.setCell ?_ (by first | exact Nat.le_refl _ | exact Below.size (by assumption) | omega) _ | refine Below.alloc ?_ (by first | exact Nat.le_refl _ | exact Below.size (by assumption) | omega) _))⟩
          · have d0 : decide (0 < c.kd) = false := decide_eq_false h0
            rw [d0, Bool.false_and] at e
            clear h0
            rw [e]
            go_enter Try.func51, Try.ntmps51
            go_wp2_with fail

            go_ret2
            exact ⟨rfl, by (repeat' (first | assumption | exact Below.refl _ _ | exact below_ext (by assumption) (by assumption) | refine Below.drew ?_ | refine Below.setCell ?_ (by first | exact Nat.le_refl _ | exact Below.size (by assumption) | omega) _ | refine Below.alloc ?_ (by first | exact Nat.le_refl _ | exact Below.size (by assumption) | omega) _))⟩
end Go.Proofs.Ytdfbfcglacalmaa.Lo
end
