/-
  Iterators that range over others themselves: what they owe is asked of invariants on cells alone; a caller's range over such a one.
  No program in sight; no condition.
-/
import Derived.RangeFuncNested
import Derived.RangeFuncFrom
import Derived.Test.YtbjkpiobfiebhaaRangeX
namespace Go
open Go.RowKit
variable {P : Program} {n : Nat}

/-- An iterator goes through rows (S) or is stopped in their midst (Sp); beside what it hands on it may lay blocks of its own, and turn those of them that are no cells. -/
def SeqN {α : Type} (F : Fence) (n : Nat) (P : Program) (g : Nat) (lb : Array Value) (encs : α → Array Value) (Kp : World → World → Prop) (S Sp : List α → Prop) (w : World) : Prop :=
  ∀ (l : Nat) (J Jx : List α → World → Prop) (W : World), Below w.heap.size w W → OwnFrom W.heap.size J → OwnFrom W.heap.size Jx →
    (∀ pre x W1, J pre W1 → Sp (pre ++ [x]) → YieldAt F (n - 1) P l (encs x) W1 fun e W' => KeepsFrom W.heap.size W1 W' ∧
      ((e = .returned (.bool true) ∧ J (pre ++ [x]) W' ∧ Kp W1 W') ∨ (e = .returned (.bool false) ∧ Jx (pre ++ [x]) W'))) →
    J [] W →
    CallsIn F n P g (#[.func (.yield l) #[] #[]] ++ lb) W fun e W' => (∃ v, e = .returned v) ∧ ((∃ xs, S xs ∧ J xs W') ∨ (∃ pre, Sp pre ∧ Jx pre W'))

theorem OwnFrom.later {β : Type} {B B' : Nat} {I : β → World → Prop} (h : OwnFrom B I) (hB : B ≤ B') : OwnFrom B' I :=
  fun s W W' row hs hg hr => h s W W' row hs hg (fun r e => ⟨Nat.le_trans hB (hr r e).1, (hr r e).2⟩)
/-- What lies below a place abides whatever is done at or behind it. -/
theorem ownFrom_block {β : Type} {B k : Nat} (hk : k < B) (o : Obj) : OwnFrom B (fun (_ : β) W => W.heap[k]? = some o) := fun _ W W' row hs hg hr => by
  dsimp only at hs ⊢
  rw [hg.block k (Array.getElem?_eq_some_iff.1 hs).1 (fun e => by have := (hr k e.symm).1; omega)]
  exact hs

theorem wpIn_range_N {α : Type} {g : Operand} {ps : Array Tmp} {assign body : Code} {Q : Exit → Act → World → Prop} {a : Act} {w : World} {gf : Nat} {lb : Array Value}
    (hg : a.eval g = .func (.func gf) #[] lb) (eg : ∀ args w, (callFunc gf args).run P w = .ok (.enter gf args) w)
    {encs : α → Array Value} {Kp : World → World → Prop} {S Sp : List α → Prop} {w0 : World} (hseq : SeqN Fence.wide (n - 1) P gf lb encs Kp S Sp w0)
    (hKt : ∀ {A B C : World}, Kp A B → Kp B C → Kp A C) (hKb : ∀ (W : World) (l : Nat) (o o' : Obj), w.heap.size ≤ l → W.heap[l]? = some o → o.isCells = false → o.isWalk = false → Kp W (W.putObj l o')) (hb0 : Below w0.heap.size w0 w) (hps : ∀ x, (encs x).size = ps.size)
    (I : List α → World → Prop) (Ix : Code → List α → World → Prop) (hI : OwnFrom w.heap.size I) (hIx : ∀ c, OwnFrom w.heap.size (Ix c)) (h0 : I [] w)
    (hab : ∃ a₁ : α → Act, (∀ (l : Nat) (x : α) (W : World) (K : Act → World → Prop), K (a₁ x) W →
      assign.wpIn (Fence.wide.inRound l) (n - 1 - 1) P (Exit.then K (fun _ _ _ => False)) { tmps := (ps.zip (encs x)).foldl (fun t (p, v) => t.setIfInBounds p v) a.tmps, defers := [] } W) ∧
      (∀ (l : Nat) (pre : List α) (x : α) (W : World), w.heap.size ≤ l → (∃ r, W.heap[l]? = some (.loop r)) → I pre W → Sp (pre ++ [x]) → body.wpIn (Fence.wide.inRound l) (n - 1 - 1) P (ownPostG w.heap.size Kp I Ix (pre ++ [x]) W) (a₁ x) W))
    (hdone : ∀ (D : Nat) (xs : List α) (W : World), w.heap.size ≤ D → S xs → I xs W → W.heap[D]? = some (.deferred (some [])) → Q .normal { a with defers := { target := .collected D, args := #[] } :: a.defers } W)
    (hstop : ∀ (D : Nat) (c : Code) (pre : List α) (W : World), w.heap.size ≤ D → Sp pre → Ix c pre W → W.heap[D]? = some (.deferred (some [])) → c.wpIn Fence.wide n P Q { a with defers := { target := .collected D, args := #[] } :: a.defers } W) :
    (Code.rangeFunc g ps assign body).wpIn Fence.wide n P Q a w := by
  obtain ⟨a₁, hassign, hbody⟩ := hab
  refine wpIn_rangeFunc (fun fn hfn => ?_)
  -- the loop's record, by its state and what is pending
  let R : LoopState → Option Code → Obj := fun st pe => .loop { state := st, pending := pe, fn := fn, tmps := a.tmps, params := ps, assign := assign, body := body, defers := w.heap.size }
  have hRc : ∀ st pe, (R st pe).isCells = false := fun _ _ => rfl
  obtain ⟨W1, hW1⟩ : ∃ W1, (w.alloc (.deferred (some []))).alloc (R .ready none) = W1 := ⟨_, rfl⟩
  have hz : W1.heap.size = w.heap.size + 2 := by rw [← hW1]; simp
  have hL1 : W1.heap[w.heap.size + 1]? = some (R .ready none) := by
    rw [← hW1]
    have := World.alloc_heap_new (w.alloc (.deferred (some []))) (R .ready none)
    rwa [World.size_alloc] at this
  have hD1 : W1.heap[w.heap.size]? = some (.deferred (some [])) := by
    rw [← hW1]
    exact (Below.heap_alloc _ _ _ (by simp)).trans (World.alloc_heap_new w _)
  have hw1 : Below w.heap.size w W1 := by rw [← hW1]; exact ((Below.refl _ w).alloc (Nat.le_refl _) _).alloc (by simp) _
  have hI1 : I [] W1 := by rw [← hW1]; exact hI.alloc _ (hI.alloc _ h0)
  refine ⟨w.heap.size + 1, [{ target := .collected w.heap.size, args := #[] }], W1, { target := .fn (.func gf) lb, args := #[.func (.yield (w.heap.size + 1)) #[] #[]] }, W1, gf,
    #[.func (.yield (w.heap.size + 1)) #[] #[]] ++ lb, W1, ?_, ?_, fun _ _ => trivial, ?_, fun h => (by simp [Fence.wide] at h), ?_⟩
  · rw [← hW1]; exact run_enterLoop_outer _ _ _ _ _
  · simp only [resolve, hg]
    simp [go_sem]
  · simp [invoke, go_sem, eg]
  · have hlD : w.heap.size < W1.heap.size := by omega
    have hlL : w.heap.size + 1 < W1.heap.size := by omega
    have call := hseq (w.heap.size + 1) (fun pre W => I pre W ∧ W.heap[w.heap.size + 1]? = some (R .ready none) ∧ W.heap[w.heap.size]? = some (.deferred (some [])))
      (fun pre W => ∃ c, Ix c pre W ∧ W.heap[w.heap.size + 1]? = some (R .done (some c)) ∧ W.heap[w.heap.size]? = some (.deferred (some []))) W1 (hb0.trans (hw1.mono hb0.size))
      ((hI.later (by omega)).and ((ownFrom_block hlL _).and (ownFrom_block hlD _)))
      (fun s A B row hs hg' hr => by
        obtain ⟨c, hc, h1, h2⟩ := hs
        exact ⟨c, (hIx c).later (by omega) s A B row hc hg' hr, ownFrom_block (β := List α) hlL _ s A B row h1 hg' hr, ownFrom_block (β := List α) hlD _ s A B row h2 hg' hr⟩)
      ?_ ⟨hI1, hL1, hD1⟩
    · refine call.mono ?_
      rintro e W2 ⟨⟨v, rfl⟩, hend⟩
      rcases hend with ⟨xs, hS, hi, hl, hk⟩ | ⟨pre, hSp, c, hi, hl, hk⟩
      · refine ⟨none, _, run_endLoop (P := P) hl (by simp), hdone _ xs _ (Nat.le_refl _) hS (hI.putObj _ hi (by omega) hl (hRc _ _)) ?_⟩
        rw [World.putObj_heap_other (by omega)]
        exact hk
      · refine ⟨some c, _, run_endLoop (P := P) hl (by simp), hstop _ c pre _ (Nat.le_refl _) hSp ((hIx c).putObj _ hi (by omega) hl (hRc _ _)) ?_⟩
        rw [World.putObj_heap_other (by omega)]
        exact hk
    · rintro pre x W ⟨hi, hl, hk⟩ hlen
      have hlt : w.heap.size + 1 < W.heap.size := (Array.getElem?_eq_some_iff.1 hl).1
      refine ⟨fn, _, assign, body, run_yield hl (hps x), roundIn_of_wpIn hfn (hassign _ x W _ ?_)⟩
      refine ⟨_, run_beginRound hl rfl, ?_⟩
      obtain ⟨Wb, hWb⟩ : ∃ Wb, W.putObj (w.heap.size + 1) (R .busy none) = Wb := ⟨_, rfl⟩
      have hlb : Wb.heap[w.heap.size + 1]? = some (R .busy none) := by rw [← hWb]; exact World.putObj_heap_same hlt
      have hkb : Wb.heap[w.heap.size]? = some (.deferred (some [])) := by rw [← hWb, World.putObj_heap_other (by omega)]; exact hk
      have hib : I pre Wb := by rw [← hWb]; exact hI.putObj _ hi (by omega) hl (hRc _ _)
      have hKW : Kp W Wb := by rw [← hWb]; exact hKb _ _ _ _ (by omega) hl rfl rfl
      have keep : ∀ (W3 : World) (o : Obj), KeepsFrom w.heap.size Wb W3 → KeepsFrom W1.heap.size W (W3.putObj (w.heap.size + 1) o) := fun W3 o h3 => by
        have hs : W.heap.size = Wb.heap.size := by rw [← hWb]; simp
        refine ⟨by have := h3.size; simp; omega, fun k o' hk1 hko ho => ?_⟩
        rw [World.putObj_heap_other (by omega)]
        refine h3.same k o' (by omega) ?_ ho
        rw [← hWb, World.putObj_heap_other (by omega)]
        exact hko
      have stop : ∀ (c : Code) (a3 : Act) (W3 : World), KeepsFrom w.heap.size Wb W3 → Ix c (pre ++ [x]) W3 → ∃ u W4, (Instr.endRound (w.heap.size + 1) (some c)).run P W3 = .ok u W4 ∧ u = .bool false ∧ KeepsFrom W1.heap.size W W4 ∧ (∃ c, Ix c (pre ++ [x]) W4 ∧ W4.heap[w.heap.size + 1]? = some (R .done (some c)) ∧ W4.heap[w.heap.size]? = some (.deferred (some []))) := fun c _ W3 h3 hx => by
        have hl3 := h3.same _ _ (by omega) hlb (hRc _ _)
        refine ⟨_, _, run_endRound (P := P) (some c) hl3, rfl, keep W3 _ h3, c, (hIx c).putObj _ hx (by omega) hl3 (hRc _ _), World.putObj_heap_same (Array.getElem?_eq_some_iff.1 hl3).1, ?_⟩
        rw [World.putObj_heap_other (by omega)]
        exact h3.same _ _ (Nat.le_refl _) hkb rfl
      show body.wpIn _ _ P _ _ (W.putObj (w.heap.size + 1) (R .busy none))
      rw [hWb]
      refine wpIn_mono (hbody _ pre x Wb (by omega) ⟨_, hlb⟩ hib hlen) ?_
      rintro e a3 W3 hp
      cases e with
      | normal =>
        obtain ⟨h3, hk3, hi3⟩ := hp
        have hl3 := h3.same _ _ (by omega) hlb (hRc _ _)
        refine ⟨_, _, run_endRound (P := P) none hl3, keep W3 _ h3, .inl ⟨rfl, ⟨hI.putObj _ hi3 (by omega) hl3 (hRc _ _), World.putObj_heap_same (Array.getElem?_eq_some_iff.1 hl3).1, ?_⟩, hKt hKW (hKt hk3 (hKb _ _ _ _ (by omega) hl3 rfl rfl))⟩⟩
        rw [World.putObj_heap_other (by omega)]
        exact h3.same _ _ (Nat.le_refl _) hkb rfl
      | ret =>
        obtain ⟨u, W4, h4, rfl, hkf, hx⟩ := stop _ a3 W3 hp.1 hp.2
        exact ⟨_, _, h4, hkf, .inr ⟨rfl, hx⟩⟩
      | exit id =>
        obtain ⟨u, W4, h4, rfl, hkf, hx⟩ := stop _ a3 W3 hp.1 hp.2
        exact ⟨_, _, h4, hkf, .inr ⟨rfl, hx⟩⟩
      | goto t =>
        obtain ⟨u, W4, h4, rfl, hkf, hx⟩ := stop _ a3 W3 hp.1 hp.2
        exact ⟨_, _, h4, hkf, .inr ⟨rfl, hx⟩⟩
      | panic ch => exact hp.elim
      | outgrown => exact hp.elim

/-- A loop whose variable is a struct: it is laid in a block of its own ahead of each round. -/
theorem wpIn_range_NB {α : Type} {g : Operand} {ps : Array Tmp} {assign body : Code} {Q : Exit → Act → World → Prop} {a : Act} {w : World} {gf : Nat} {lb : Array Value}
    (hg : a.eval g = .func (.func gf) #[] lb) (eg : ∀ args w, (callFunc gf args).run P w = .ok (.enter gf args) w)
    {encs : α → Array Value} {Kp : World → World → Prop} {S Sp : List α → Prop} {w0 : World} (hseq : SeqN Fence.wide (n - 1) P gf lb encs Kp S Sp w0)
    (hKt : ∀ {A B C : World}, Kp A B → Kp B C → Kp A C) (hKa : ∀ (W : World) (o : Obj), w.heap.size ≤ W.heap.size → Kp W (W.alloc o)) (hKb : ∀ (W : World) (l : Nat) (o o' : Obj), w.heap.size ≤ l → W.heap[l]? = some o → o.isCells = false → o.isWalk = false → Kp W (W.putObj l o')) (hb0 : Below w0.heap.size w0 w) (hps : ∀ x, (encs x).size = ps.size) (ob : α → Obj)
    (I : List α → World → Prop) (Ix : Code → List α → World → Prop) (hI : OwnFrom w.heap.size I) (hIx : ∀ c, OwnFrom w.heap.size (Ix c)) (h0 : I [] w)
    (hab : ∃ a₁ : α → Nat → Act, (∀ (l : Nat) (x : α) (W : World) (K : Act → World → Prop), (∀ k, W.heap.size = k → K (a₁ x k) (W.alloc (ob x))) →
      assign.wpIn (Fence.wide.inRound l) (n - 1 - 1) P (Exit.then K (fun _ _ _ => False)) { tmps := (ps.zip (encs x)).foldl (fun t (p, v) => t.setIfInBounds p v) a.tmps, defers := [] } W) ∧
      (∀ (l k : Nat) (pre : List α) (x : α) (W : World), w.heap.size ≤ l → (∃ r, W.heap[l]? = some (.loop r)) → w.heap.size ≤ k → W.heap[k]? = some (ob x) → I pre W → Sp (pre ++ [x]) → body.wpIn (Fence.wide.inRound l) (n - 1 - 1) P (ownPostG w.heap.size Kp I Ix (pre ++ [x]) W) (a₁ x k) W))
    (hdone : ∀ (D : Nat) (xs : List α) (W : World), w.heap.size ≤ D → S xs → I xs W → W.heap[D]? = some (.deferred (some [])) → Q .normal { a with defers := { target := .collected D, args := #[] } :: a.defers } W)
    (hstop : ∀ (D : Nat) (c : Code) (pre : List α) (W : World), w.heap.size ≤ D → Sp pre → Ix c pre W → W.heap[D]? = some (.deferred (some [])) → c.wpIn Fence.wide n P Q { a with defers := { target := .collected D, args := #[] } :: a.defers } W) :
    (Code.rangeFunc g ps assign body).wpIn Fence.wide n P Q a w := by
  obtain ⟨a₁, hassign, hbody⟩ := hab
  refine wpIn_rangeFunc (fun fn hfn => ?_)
  -- the loop's record, by its state and what is pending
  let R : LoopState → Option Code → Obj := fun st pe => .loop { state := st, pending := pe, fn := fn, tmps := a.tmps, params := ps, assign := assign, body := body, defers := w.heap.size }
  have hRc : ∀ st pe, (R st pe).isCells = false := fun _ _ => rfl
  obtain ⟨W1, hW1⟩ : ∃ W1, (w.alloc (.deferred (some []))).alloc (R .ready none) = W1 := ⟨_, rfl⟩
  have hz : W1.heap.size = w.heap.size + 2 := by rw [← hW1]; simp
  have hL1 : W1.heap[w.heap.size + 1]? = some (R .ready none) := by
    rw [← hW1]
    have := World.alloc_heap_new (w.alloc (.deferred (some []))) (R .ready none)
    rwa [World.size_alloc] at this
  have hD1 : W1.heap[w.heap.size]? = some (.deferred (some [])) := by
    rw [← hW1]
    exact (Below.heap_alloc _ _ _ (by simp)).trans (World.alloc_heap_new w _)
  have hw1 : Below w.heap.size w W1 := by rw [← hW1]; exact ((Below.refl _ w).alloc (Nat.le_refl _) _).alloc (by simp) _
  have hI1 : I [] W1 := by rw [← hW1]; exact hI.alloc _ (hI.alloc _ h0)
  refine ⟨w.heap.size + 1, [{ target := .collected w.heap.size, args := #[] }], W1, { target := .fn (.func gf) lb, args := #[.func (.yield (w.heap.size + 1)) #[] #[]] }, W1, gf,
    #[.func (.yield (w.heap.size + 1)) #[] #[]] ++ lb, W1, ?_, ?_, fun _ _ => trivial, ?_, fun h => (by simp [Fence.wide] at h), ?_⟩
  · rw [← hW1]; exact run_enterLoop_outer _ _ _ _ _
  · simp only [resolve, hg]
    simp [go_sem]
  · simp [invoke, go_sem, eg]
  · have hlD : w.heap.size < W1.heap.size := by omega
    have hlL : w.heap.size + 1 < W1.heap.size := by omega
    have call := hseq (w.heap.size + 1) (fun pre W => I pre W ∧ W.heap[w.heap.size + 1]? = some (R .ready none) ∧ W.heap[w.heap.size]? = some (.deferred (some [])))
      (fun pre W => ∃ c, Ix c pre W ∧ W.heap[w.heap.size + 1]? = some (R .done (some c)) ∧ W.heap[w.heap.size]? = some (.deferred (some []))) W1 (hb0.trans (hw1.mono hb0.size))
      ((hI.later (by omega)).and ((ownFrom_block hlL _).and (ownFrom_block hlD _)))
      (fun s A B row hs hg' hr => by
        obtain ⟨c, hc, h1, h2⟩ := hs
        exact ⟨c, (hIx c).later (by omega) s A B row hc hg' hr, ownFrom_block (β := List α) hlL _ s A B row h1 hg' hr, ownFrom_block (β := List α) hlD _ s A B row h2 hg' hr⟩)
      ?_ ⟨hI1, hL1, hD1⟩
    · refine call.mono ?_
      rintro e W2 ⟨⟨v, rfl⟩, hend⟩
      rcases hend with ⟨xs, hS, hi, hl, hk⟩ | ⟨pre, hSp, c, hi, hl, hk⟩
      · refine ⟨none, _, run_endLoop (P := P) hl (by simp), hdone _ xs _ (Nat.le_refl _) hS (hI.putObj _ hi (by omega) hl (hRc _ _)) ?_⟩
        rw [World.putObj_heap_other (by omega)]
        exact hk
      · refine ⟨some c, _, run_endLoop (P := P) hl (by simp), hstop _ c pre _ (Nat.le_refl _) hSp ((hIx c).putObj _ hi (by omega) hl (hRc _ _)) ?_⟩
        rw [World.putObj_heap_other (by omega)]
        exact hk
    · rintro pre x W0 ⟨hi0, hl0, hk0⟩ hlen
      have hlt0 : w.heap.size + 1 < W0.heap.size := (Array.getElem?_eq_some_iff.1 hl0).1
      refine ⟨fn, _, assign, body, run_yield hl0 (hps x), roundIn_of_wpIn hfn (hassign _ x W0 _ fun k0 hk0' => ?_)⟩
      subst hk0'
      obtain ⟨W, hW⟩ : ∃ W, W0.alloc (ob x) = W := ⟨_, rfl⟩
      have hl : W.heap[w.heap.size + 1]? = some (R .ready none) := by rw [← hW]; exact (Below.heap_alloc _ _ _ hlt0).trans hl0
      have hk : W.heap[w.heap.size]? = some (.deferred (some [])) := by rw [← hW]; exact (Below.heap_alloc _ _ _ (by omega)).trans hk0
      have hi : I pre W := by rw [← hW]; exact hI.alloc _ hi0
      have hob : W.heap[W0.heap.size]? = some (ob x) := by rw [← hW]; exact World.alloc_heap_new W0 _
      have hKa0 : Kp W0 W := by rw [← hW]; exact hKa _ _ (by omega)
      have hsz : W0.heap.size ≤ W.heap.size := by rw [← hW]; simp
      have hold : ∀ (k : Nat) (o : Obj), W0.heap[k]? = some o → W.heap[k]? = some o := fun k o h => by rw [← hW]; exact (Below.heap_alloc _ _ _ (Array.getElem?_eq_some_iff.1 h).1).trans h
      rw [hW]
      have hlt : w.heap.size + 1 < W.heap.size := (Array.getElem?_eq_some_iff.1 hl).1
      refine ⟨_, run_beginRound hl rfl, ?_⟩
      obtain ⟨Wb, hWb⟩ : ∃ Wb, W.putObj (w.heap.size + 1) (R .busy none) = Wb := ⟨_, rfl⟩
      have hlb : Wb.heap[w.heap.size + 1]? = some (R .busy none) := by rw [← hWb]; exact World.putObj_heap_same hlt
      have hkb : Wb.heap[w.heap.size]? = some (.deferred (some [])) := by rw [← hWb, World.putObj_heap_other (by omega)]; exact hk
      have hobb : Wb.heap[W0.heap.size]? = some (ob x) := by rw [← hWb, World.putObj_heap_other (by omega)]; exact hob
      have hib : I pre Wb := by rw [← hWb]; exact hI.putObj _ hi (by omega) hl (hRc _ _)
      have hKW : Kp W0 Wb := hKt hKa0 (by rw [← hWb]; exact hKb _ _ _ _ (by omega) hl rfl rfl)
      have keep : ∀ (W3 : World) (o : Obj), KeepsFrom w.heap.size Wb W3 → KeepsFrom W1.heap.size W0 (W3.putObj (w.heap.size + 1) o) := fun W3 o h3 => by
        have hs : W.heap.size = Wb.heap.size := by rw [← hWb]; simp
        refine ⟨by have := h3.size; simp; omega, fun k o' hk1 hko ho => ?_⟩
        rw [World.putObj_heap_other (by omega)]
        refine h3.same k o' (by omega) ?_ ho
        rw [← hWb, World.putObj_heap_other (by omega)]
        exact hold _ _ hko
      have stop : ∀ (c : Code) (a3 : Act) (W3 : World), KeepsFrom w.heap.size Wb W3 → Ix c (pre ++ [x]) W3 → ∃ u W4, (Instr.endRound (w.heap.size + 1) (some c)).run P W3 = .ok u W4 ∧ u = .bool false ∧ KeepsFrom W1.heap.size W0 W4 ∧ (∃ c, Ix c (pre ++ [x]) W4 ∧ W4.heap[w.heap.size + 1]? = some (R .done (some c)) ∧ W4.heap[w.heap.size]? = some (.deferred (some []))) := fun c _ W3 h3 hx => by
        have hl3 := h3.same _ _ (by omega) hlb (hRc _ _)
        refine ⟨_, _, run_endRound (P := P) (some c) hl3, rfl, keep W3 _ h3, c, (hIx c).putObj _ hx (by omega) hl3 (hRc _ _), World.putObj_heap_same (Array.getElem?_eq_some_iff.1 hl3).1, ?_⟩
        rw [World.putObj_heap_other (by omega)]
        exact h3.same _ _ (Nat.le_refl _) hkb rfl
      show body.wpIn _ _ P _ _ (W.putObj (w.heap.size + 1) (R .busy none))
      rw [hWb]
      refine wpIn_mono (hbody _ _ pre x Wb (by omega) ⟨_, hlb⟩ (by omega) hobb hib hlen) ?_
      rintro e a3 W3 hp
      cases e with
      | normal =>
        obtain ⟨h3, hk3, hi3⟩ := hp
        have hl3 := h3.same _ _ (by omega) hlb (hRc _ _)
        refine ⟨_, _, run_endRound (P := P) none hl3, keep W3 _ h3, .inl ⟨rfl, ⟨hI.putObj _ hi3 (by omega) hl3 (hRc _ _), World.putObj_heap_same (Array.getElem?_eq_some_iff.1 hl3).1, ?_⟩, hKt hKW (hKt hk3 (hKb _ _ _ _ (by omega) hl3 rfl rfl))⟩⟩
        rw [World.putObj_heap_other (by omega)]
        exact h3.same _ _ (Nat.le_refl _) hkb rfl
      | ret =>
        obtain ⟨u, W4, h4, rfl, hkf, hx⟩ := stop _ a3 W3 hp.1 hp.2
        exact ⟨_, _, h4, hkf, .inr ⟨rfl, hx⟩⟩
      | exit id =>
        obtain ⟨u, W4, h4, rfl, hkf, hx⟩ := stop _ a3 W3 hp.1 hp.2
        exact ⟨_, _, h4, hkf, .inr ⟨rfl, hx⟩⟩
      | goto t =>
        obtain ⟨u, W4, h4, rfl, hkf, hx⟩ := stop _ a3 W3 hp.1 hp.2
        exact ⟨_, _, h4, hkf, .inr ⟨rfl, hx⟩⟩
      | panic ch => exact hp.elim
      | outgrown => exact hp.elim

/-- The same, in a round of loop l₀. -/
theorem wpIn_range_NN {α : Type} {g : Operand} {ps : Array Tmp} {assign body : Code} {Q : Exit → Act → World → Prop} {a : Act} {w : World} {gf : Nat} {lb : Array Value} {l₀ : Nat} {r₀ : Loop} (hl₀ : w.heap[l₀]? = some (.loop r₀))
    (hg : a.eval g = .func (.func gf) #[] lb) (eg : ∀ args w, (callFunc gf args).run P w = .ok (.enter gf args) w)
    {encs : α → Array Value} {Kp : World → World → Prop} {S Sp : List α → Prop} {w0 : World} (hseq : SeqN Fence.wide (n - 1) P gf lb encs Kp S Sp w0)
    (hKt : ∀ {A B C : World}, Kp A B → Kp B C → Kp A C) (hKb : ∀ (W : World) (l : Nat) (o o' : Obj), w.heap.size ≤ l → W.heap[l]? = some o → o.isCells = false → o.isWalk = false → Kp W (W.putObj l o')) (hb0 : Below w0.heap.size w0 w) (hps : ∀ x, (encs x).size = ps.size)
    (I : List α → World → Prop) (Ix : Code → List α → World → Prop) (hI : OwnFrom w.heap.size I) (hIx : ∀ c, OwnFrom w.heap.size (Ix c)) (h0 : I [] w)
    (hab : ∃ a₁ : α → Act, (∀ (l : Nat) (x : α) (W : World) (K : Act → World → Prop), K (a₁ x) W →
      assign.wpIn (Fence.wide.inRound l) (n - 1 - 1) P (Exit.then K (fun _ _ _ => False)) { tmps := (ps.zip (encs x)).foldl (fun t (p, v) => t.setIfInBounds p v) a.tmps, defers := [] } W) ∧
      (∀ (l : Nat) (pre : List α) (x : α) (W : World), w.heap.size ≤ l → (∃ r, W.heap[l]? = some (.loop r)) → I pre W → Sp (pre ++ [x]) → body.wpIn (Fence.wide.inRound l) (n - 1 - 1) P (ownPostG w.heap.size Kp I Ix (pre ++ [x]) W) (a₁ x) W))
    (hdone : ∀ (xs : List α) (W : World), S xs → I xs W → Q .normal a W)
    (hstop : ∀ (c : Code) (pre : List α) (W : World), Sp pre → Ix c pre W → c.wpIn (Fence.wide.inRound l₀) n P Q a W) :
    (Code.rangeFunc g ps assign body).wpIn (Fence.wide.inRound l₀) n P Q a w := by
  obtain ⟨a₁, hassign, hbody⟩ := hab
  refine wpIn_rangeFunc (fun fn hfn => ?_)
  let R : LoopState → Option Code → Obj := fun st pe => .loop { state := st, pending := pe, fn := fn, tmps := a.tmps, params := ps, assign := assign, body := body, defers := r₀.defers }
  have hRc : ∀ st pe, (R st pe).isCells = false := fun _ _ => rfl
  obtain ⟨W1, hW1⟩ : ∃ W1, w.alloc (R .ready none) = W1 := ⟨_, rfl⟩
  have hz : W1.heap.size = w.heap.size + 1 := by rw [← hW1]; simp
  have hL1 : W1.heap[w.heap.size]? = some (R .ready none) := by rw [← hW1]; exact World.alloc_heap_new w _
  have hw1 : Below w.heap.size w W1 := by rw [← hW1]; exact (Below.refl _ w).alloc (Nat.le_refl _) _
  have hI1 : I [] W1 := by rw [← hW1]; exact hI.alloc _ h0
  refine ⟨w.heap.size, [], W1, { target := .fn (.func gf) lb, args := #[.func (.yield w.heap.size) #[] #[]] }, W1, gf, #[.func (.yield w.heap.size) #[] #[]] ++ lb, W1, ?_, ?_, fun _ _ => trivial, ?_, fun h => (by simp [Fence.wide, Fence.inRound] at h), ?_⟩
  · rw [← hW1]; exact run_enterLoop_inner hl₀ _ _ _ _ _
  · simp only [resolve, hg]
    simp [go_sem]
  · simp [invoke, go_sem, eg]
  · have hlL : w.heap.size < W1.heap.size := by omega
    have call := hseq w.heap.size (fun pre W => I pre W ∧ W.heap[w.heap.size]? = some (R .ready none)) (fun pre W => ∃ c, Ix c pre W ∧ W.heap[w.heap.size]? = some (R .done (some c))) W1 (hb0.trans (hw1.mono hb0.size))
      ((hI.later (by omega)).and (ownFrom_block hlL _))
      (fun s A B row hs hg' hr => by
        obtain ⟨c, hc, h1⟩ := hs
        exact ⟨c, (hIx c).later (by omega) s A B row hc hg' hr, ownFrom_block (β := List α) hlL _ s A B row h1 hg' hr⟩)
      ?_ ⟨hI1, hL1⟩
    · refine (CallsIn.inRound l₀ call).mono ?_
      rintro e W2 ⟨⟨v, rfl⟩, hend⟩
      rcases hend with ⟨xs, hS, hi, hl⟩ | ⟨pre, hSp, c, hi, hl⟩
      · exact ⟨none, _, run_endLoop (P := P) hl (by simp), hdone xs _ hS (hI.putObj _ hi (Nat.le_refl _) hl (hRc _ _))⟩
      · exact ⟨some c, _, run_endLoop (P := P) hl (by simp), hstop c pre _ hSp ((hIx c).putObj _ hi (Nat.le_refl _) hl (hRc _ _))⟩
    · rintro pre x W ⟨hi, hl⟩ hlen
      have hlt : w.heap.size < W.heap.size := (Array.getElem?_eq_some_iff.1 hl).1
      refine ⟨fn, _, assign, body, run_yield hl (hps x), roundIn_of_wpIn hfn (hassign _ x W _ ?_)⟩
      refine ⟨_, run_beginRound hl rfl, ?_⟩
      obtain ⟨Wb, hWb⟩ : ∃ Wb, W.putObj w.heap.size (R .busy none) = Wb := ⟨_, rfl⟩
      have hlb : Wb.heap[w.heap.size]? = some (R .busy none) := by rw [← hWb]; exact World.putObj_heap_same hlt
      have hib : I pre Wb := by rw [← hWb]; exact hI.putObj _ hi (Nat.le_refl _) hl (hRc _ _)
      have hKW : Kp W Wb := by rw [← hWb]; exact hKb _ _ _ _ (Nat.le_refl _) hl rfl rfl
      have keep : ∀ (W3 : World) (o : Obj), KeepsFrom w.heap.size Wb W3 → KeepsFrom W1.heap.size W (W3.putObj w.heap.size o) := fun W3 o h3 => by
        have hs : W.heap.size = Wb.heap.size := by rw [← hWb]; simp
        refine ⟨by have := h3.size; simp; omega, fun k o' hk1 hko ho => ?_⟩
        rw [World.putObj_heap_other (by omega)]
        refine h3.same k o' (by omega) ?_ ho
        rw [← hWb, World.putObj_heap_other (by omega)]
        exact hko
      have stop : ∀ (c : Code) (W3 : World), KeepsFrom w.heap.size Wb W3 → Ix c (pre ++ [x]) W3 → ∃ u W4, (Instr.endRound w.heap.size (some c)).run P W3 = .ok u W4 ∧ u = .bool false ∧ KeepsFrom W1.heap.size W W4 ∧ (∃ c, Ix c (pre ++ [x]) W4 ∧ W4.heap[w.heap.size]? = some (R .done (some c))) := fun c W3 h3 hx => by
        have hl3 := h3.same _ _ (Nat.le_refl _) hlb (hRc _ _)
        exact ⟨_, _, run_endRound (P := P) (some c) hl3, rfl, keep W3 _ h3, c, (hIx c).putObj _ hx (Nat.le_refl _) hl3 (hRc _ _), World.putObj_heap_same (Array.getElem?_eq_some_iff.1 hl3).1⟩
      show body.wpIn _ _ P _ _ (W.putObj w.heap.size (R .busy none))
      rw [hWb]
      refine wpIn_mono (hbody _ pre x Wb (Nat.le_refl _) ⟨_, hlb⟩ hib hlen) ?_
      rintro e a3 W3 hp
      cases e with
      | normal =>
        obtain ⟨h3, hk3, hi3⟩ := hp
        have hl3 := h3.same _ _ (Nat.le_refl _) hlb (hRc _ _)
        exact ⟨_, _, run_endRound (P := P) none hl3, keep W3 _ h3, .inl ⟨rfl, ⟨hI.putObj _ hi3 (Nat.le_refl _) hl3 (hRc _ _), World.putObj_heap_same (Array.getElem?_eq_some_iff.1 hl3).1⟩, hKt hKW (hKt hk3 (hKb _ _ _ _ (Nat.le_refl _) hl3 rfl rfl))⟩⟩
      | ret =>
        obtain ⟨u, W4, h4, rfl, hkf, hx⟩ := stop _ W3 hp.1 hp.2
        exact ⟨_, _, h4, hkf, .inr ⟨rfl, hx⟩⟩
      | exit id =>
        obtain ⟨u, W4, h4, rfl, hkf, hx⟩ := stop _ W3 hp.1 hp.2
        exact ⟨_, _, h4, hkf, .inr ⟨rfl, hx⟩⟩
      | goto t =>
        obtain ⟨u, W4, h4, rfl, hkf, hx⟩ := stop _ W3 hp.1 hp.2
        exact ⟨_, _, h4, hkf, .inr ⟨rfl, hx⟩⟩
      | panic ch => exact hp.elim
      | outgrown => exact hp.elim
end Go
