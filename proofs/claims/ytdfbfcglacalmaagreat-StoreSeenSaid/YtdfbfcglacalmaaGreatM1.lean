/-
  A region that draws its order, walked in the order of the text: the operations that only look are walked first, at any world in which the old blocks stand; between them the calls, one behind the other. No program in sight; no condition.
  What comes in, opened by its type: a struct of plain fields is a row of cells of known kinds; a slice of such is a row of such rows. No program in sight; no condition.
  Slices of the call's own (Laws/AppendOwn's ownsRow), carried over what other calls do. No program in sight; no condition.
  A slice of one's own, written cell by cell. No program in sight; no condition.
  Slices of one's own as lists of cells: the literal of none and of one, and append, as laws of the walk that leave a world of which only the rows are told. No program in sight; fewer than 1,000,000 elements; no other condition.
  A struct stored into a block that is known whole, and loaded out of it, in one step. No program in sight; no condition.
-/
import Derived.Tactics
import Derived.Orders
import Derived.OrdersHeld
import Derived.Below
import Derived.ProofKit
import Derived.OpenShut
import Derived.Deep.Slices
import Derived.Laws.AppendOwn
import Derived.Laws.IdiomCopy
import Derived.Laws.Rows
import Derived.Deep.Draws
import Derived.OwnWalk
import Derived.OwnWalkIn
import Derived.Lib.Hide
import Derived.Deep.WholeRow
import Derived.Laws.ResultCell
section
namespace Go.Seg
open Go.RowKit

/-- No step of it changes what is there: it looks, draws, makes blocks. -/
def Mono (P : Program) {α : Type} : Sem α → Prop
  | .pure _ => True
  | .halt _ => True
  | .load _ _ k => ∀ v, Mono P (k v)
  | .shape _ k => ∀ s, Mono P (k s)
  | .frozen _ k => ∀ b, Mono P (k b)
  | .getObj _ k => ∀ o, Mono P (k o)
  | .program k => Mono P (k P)
  | .mark _ k => Mono P k
  | .new _ k => ∀ n, Mono P (k n)
  | .choose _ k => ∀ n, Mono P (k n)
  | .store _ _ _ _ => False
  | .freeze _ _ _ => False
  | .setObj _ _ _ => False
  | .sys _ _ => False

section
variable {P : Program}

theorem Mono.bind' {α β : Type} {x : Sem α} {f : α → Sem β} (hx : Mono P x) (hf : ∀ a, Mono P (f a)) : Mono P (x.bind f) := by
  induction x with
  | pure a => exact hf a
  | halt h => exact trivial
  | load m a k ih => exact fun v => ih v (hx v)
  | shape r k ih => exact fun v => ih v (hx v)
  | frozen a k ih => exact fun v => ih v (hx v)
  | getObj r k ih => exact fun v => ih v (hx v)
  | program k ih => exact ih P hx
  | mark m k ih => exact ih hx
  | new o k ih => exact fun v => ih v (hx v)
  | choose q k ih => exact fun v => ih v (hx v)
  | store m a v k _ => exact hx.elim
  | freeze a n k _ => exact hx.elim
  | setObj r o k _ => exact hx.elim
  | sys c k _ => exact hx.elim

theorem Mono.bind {α β : Type} {x : Sem α} {f : α → Sem β} (hx : Mono P x) (hf : ∀ a, Mono P (f a)) : Mono P (x >>= f) := hx.bind' hf

theorem Mono.pure {α : Type} (a : α) : Mono P (Pure.pure a : Sem α) := trivial

/-- A world that has grown; if it has not, it is the same. -/
def Grow (w w' : World) : Prop := w.heap.size ≤ w'.heap.size ∧ w.drawn ≤ w'.drawn ∧ (w'.heap.size = w.heap.size → w'.drawn = w.drawn → w' = w)

theorem Grow.refl (w : World) : Grow w w := ⟨Nat.le_refl _, Nat.le_refl _, fun _ _ => rfl⟩
theorem Grow.trans {a b c : World} (h : Grow a b) (k : Grow b c) : Grow a c :=
  ⟨Nat.le_trans h.1 k.1, Nat.le_trans h.2.1 k.2.1, fun e d => by
    have hs1 : b.heap.size = a.heap.size := by have := h.1; have := k.1; omega
    have hd1 : b.drawn = a.drawn := by have := h.2.1; have := k.2.1; omega
    rw [k.2.2 (by omega) (by omega), h.2.2 hs1 hd1]⟩
theorem Grow.back {a b : World} (h : Grow a b) (k : Grow b a) : b = a := h.2.2 (Nat.le_antisymm k.1 h.1) (Nat.le_antisymm k.2.1 h.2.1)

theorem Mono.grow {α : Type} {x : Sem α} (hx : Mono P x) : ∀ {w w' : World} {a : α}, x.run P w = .ok a w' → Grow w w' := by
  induction x with
  | pure a => intro w w' a h; simp only [Sem.run] at h; cases h; exact Grow.refl _
  | halt h => intro w w' a h; simp only [Sem.run] at h; cases h
  | load m a k ih =>
    intro w w' b h
    simp only [Sem.run] at h
    split at h
    · exact ih _ (hx _) h
    · split at h
      · exact ih _ (hx _) h
      · cases h
  | shape r k ih => intro w w' b h; exact ih _ (hx _) h
  | frozen r k ih => intro w w' b h; exact ih _ (hx _) h
  | getObj r k ih =>
    intro w w' b h
    simp only [Sem.run] at h
    split at h
    · cases h
    · exact ih _ (hx _) h
    · cases h
  | program k ih => intro w w' b h; exact ih P hx h
  | mark m k ih => intro w w' b h; exact ih hx h
  | new o k ih =>
    intro w w' b h
    simp only [Sem.run] at h
    have := ih _ (hx _) h
    exact Grow.trans (b := { w with heap := w.heap.push o }) ⟨by simp, Nat.le_refl _, fun e => by simp at e⟩ this
  | choose q k ih =>
    intro w w' b h
    simp only [Sem.run] at h
    split at h
    · exact ih _ (hx _) h
    · have := ih _ (hx _) h
      exact Grow.trans (b := { w with drawn := w.drawn + 1 }) ⟨Nat.le_refl _, by simp, fun _ e => by simp at e⟩ this
  | store m a v k _ => exact hx.elim
  | freeze a n k _ => exact hx.elim
  | setObj r o k _ => exact hx.elim
  | sys c k _ => exact hx.elim

/-- An operation that yields a value, and changes nothing that is there. -/
def Quiet (P : Program) (o : Oper) : Prop := ∀ ρ, ∃ s : Sem Value, Mono P s ∧ execOp ρ o = s >>= fun v => Pure.pure (.value v)

theorem Quiet.run {o : Oper} (h : Quiet P o) (ρ : Operand → Value) {w w' : World} {n : Next} (hr : (execOp ρ o).run P w = .ok n w') : (∃ v, n = .value v) ∧ Grow w w' := by
  obtain ⟨s, hm, he⟩ := h ρ
  rw [he] at hr
  refine ⟨?_, (hm.bind fun v => trivial : Mono P (s >>= fun v => Pure.pure (Next.value v))).grow hr⟩
  have key : ∀ (s : Sem Value) (w w' : World) (n : Next), (s.bind fun v => Sem.pure (Next.value v)).run P w = .ok n w' → ∃ v, n = .value v := by
    intro s
    induction s with
    | pure a => intro w w' n h; simp only [Sem.bind, Sem.run] at h; cases h; exact ⟨_, rfl⟩
    | halt h => intro w w' n h; simp only [Sem.bind, Sem.run] at h; cases h
    | load m a k ih =>
      intro w w' n h
      simp only [Sem.bind, Sem.run] at h
      split at h
      · exact ih _ _ _ _ h
      · split at h
        · exact ih _ _ _ _ h
        · cases h
    | shape r k ih => intro w w' b h; exact ih _ _ _ _ h
    | frozen r k ih => intro w w' b h; exact ih _ _ _ _ h
    | getObj r k ih =>
      intro w w' b h
      simp only [Sem.bind, Sem.run] at h
      split at h
      · cases h
      · exact ih _ _ _ _ h
      · cases h
    | program k ih => intro w w' b h; exact ih P _ _ _ h
    | mark m k ih => intro w w' b h; exact ih _ _ _ h
    | new o k ih => intro w w' b h; simp only [Sem.bind, Sem.run] at h; exact ih _ _ _ _ h
    | choose q k ih =>
      intro w w' b h
      simp only [Sem.bind, Sem.run] at h
      split at h
      · exact ih _ _ _ _ h
      · exact ih _ _ _ _ h
    | store m a v k ih =>
      intro w w' n h
      cases v <;> simp only [Sem.bind, Sem.run] at h <;> first
        | (cases h; done)
        | (split at h
           · split at h
             · cases h
             · exact ih _ _ _ h
           · split at h
             · exact ih _ _ _ h
             · cases h)
    | freeze a n k ih => intro w w' b h; exact ih _ _ _ h
    | setObj r o k ih =>
      intro w w' n h
      simp only [Sem.bind, Sem.run] at h
      split at h
      · cases h
      · exact ih _ _ _ h
      · cases h
    | sys c k ih => intro w w' b h; simp only [Sem.bind, Sem.run] at h; exact ih _ _ _ _ h
  exact key s w w' n hr

/-- The old blocks stand. -/
def Ext (w w' : World) : Prop := Below w.heap.size w w'

theorem Ext.refl (w : World) : Ext w w := Below.refl _ _
theorem Ext.trans {a b c : World} (h : Ext a b) (k : Ext b c) : Ext a c := Below.trans h (Below.mono k (Below.size h))
theorem Ext.drew (w : World) : Ext w w.drew := (Below.refl _ _).drew
theorem Ext.of_drew {w w' : World} (h : Ext w.drew w') : Ext w w' := (Ext.drew w).trans h

/-- Where a walk of looking operations ends. -/
def QEnd (aE : Act) (W : World) : Exit → Act → World → Prop
  | .normal, a, w => a = aE ∧ w = W
  | _, _, _ => False

/-- No way out but the normal one. -/
def NP (Q : Exit → Act → World → Prop) : Exit → Act → World → Prop
  | .normal, a, w => Q .normal a w
  | _, _, _ => False

/-- Where one call ends. -/
def FEnd (bar : Bool) (w : World) (K : Act → World → Prop) : Exit → Act → World → Prop
  | .normal, a', w' => (bar = false → Ext w w') ∧ K a' w'
  | _, _, _ => False

def pick {α : Type} : List Bool → List α → List α
  | true :: m, x :: l => x :: pick m l
  | false :: m, _ :: l => pick m l
  | _, _ => []

def left {α : Type} : List Bool → List α → List α
  | true :: m, _ :: l => left m l
  | false :: m, x :: l => x :: left m l
  | _, l => l

/-- THE WALK: by segments: those that look (the mask says which of those that are left), then the first one that is left then, a call or a store. -/
def Segs (P : Program) (ops : Array Oper) (Q : Exit → Act → World → Prop) : List (List Bool × Bool) → List Oper → Act → World → Prop
  | [], _, a, w => Q .normal a w
  | (m, bar) :: ms, l, a, w => ∃ aE, (∀ W, Ext w W → wpList P ops (QEnd aE W) (pick m l) a W) ∧
      match left m l with
      | [] => Q .normal aE w
      | o :: l' => wpList P ops (FEnd bar w (Segs P ops Q ms l')) [o] aE w

variable {ops : Array Oper}

theorem letsOut_QEnd {aE : Act} {W : World} : ¬ LetsOut (QEnd aE W) := fun ⟨_, _, h⟩ => h
theorem letsOut_FEnd {bar : Bool} {w : World} {K : Act → World → Prop} : ¬ LetsOut (FEnd bar w K) := fun ⟨_, _, h⟩ => h

/-- What a looking operation does on a walk that goes on. -/
theorem quiet_step {o : Oper} (hq : Quiet P o) {a : Act} {w : World} {K : Act → World → Prop} {Q : Exit → Act → World → Prop} (hQ : ∀ e a w, e ≠ .normal → ¬ Q e a w) (h : o.wp P a w K Q) :
    ∃ u w1, (execOp a.eval o).run P w = .ok (.value u) w1 ∧ Grow w w1 ∧ K (a.put o.dst u) w1 := by
  unfold Oper.wp at h
  generalize hr : (execOp a.eval o).run P w = r at h
  cases r with
  | ok n w' =>
    obtain ⟨⟨v, rfl⟩, hg⟩ := hq.run a.eval hr
    exact ⟨v, w', rfl, hg, h⟩
  | halt x w' =>
    cases x <;> simp only [Oper.upon] at h
    exact absurd h (hQ _ _ _ (by simp))

theorem Act.put_getD_ne {a : Act} {d : Tmp} {dst : Option Tmp} {v : Value} (h : dst ≠ some d) : (a.put dst v).tmps.getD d undef = a.tmps.getD d undef := by
  cases dst with
  | none => rfl
  | some e =>
    have hne : e ≠ d := fun x => h (by rw [x])
    simp [Act.put, Array.getElem?_setIfInBounds_ne hne]

theorem Act.put_getD {a : Act} {d : Tmp} {v : Value} (h : d < a.tmps.size) : (a.put (some d) v).tmps.getD d undef = v := by
  simp [Act.put, h]

theorem Act.put_size {a : Act} {dst : Option Tmp} {v : Value} : (a.put dst v).tmps.size = a.tmps.size := by
  cases dst <;> simp [Act.put]

theorem QEnd.only {aE : Act} {W : World} : ∀ e a w, e ≠ Exit.normal → ¬ QEnd aE W e a w := fun e a w he h => by
  cases e <;> first | exact he rfl | exact h

/-- A walk of looking operations grows, and leaves a slot that none of them writes. -/
theorem quiet_list {aE : Act} {W : World} {d : Tmp} : ∀ (l : List Oper) (a : Act) (w : World), (∀ o ∈ l, Quiet P o) → (∀ o ∈ l, o.dst ≠ some d) → wpList P ops (QEnd aE W) l a w →
    Grow w W ∧ aE.tmps.getD d undef = a.tmps.getD d undef
  | [], a, w, _, _, h => by obtain ⟨rfl, rfl⟩ := h; exact ⟨Grow.refl _, rfl⟩
  | o :: l, a, w, hq, hd, h => by
    have hq' : ∀ o ∈ l, Quiet P o := fun x hx => hq x (List.mem_cons_of_mem _ hx)
    have hd' : ∀ o ∈ l, o.dst ≠ some d := fun x hx => hd x (List.mem_cons_of_mem _ hx)
    unfold wpList at h
    split at h
    · rcases h with h | ⟨_, h⟩
      · obtain ⟨u, w1, _, hg, hk⟩ := quiet_step (hq o (by simp)) QEnd.only h
        obtain ⟨g, e⟩ := quiet_list l _ _ hq' hd' hk
        exact ⟨hg.trans g, by rw [e, Act.put_getD_ne (hd o (by simp))]⟩
      · exact (letsOut_QEnd h).elim
    · obtain ⟨g, e⟩ := quiet_list l _ _ hq' hd' h
      exact ⟨g, by rw [e, Act.put_getD_ne (hd o (by simp))]⟩

/-- The first of a walk of looking operations yields one value, in whatever world of the class. -/
theorem quiet_head {C : World → Prop} {aE : Act} {o : Oper} {l : List Oper} {a : Act} {d : Tmp} (hq : ∀ x ∈ o :: l, Quiet P x) (hdst : o.dst = some d) (hsz : d < a.tmps.size)
    (hd : ∀ x ∈ l, x.dst ≠ some d) (h : ∀ W, C W → wpList P ops (QEnd aE W) (o :: l) a W) :
    ∃ v, YieldsIf P ops C o v a ∧ ∀ W, C W → wpList P ops (QEnd aE W) l (a.put o.dst v) W := by
  have hq' : ∀ x ∈ l, Quiet P x := fun x hx => hq x (List.mem_cons_of_mem _ hx)
  by_cases hw : Region.wanted o (yielded ops a.tmps) = true
  · have key : ∀ W, C W → (execOp a.eval o).run P W = .ok (.value (aE.tmps.getD d undef)) W ∧ wpList P ops (QEnd aE W) l (a.put o.dst (aE.tmps.getD d undef)) W := by
      intro W hW
      have h1 := h W hW
      simp only [wpList, hw, if_true] at h1
      rcases h1 with h1 | ⟨_, h1⟩
      · obtain ⟨u, w1, hr, hg, hk⟩ := quiet_step (hq o (by simp)) QEnd.only h1
        obtain ⟨g, e⟩ := quiet_list (d := d) l _ _ hq' hd hk
        have hw1 : w1 = W := hg.back g
        have hu : aE.tmps.getD d undef = u := by rw [e, hdst, Act.put_getD hsz]
        rw [hw1] at hr hk
        rw [hu]
        exact ⟨hr, hk⟩
      · exact (letsOut_QEnd h1).elim
    exact ⟨_, .inl ⟨hw, fun W hW => (key W hW).1⟩, fun W hW => (key W hW).2⟩
  · have hw' : Region.wanted o (yielded ops a.tmps) = false := by simpa using hw
    refine ⟨undef, .inr ⟨hw', rfl⟩, fun W hW => ?_⟩
    have h1 := h W hW
    simp only [wpList, hw', Bool.false_eq_true, if_false] at h1
    exact h1

/-- Whatever order is picked; each of the first n operations leaves the old blocks. -/
def wpAnyT (P : Program) (md : Region.Mode) (ops : Array Oper) (Q : Exit → Act → World → Prop) (n : Nat) (C : World → Prop) : Nat → Array Bool → Act → World → Prop
  | 0, listed, a, w => Region.ready md ops listed = [] ∧ Q .normal a w
  | fuel + 1, listed, a, w =>
    (Region.ready md ops listed = [] → Q .normal a w) ∧
    ∀ i ∈ Region.ready md ops listed, wpOp P ops Q i (fun a' w' => (i < n → C w') ∧ wpAnyT P md ops Q n C fuel (listed.setIfInBounds i true) a' w') a w

variable {Q : Exit → Act → World → Prop} {md : Region.Mode} {n : Nat}

theorem wpAny_of_T {C : World → Prop} : ∀ (fuel : Nat) (listed : Array Bool) (a : Act) (w : World), wpAnyT P md ops Q n C fuel listed a w → wpAny P md ops Q fuel listed a w
  | 0, _, _, _, h => h
  | fuel + 1, _, _, _, h => ⟨h.1, fun i hi => wpOp_mono (fun a' w' h' => wpAny_of_T fuel _ a' w' h'.2) (h.2 i hi)⟩

theorem wpAnyT_mono {C C' : World → Prop} (hC : ∀ w, C w → C' w) : ∀ (fuel : Nat) (listed : Array Bool) (a : Act) (w : World), wpAnyT P md ops Q n C fuel listed a w → wpAnyT P md ops Q n C' fuel listed a w
  | 0, _, _, _, h => h
  | fuel + 1, _, _, _, h => ⟨h.1, fun i hi => wpOp_mono (fun a' w' h' => ⟨fun hn => hC _ (h'.1 hn), wpAnyT_mono hC fuel _ a' w' h'.2⟩) (h.2 i hi)⟩

/-- Once the first n are over the class matters no more. -/
theorem wpAnyT_late {C C' : World → Prop} : ∀ (fuel : Nat) (listed : Array Bool) (a : Act) (w : World), (∀ j, j < n → listed.getD j true = true) → wpAnyT P md ops Q n C fuel listed a w → wpAnyT P md ops Q n C' fuel listed a w
  | 0, _, _, _, _, h => h
  | fuel + 1, listed, _, _, hl, h => by
    refine ⟨h.1, fun i hi => wpOp_mono (fun a' w' h' => ⟨fun hn => ?_, wpAnyT_late fuel _ a' w' (fun j hj => ?_) h'.2⟩) (h.2 i hi)⟩
    · have h1 := (mem_ready.1 hi).1
      rw [hl i hn] at h1
      cases h1
    · by_cases hij : i = j
      · subst hij
        rcases Nat.lt_or_ge i listed.size with h2 | h2 <;> simp [h2]
      · rw [getD_set_ne true hij]; exact hl j hj

/-- Operation j waits for operation i, through at most so many others. -/
def anc (md : Region.Mode) (ops : Array Oper) : Nat → Nat → Nat → Bool
  | 0, _, _ => false
  | f + 1, j, i => match ops[j]? with
    | some o => o.after.any fun e => Region.binds md e && (e.on == i || anc md ops f e.on i)
    | none => false

/-- What has come up has come up behind what it waits for. -/
def Closed (md : Region.Mode) (ops : Array Oper) (listed : Array Bool) : Prop :=
  ∀ j o, ops[j]? = some o → listed.getD j false = true → ∀ e ∈ o.after, Region.binds md e = true → listed.getD e.on false = true

theorem anc_listed {listed : Array Bool} (hc : Closed md ops listed) : ∀ (f j i : Nat) (o : Oper), ops[j]? = some o → (∀ e ∈ o.after, Region.binds md e = true → listed.getD e.on false = true) → anc md ops f j i = true → listed.getD i false = true
  | 0, _, _, _, _, _, h => by cases h
  | f + 1, j, i, o, ho, hall, h => by
    simp only [anc, ho] at h
    obtain ⟨e, he, hb⟩ := Array.any_eq_true'.1 h
    simp only [Bool.and_eq_true, Bool.or_eq_true, beq_iff_eq] at hb
    obtain ⟨hb1, hb2⟩ := hb
    have hl := hall e he hb1
    rcases hb2 with rfl | hb2
    · exact hl
    · cases ho' : ops[e.on]? with
      | none => cases f <;> simp [anc, ho'] at hb2
      | some o' => exact anc_listed hc f e.on i o' ho' (hc e.on o' ho' hl) hb2

theorem Closed.set {listed : Array Bool} (hc : Closed md ops listed) {i : Nat} (hi : i ∈ Region.ready md ops listed) : Closed md ops (listed.setIfInBounds i true) := by
  intro j o ho hl e he hb
  by_cases hji : j = i
  · subst hji
    obtain ⟨_, o', ho', hall⟩ := mem_ready.1 hi
    rw [ho] at ho'
    cases ho'
    exact getD_set_true (hall e he hb)
  · rw [getD_set_ne false (Ne.symm hji)] at hl
    exact getD_set_true (hc j o ho hl e he hb)

/-- A looking operation of the first n that may come up now may be taken first. -/
theorem wpAnyT_first {C : World → Prop} {i : Nat} {oi : Oper} {v : Value} (hi : ops[i]? = some oi) (hsel : ∀ (j : Nat) (o : Oper) cs b, ops[j]? = some o → o.op ≠ .select cs b)
    (hQ : ∀ c a w, Q (.panic c) (a.put oi.dst v) w → Q (.panic c) a w)
    (htail : ∀ (j : Nat) (o : Oper), ops[j]? = some o → n ≤ j → anc md ops 4 j i = true) :
    ∀ (fuel : Nat) (listed : Array Bool) (a : Act) (w : World), Closed md ops listed →
      (∀ j oj, ops[j]? = some oj → j ≠ i → listed.getD j true = false → (∀ e ∈ oj.after, Region.binds md e = true → e.on ≠ i) → oi.apart ops oj = true) →
      i ∈ Region.ready md ops listed → YieldsIf P ops C oi v a → C w →
      wpAnyT P md ops Q n C fuel (listed.setIfInBounds i true) (a.put oi.dst v) w → wpAnyT P md ops Q n C (fuel + 1) listed a w := by
  intro fuel
  induction fuel with
  | zero =>
    intro listed a w _ _ hr hy hC H
    refine ⟨fun h => (by rw [h] at hr; cases hr), fun j hj => ?_⟩
    by_cases hji : j = i
    · subst hji; exact hy.wpOp hi hC ⟨fun _ => hC, H⟩
    · have := ready_mono hj hji
      rw [H.1] at this
      cases this
  | succ fuel ih =>
    intro listed a w hcl hfree hr hy hC H
    refine ⟨fun h => (by rw [h] at hr; cases hr), fun j hj => ?_⟩
    by_cases hji : j = i
    · subst hji; exact hy.wpOp hi hC ⟨fun _ => hC, H⟩
    · have h1 := H.2 j (ready_mono hj hji)
      obtain ⟨hjun, oj, hoj, hall⟩ := mem_ready.1 hj
      have hun : listed.getD i false ≠ true := fun h1 => by
        have h0 := (mem_ready.1 hr).1
        rcases Nat.lt_or_ge i listed.size with h' | h'
        · simp [h'] at h0 h1; rw [h0] at h1; cases h1
        · simp [Array.getElem?_eq_none h'] at h1
      have hjn : j < n := by
        rcases Nat.lt_or_ge j n with h | h
        · exact h
        · exact absurd (anc_listed hcl 4 j i oj hoj hall (htail j oj hoj h)) hun
      have hnot : ∀ e ∈ oj.after, Region.binds md e = true → e.on ≠ i := fun e he hb heq => hun (heq ▸ hall e he hb)
      have h2 := wpOp_putIf hoj (hfree j oj hoj hji hjun hnot) (fun cs b => hsel i oi cs b hi) (fun cs b => hsel j oj cs b hoj) hQ hy h1
      have hfree' : ∀ k ok, ops[k]? = some ok → k ≠ i → (listed.setIfInBounds j true).getD k true = false →
          (∀ e ∈ ok.after, Region.binds md e = true → e.on ≠ i) → oi.apart ops ok = true := fun k ok hk hki hun hno => by
        refine hfree k ok hk hki ?_ hno
        by_cases hjk : j = k
        · subst hjk; exact hjun
        · rw [getD_set_ne true hjk] at hun; exact hun
      refine wpOp_mono (fun a' w' h3 => ⟨h3.2.1, ih (listed.setIfInBounds j true) a' w' (hcl.set hj) hfree' (ready_mono hr (Ne.symm hji)) h3.1 (h3.2.1 hjn) ?_⟩) h2
      rw [Array.setIfInBounds_comm _ _ hji]
      exact h3.2.2

theorem upon_mono2 {o : Oper} {a : Act} {K K' : Act → World → Prop} {Q Q' : Exit → Act → World → Prop} (hK : ∀ a' w', a'.tmps.size = a.tmps.size → K a' w' → K' a' w') (hQ : ∀ e a w, e ≠ .normal → Q e a w → Q' e a w) {r : Result Next}
    (h : o.upon P a K Q r) : o.upon P a K' Q' r := by
  have hl : LetsOut Q → LetsOut Q' := fun ⟨a, w, h⟩ => ⟨a, w, hQ _ _ _ (by simp) h⟩
  cases r with
  | ok n w' =>
    cases n <;> simp only [Oper.upon] at h ⊢
    case value v => exact hK _ _ Act.put_size h
    case skip => exact hK _ _ Act.put_size h
    case defer d => exact hK _ _ Act.put_size h
    case enter f args =>
      refine Calls.mono h fun e w'' he => ?_
      cases e with
      | returned v => exact hK _ _ Act.put_size he
      | panicked c => exact hQ _ _ _ (by simp) he
      | outgrown => exact hl he
    case row row args => exact Rows.mono h fun v w'' he => hK _ _ Act.put_size he
  | halt x w' =>
    cases x <;> simp only [Oper.upon] at h ⊢
    case panic v => exact hQ _ _ _ (by simp) h

/-- One operation walked alone is that operation, whenever it comes up. -/
theorem wpOp_of_one {i : Nat} {o : Oper} (hi : ops[i]? = some o) {bar : Bool} {w : World} {K K' : Act → World → Prop} {a : Act} (hK : ∀ a' w', a'.tmps.size = a.tmps.size → (bar = false → Ext w w') → K a' w' → K' a' w')
    (h : wpList P ops (FEnd bar w K) [o] a w) : wpOp P ops Q i K' a w := by
  unfold wpOp
  simp only [hi]
  unfold wpList at h
  split
  · rename_i hw
    simp only [hw, if_true] at h
    rcases h with h | ⟨_, h⟩
    · exact .inl (upon_mono2 (fun a' w' hs hk => hK a' w' hs hk.1 hk.2) (fun e a w he hq => by cases e <;> first | exact absurd rfl he | exact hq.elim) h)
    · exact (letsOut_FEnd h).elim
  · rename_i hw
    simp only [hw] at h
    exact hK _ _ Act.put_size h.1 h.2

/-! ### The plan -/

/-- Those that look, taken one by one. -/
def okQuiet (P : Program) (kind : Program → Oper → Bool) (md : Region.Mode) (ops : Array Oper) (n : Nat) : List Nat → Array Bool → Bool
  | [], _ => true
  | i :: q, listed =>
    (Region.ready md ops listed).contains i && Region.free md ops listed i && decide (i < n) &&
    (match ops[i]? with
     | some o => kind P o && (match o.dst with | some d => q.all (fun j => match ops[j]? with | some x => x.dst != some d | none => false) | none => false)
     | none => false) && okQuiet P kind md ops n q (listed.setIfInBounds i true)

def mark (listed : Array Bool) (q : List Nat) : Array Bool := q.foldl (fun l i => l.setIfInBounds i true) listed

def okPlan (P : Program) (kind : Program → Oper → Bool) (md : Region.Mode) (ops : Array Oper) (n : Nat) : List (List Bool × Bool) → List Nat → Array Bool → Bool
  | [], l, listed => l.isEmpty && (Region.ready md ops listed).isEmpty
  | (m, bar) :: ms, l, listed =>
    okQuiet P kind md ops n (pick m l) listed &&
    match left m l with
    | [] => ms.isEmpty && (Region.ready md ops (mark listed (pick m l))).isEmpty
    | f :: l' => Region.ready md ops (mark listed (pick m l)) == [f] && (if bar then (List.range n).all (fun j => (mark listed (pick m l)).getD j true) && decide (n ≤ f) else decide (f < n)) && okPlan P kind md ops n ms l' ((mark listed (pick m l)).setIfInBounds f true)

/-- Each of the operations behind the first n waits for each of these. -/
def okTail (md : Region.Mode) (ops : Array Oper) (n : Nat) : Bool :=
  (List.range ops.size).all fun j => decide (j < n) || match ops[j]? with
    | some _ => (List.range n).all fun i => anc md ops 4 j i
    | none => true

theorem okTail_spec (h : okTail md ops n = true) {i : Nat} (hi : i < n) (j : Nat) (o : Oper) (ho : ops[j]? = some o) (hj : n ≤ j) : anc md ops 4 j i = true := by
  simp only [okTail, List.all_eq_true, List.mem_range, Bool.or_eq_true, decide_eq_true_eq] at h
  have h1 := (h j (Array.getElem?_eq_some_iff.1 ho).1).resolve_left (by omega)
  simp only [ho, List.all_eq_true, List.mem_range] at h1
  exact h1 i hi

def dstsOk (ops : Array Oper) (size : Nat) : Bool := ops.all fun o => match o.dst with | some d => decide (d < size) | none => true

theorem dstsOk_spec {size : Nat} (h : dstsOk ops size = true) {i : Nat} {o : Oper} (ho : ops[i]? = some o) {d : Tmp} (hd : o.dst = some d) : d < size := by
  have := Array.all_eq_true_iff_forall_mem.1 h o (Array.mem_of_getElem? ho)
  simpa [hd] using this

theorem pick_map {α β : Type} (f : α → β) : ∀ (m : List Bool) (l : List α), pick m (l.map f) = (pick m l).map f
  | [], l => by cases l <;> rfl
  | true :: m, [] => rfl
  | false :: m, [] => rfl
  | true :: m, x :: l => by simp [pick, pick_map f m l]
  | false :: m, x :: l => by simp [pick, pick_map f m l]

theorem left_map {α β : Type} (f : α → β) : ∀ (m : List Bool) (l : List α), left m (l.map f) = (left m l).map f
  | [], l => by cases l <;> rfl
  | true :: m, [] => rfl
  | false :: m, [] => rfl
  | true :: m, x :: l => by simp [left, left_map f m l]
  | false :: m, x :: l => by simp [left, left_map f m l]

theorem pick_left_length {α : Type} : ∀ (m : List Bool) (l : List α), (pick m l).length + (left m l).length = l.length
  | [], l => by cases l <;> simp [pick, left]
  | true :: m, [] => rfl
  | false :: m, [] => rfl
  | true :: m, x :: l => by have := pick_left_length m l; simp only [pick, left, List.length_cons]; omega
  | false :: m, x :: l => by have := pick_left_length m l; simp only [pick, left, List.length_cons]; omega

theorem pick_mem {α : Type} : ∀ (m : List Bool) (l : List α) (x : α), x ∈ pick m l → x ∈ l
  | [], l, x, h => by cases l <;> simp [pick] at h
  | true :: m, [], x, h => by simp [pick] at h
  | false :: m, [], x, h => by simp [pick] at h
  | true :: m, y :: l, x, h => by
    rcases List.mem_cons.1 h with rfl | h
    · simp
    · exact List.mem_cons_of_mem _ (pick_mem m l x h)
  | false :: m, y :: l, x, h => List.mem_cons_of_mem _ (pick_mem m l x h)

theorem left_mem {α : Type} : ∀ (m : List Bool) (l : List α) (x : α), x ∈ left m l → x ∈ l
  | [], l, x, h => by cases l <;> exact h
  | true :: m, [], x, h => by simp [left] at h
  | false :: m, [], x, h => by simp [left] at h
  | true :: m, y :: l, x, h => List.mem_cons_of_mem _ (left_mem m l x h)
  | false :: m, y :: l, x, h => by
    rcases List.mem_cons.1 h with rfl | h
    · simp
    · exact List.mem_cons_of_mem _ (left_mem m l x h)

variable {kind : Program → Oper → Bool}

theorem wpAnyT_quiets (hkind : ∀ o, kind P o = true → Quiet P o) (hs : Region.noSelect ops = true) (hQ : ∀ c a a' w, Q (.panic c) a w → Q (.panic c) a' w) (htail : okTail md ops n = true) {C : World → Prop} {aE : Act} {w : World} (hC : C w) (get : Nat → Oper) :
    ∀ (q : List Nat) (listed : Array Bool) (a : Act) (fuel : Nat), Closed md ops listed → (∀ i ∈ q, ops[i]? = some (get i)) → okQuiet P kind md ops n q listed = true → dstsOk ops a.tmps.size = true →
      (∀ W, C W → wpList P ops (QEnd aE W) (q.map get) a W) → (aE.tmps.size = a.tmps.size → Closed md ops (mark listed q) → wpAnyT P md ops Q n C fuel (mark listed q) aE w) → wpAnyT P md ops Q n C (fuel + q.length) listed a w
  | [], listed, a, fuel, hcl, _, _, _, hw, hk => by
    obtain ⟨h1, _⟩ := hw w hC
    subst h1
    exact hk rfl hcl
  | i :: q, listed, a, fuel, hcl, hget, hok, hd, hw, hk => by
    have hi := hget i (by simp)
    simp only [okQuiet, hi, Bool.and_eq_true, decide_eq_true_eq] at hok
    obtain ⟨⟨⟨⟨h1, h2⟩, h3⟩, h4, h5⟩, h6⟩ := hok
    cases hdst : (get i).dst with
    | none => rw [hdst] at h5; cases h5
    | some d =>
      rw [hdst] at h5
      have h5' : q.all (fun j => match ops[j]? with | some x => x.dst != some d | none => false) = true := h5
      rw [List.all_eq_true] at h5'
      have hquiet : ∀ (q : List Nat) (listed : Array Bool), (∀ i ∈ q, ops[i]? = some (get i)) → okQuiet P kind md ops n q listed = true → ∀ x ∈ q.map get, Quiet P x := by
        intro q
        induction q with
        | nil => intro _ _ _ x hx; cases hx
        | cons j q ih =>
          intro listed hg hok x hx
          simp only [okQuiet, hg j (by simp), Bool.and_eq_true] at hok
          rcases List.mem_cons.1 hx with rfl | hx
          · exact hkind _ hok.1.2.1
          · exact ih _ (fun k hk => hg k (by simp [hk])) hok.2 x hx
      have hgq : ∀ j ∈ q, ops[j]? = some (get j) := fun j hj => hget j (by simp [hj])
      obtain ⟨v, hy, hrest⟩ := quiet_head (C := C) (aE := aE) (l := q.map get) (a := a) (fun x hx => by
        rcases List.mem_cons.1 hx with rfl | hx
        · exact hkind _ h4
        · exact hquiet q _ hgq h6 x hx) hdst (dstsOk_spec hd hi hdst) (fun x hx => by
        obtain ⟨j, hj, rfl⟩ := List.mem_map.1 hx
        have := h5' j hj
        rw [hgq j hj] at this
        simpa using this) hw
      rw [List.length_cons, ← Nat.add_assoc]
      refine wpAnyT_first hi (Region.noSelect_spec hs) (fun c a w h => hQ _ _ _ _ h) (fun j o ho hj => okTail_spec htail h3 j o ho hj) _ listed a w hcl (Region.free_spec hi h2) (by simpa using h1) hy hC ?_
      exact wpAnyT_quiets hkind hs hQ htail hC get q _ _ fuel (hcl.set (by simpa using h1)) hgq h6 (by rw [Act.put_size]; exact hd) hrest (fun he => hk (by rw [he, Act.put_size]))

theorem wpAnyT_of_segs (hkind : ∀ o, kind P o = true → Quiet P o) (hs : Region.noSelect ops = true) (hQ : ∀ e a a' w, e ≠ .normal → Q e a w → Q e a' w) (htail : okTail md ops n = true) (get : Nat → Oper) :
    ∀ (plan : List (List Bool × Bool)) (l : List Nat) (listed : Array Bool) (a : Act) (w : World), Closed md ops listed → (∀ i ∈ l, ops[i]? = some (get i)) → okPlan P kind md ops n plan l listed = true → dstsOk ops a.tmps.size = true →
      Segs P ops Q plan (l.map get) a w → wpAnyT P md ops Q n (Ext w) l.length listed a w
  | [], l, listed, a, w, _, _, hok, _, h => by
    simp only [okPlan, Bool.and_eq_true, List.isEmpty_iff] at hok
    obtain ⟨rfl, hr⟩ := hok
    exact ⟨hr, h⟩
  | (m, bar) :: ms, l, listed, a, w, hcl, hget, hok, hd, h => by
    simp only [okPlan, Bool.and_eq_true] at hok
    obtain ⟨hq, hrest⟩ := hok
    obtain ⟨aE, hw, hk⟩ := h
    rw [pick_map] at hw
    rw [← pick_left_length m l, Nat.add_comm]
    refine wpAnyT_quiets hkind hs (fun c a a' w h => hQ _ _ _ _ (by simp) h) htail (C := Ext w) (aE := aE) (Ext.refl w) get _ _ _ _ hcl (fun i hi => hget i (pick_mem _ _ _ hi)) hq hd hw fun hsz hcl2 => ?_
    rw [left_map] at hk
    cases hl : left m l with
    | nil =>
      rw [hl] at hk hrest
      simp only [Bool.and_eq_true, List.isEmpty_iff] at hrest
      exact ⟨hrest.2, hk⟩
    | cons f l' =>
      rw [hl] at hk hrest
      simp only [Bool.and_eq_true, beq_iff_eq] at hrest
      obtain ⟨⟨hr, hb⟩, hok'⟩ := hrest
      have hgl : ∀ i ∈ left m l, ops[i]? = some (get i) := fun i hi => hget i (left_mem _ _ _ hi)
      rw [hl] at hgl
      have hf := hgl f (by simp)
      refine ⟨fun h0 => (by rw [hr] at h0; cases h0), fun i hi => ?_⟩
      rw [hr] at hi
      obtain rfl : i = f := by simpa using hi
      refine wpOp_of_one (K := Segs P ops Q ms (l'.map get)) hf (fun a' w' hs' he hk' => ?_) hk
      have ih := wpAnyT_of_segs hkind hs hQ htail get ms l' _ a' w' (hcl2.set (by rw [hr]; simp)) (fun j hj => hgl j (by simp [hj])) hok' (by rw [hs', hsz]; exact hd) hk'
      cases bar with
      | false =>
        simp only [Bool.false_eq_true, if_false, decide_eq_true_eq] at hb
        exact ⟨fun _ => he rfl, wpAnyT_mono (fun W hW => (he rfl).trans hW) _ _ _ _ ih⟩
      | true =>
        simp only [if_true, Bool.and_eq_true, decide_eq_true_eq, List.all_eq_true, List.mem_range] at hb
        refine ⟨fun h => (by omega), wpAnyT_late _ _ _ _ (fun j hj => ?_) ih⟩
        have h1 := hb.1 j hj
        have hij : i ≠ j := by omega
        rw [getD_set_ne true hij]; exact h1


/-! ### Which operations look only -/

theorem mono_stuck {α : Type} (x : String) : Mono P (stuck x : Sem α) := trivial
theorem mono_unsupported {α : Type} (x : Unsupported) : Mono P (unsupported x : Sem α) := trivial
theorem mono_goPanic {α : Type} (x : Value) : Mono P (goPanic x : Sem α) := trivial
theorem mono_program : Mono P program := trivial
theorem mono_load (a : Addr) (m : Mode) : Mono P (load a m) := fun _ => trivial
theorem mono_shape (r : Nat) : Mono P (shape r) := fun _ => trivial
theorem mono_frozen (a : Addr) : Mono P (frozen a) := fun _ => trivial
theorem mono_getObj (r : Nat) : Mono P (getObj r) := fun _ => trivial
theorem mono_newObj (o : Obj) : Mono P (newObj o) := fun _ => trivial
theorem mono_choose (q : Question) : Mono P (choose q) := fun _ => trivial

theorem mono_typeInfo (t : TypeId) : Mono P (typeInfo t) := by
  unfold typeInfo
  refine mono_program.bind fun p => ?_
  split <;> trivial
theorem mono_underlying (t : TypeId) : Mono P (underlying t) := by
  unfold underlying
  refine mono_program.bind fun p => ?_
  split <;> trivial
theorem mono_sizeOf (t : TypeId) : Mono P (sizeOf t) := by unfold sizeOf; exact (mono_typeInfo t).bind fun _ => trivial
theorem mono_zeroValue (t : TypeId) : Mono P (zeroValue t) := by
  unfold zeroValue
  refine (mono_typeInfo t).bind fun i => ?_
  split <;> trivial
theorem mono_isAgg (t : TypeId) : Mono P (isAgg t) := by
  unfold isAgg
  refine (mono_underlying t).bind fun d => ?_
  split <;> trivial
theorem mono_loadCellsFrom (a : Addr) : ∀ (n i : Nat) (acc : Array Value), Mono P (loadCellsFrom a i n acc)
  | 0, _, _ => trivial
  | n + 1, i, acc => by
    unfold loadCellsFrom
    exact (mono_load _ _).bind fun v => mono_loadCellsFrom a n (i + 1) (acc.push v)
theorem mono_loadVar (t : TypeId) (a : Addr) : Mono P (loadVar t a) := by
  unfold loadVar
  refine (mono_isAgg t).bind fun b => ?_
  split
  · exact (mono_sizeOf t).bind fun n => (mono_loadCellsFrom _ _ _ _).bind fun _ => trivial
  · exact mono_load _ _
theorem mono_part (t : TypeId) (cs : Array Value) (off : Nat) : Mono P (part t cs off) := by
  unfold part
  refine (mono_isAgg t).bind fun b => ?_
  split
  · exact (mono_sizeOf t).bind fun _ => trivial
  · split <;> trivial
theorem mono_viewAt (r : Nat) : Mono P (viewAt r) := by
  unfold viewAt
  refine (mono_shape r).bind fun s => ?_
  split
  · trivial
  · refine (mono_getObj r).bind fun o => ?_
    split <;> trivial
theorem mono_noView (a : Addr) : Mono P (noView a) := by
  unfold noView
  refine (mono_viewAt _).bind fun s => ?_
  split <;> trivial
theorem mono_byteOf (a : Addr) : Mono P (byteOf a) := by
  unfold byteOf
  split
  · trivial
  · refine mono_program.bind fun p => (mono_noView a).bind fun _ => (mono_shape _).bind fun s => ?_
    repeat' (first | trivial | split | dsimp only)
theorem mono_partAt (a : Addr) (c b : Nat) : Mono P (partAt a c b) := by
  unfold partAt
  refine (mono_byteOf a).bind fun x => ?_
  exact (mono_byteOf _).bind fun _ => trivial
theorem mono_fieldPlace (a : Addr) (f : Field) : Mono P (fieldPlace a f) := by
  unfold fieldPlace
  refine (mono_sizeOf _).bind fun n => ?_
  split
  · exact mono_partAt _ _ _
  · trivial
theorem mono_sureAddr (v : Value) : Mono P (Instr.sureAddr v) := by unfold Instr.sureAddr; split <;> trivial
theorem mono_asIntOf (v : Value) : Mono P (asIntOf v) := by unfold asIntOf; split <;> trivial
theorem mono_asBool (v : Value) : Mono P (asBool v) := by unfold asBool; split <;> trivial
theorem mono_asAgg (v : Value) : Mono P (asAgg v) := by unfold asAgg; split <;> trivial
theorem mono_elemOf (t : TypeId) : Mono P (elemOf t) := by
  unfold elemOf
  refine (mono_underlying t).bind fun d => ?_
  split <;> trivial
theorem mono_newVar (t : TypeId) (v : Value) : Mono P (newVar t v) := by
  unfold newVar newRow
  exact (mono_newObj _).bind fun _ => trivial
theorem mono_runtimePanic {α : Type} (e : RuntimeError) : Mono P (runtimePanic e : Sem α) := by
  unfold runtimePanic
  refine mono_program.bind fun p => ?_
  dsimp only
  split <;> first
    | trivial
    | exact (mono_elemOf _).bind fun _ => (mono_newVar _ _).bind fun _ => trivial
theorem mono_asAddr (v : Value) : Mono P (asAddr v) := by
  unfold asAddr
  split
  · trivial
  · exact mono_runtimePanic _
  · trivial
theorem mono_boundsPanic {α : Type} (k : IntKind) (x y : Int) (c : BoundsCode) : Mono P (boundsPanic k x y c : Sem α) := by
  unfold boundsPanic
  dsimp only
  split
  · exact Mono.bind (Mono.bind' (mono_choose _) fun _ => trivial) fun _ => mono_runtimePanic _
  · exact Mono.bind trivial fun _ => mono_runtimePanic _
theorem mono_fieldAt (s : TypeId) (v : Value) (f : Nat) : Mono P (Instr.fieldAt s v f) := by
  unfold Instr.fieldAt
  refine (mono_underlying s).bind fun d => ?_
  split
  · split
    · exact (mono_sureAddr v).bind fun a => (mono_fieldPlace _ _).bind fun _ => trivial
    · trivial
  · trivial
theorem mono_field (t : TypeId) (v : Value) (f : Nat) : Mono P (Instr.field t v f) := by
  unfold Instr.field
  refine (mono_underlying t).bind fun d => ?_
  split
  · split
    · exact (mono_asAgg v).bind fun _ => mono_part _ _ _
    · trivial
  · trivial
theorem mono_indexAt (t : TypeId) (x i : Value) : Mono P (Instr.indexAt t x i) := by
  unfold Instr.indexAt
  refine (mono_asIntOf i).bind fun ki => ?_
  refine (mono_underlying t).bind fun d => ?_
  repeat' (first | trivial | exact mono_boundsPanic _ _ _ _ | exact mono_underlying _ | exact mono_sureAddr _ | exact mono_sizeOf _ | split | refine Mono.bind ?_ fun _ => ?_ | dsimp only)
theorem mono_index (t : TypeId) (x i : Value) : Mono P (Instr.index t x i) := by
  unfold Instr.index
  refine (mono_asIntOf i).bind fun ki => ?_
  refine (mono_underlying t).bind fun d => ?_
  repeat' (first | trivial | exact mono_boundsPanic _ _ _ _ | exact mono_part _ _ _ | exact mono_sizeOf _ | split | refine Mono.bind ?_ fun _ => ?_ | dsimp only)
theorem mono_extract (v : Value) (i : Nat) : Mono P (Instr.extract v i) := by
  unfold Instr.extract
  split
  · split <;> trivial
  · trivial
theorem mono_sliceBound (x : Value) (y : Nat) (c : BoundsCode) : Mono P (Instr.sliceBound x y c) := by
  unfold Instr.sliceBound
  refine (mono_asIntOf x).bind fun ki => ?_
  obtain ⟨k, i⟩ := ki
  dsimp only
  split
  · trivial
  · exact mono_boundsPanic _ _ _ _
theorem mono_sliceBounds (b : Bool) (l c : Nat) (lo hi mx : Option Value) : Mono P (Instr.sliceBounds b l c lo hi mx) := by
  unfold Instr.sliceBounds
  have k3 : ∀ m h, Mono P (do
      let l ← match lo with
        | some v => Instr.sliceBound v h (if mx.isSome then .slice3C else .sliceB)
        | none => Pure.pure 0
      Pure.pure (l, h, m) : Sem (Nat × Nat × Nat)) := by
    intro m h
    cases lo with
    | none => trivial
    | some v => exact (mono_sliceBound _ _ _).bind fun _ => trivial
  have k2 : ∀ m, Mono P (do
      let h ← match hi, mx with
        | some v, some _ => Instr.sliceBound v m .slice3B
        | some v, none => Instr.sliceBound v m (if b then .sliceAcap else .sliceAlen)
        | none, none => Pure.pure l
        | none, some _ => stuck "Slice: max without high"
      let l ← match lo with
        | some v => Instr.sliceBound v h (if mx.isSome then .slice3C else .sliceB)
        | none => Pure.pure 0
      Pure.pure (l, h, m) : Sem (Nat × Nat × Nat)) := by
    intro m
    cases hi <;> cases mx
    · exact Mono.bind trivial fun h => k3 m h
    · exact Mono.bind (mono_stuck _) fun h => k3 m h
    · exact (mono_sliceBound _ _ _).bind fun h => k3 m h
    · exact (mono_sliceBound _ _ _).bind fun h => k3 m h
  cases mx with
  | none => exact Mono.bind trivial fun m => k2 m
  | some v => exact (mono_sliceBound _ _ _).bind fun m => k2 m
theorem mono_sliceAt (t : TypeId) (x : Value) (lo hi mx : Option Value) : Mono P (Instr.sliceAt t x lo hi mx) := by
  unfold Instr.sliceAt
  refine (mono_underlying t).bind fun d => ?_
  split
  · refine (mono_sureAddr x).bind fun a => (mono_sliceBounds _ _ _ _ _ _).bind fun r => ?_
    exact (mono_sizeOf _).bind fun _ => trivial
  · unfold Instr.slice
    refine (mono_underlying t).bind fun d => ?_
    split
    · split
      · trivial
      · exact (mono_sliceBounds _ _ _ _ _ _).bind fun r => trivial
    · refine (mono_sliceBounds _ _ _ _ _ _).bind fun r => ?_
      exact (mono_sizeOf _).bind fun _ => trivial
    · refine (mono_asAddr _).bind fun a => (mono_underlying _).bind fun d => ?_
      split
      · refine (mono_sliceBounds _ _ _ _ _ _).bind fun r => ?_
        exact (mono_sizeOf _).bind fun _ => trivial
      · trivial
    · trivial
theorem mono_mapM {α β : Type} (f : α → Sem β) (hf : ∀ a, Mono P (f a)) : ∀ l : List α, Mono P (l.mapM f)
  | [] => by simp only [List.mapM_nil]; trivial
  | a :: l => by
    simp only [List.mapM_cons]
    exact (hf a).bind fun _ => (mono_mapM f hf l).bind fun _ => trivial
theorem mono_build (t : TypeId) (ps : Array (Nat × Value)) : Mono P (Instr.build t ps) := by
  unfold Instr.build
  refine (mono_zeroValue t).bind fun z => (mono_underlying t).bind fun d => ?_
  split
  · refine Mono.bind ?_ fun _ => ?_
    · rename_i fields
      rw [← Array.toArray_toList (xs := fields), List.mapM_toArray]
      refine Mono.bind' (mono_mapM _ (fun a => ?_) _) fun _ => trivial
      exact (mono_sizeOf _).bind fun _ => trivial
    · repeat' (first | trivial | split)
  · refine (mono_sizeOf _).bind fun n => ?_
    repeat' (first | trivial | split)
  · trivial
theorem mono_intArith (op : BinOp) (k : IntKind) (a b : Int) : Mono P (Op.intArith op k a b) := by unfold Op.intArith; split <;> trivial
theorem mono_intCmp (op : BinOp) (a b : Int) : Mono P (Op.intCmp op a b) := by unfold Op.intCmp; split <;> trivial
theorem mono_intBits (op : BinOp) (k : IntKind) (a b : Int) : Mono P (Op.intBits op k a b) := by unfold Op.intBits; dsimp only; split <;> trivial
theorem mono_intDiv (op : BinOp) (k : IntKind) (a b : Int) : Mono P (Op.intDiv op k a b) := by
  unfold Op.intDiv
  split
  · exact mono_runtimePanic _
  · split <;> trivial
theorem mono_shift (op : BinOp) (k : IntKind) (a : Int) (k' : IntKind) (b : Int) : Mono P (Op.shift op k a k' b) := by
  unfold Op.shift
  split
  · exact mono_runtimePanic _
  · dsimp only; split <;> trivial
theorem mono_stringOp (op : BinOp) (a b : ByteArray) : Mono P (Op.stringOp op a b) := by
  unfold Op.stringOp
  dsimp only
  repeat' (first | trivial | split)
theorem mono_unary (op : UnOp) (x : Value) : Mono P (Op.unary op x) := by
  unfold Op.unary
  split <;> first | trivial | exact mono_intArith _ _ _ _ | exact mono_intBits _ _ _ _

theorem mono_numberAt (r : Nat) : Mono P (numberAt r) := by
  unfold numberAt
  refine (mono_shape r).bind fun s => ?_
  split
  · trivial
  · refine (mono_getObj r).bind fun o => ?_
    split <;> trivial
theorem mono_behindNumber (a : Addr) : Mono P (behindNumber a) := by unfold behindNumber; exact (mono_numberAt _).bind fun _ => trivial
theorem mono_asNumber (a : Addr) (b : Bool) : Mono P (asNumber a b) := by unfold asNumber; exact (mono_newObj _).bind fun _ => trivial
theorem mono_asInt (v : Value) : Mono P (asInt v) := by unfold asInt; exact (mono_asIntOf v).bind fun _ => trivial
theorem mono_unsafeAdd (ts : Array TypeId) (t : TypeId) (vs : Array Value) : Mono P (Builtin.unsafeAdd_ ts t vs) := by
  obtain ⟨l⟩ := vs
  unfold Builtin.unsafeAdd_
  match l with
  | [] => trivial
  | [_] => trivial
  | [x, y] =>
    cases x with
    | pointer p =>
      dsimp only
      repeat' (first | trivial | exact mono_asInt _ | exact mono_viewAt _ | exact mono_shape _ | split | refine Mono.bind ?_ fun _ => ?_ | dsimp only)
    | _ => trivial
  | _ :: _ :: _ :: _ => trivial
theorem mono_movedNumber (t : TypeId) (x y : Value) : Mono P (movedNumber t x y) := by
  unfold movedNumber
  repeat' (first | trivial | exact mono_underlying _ | exact mono_unsafeAdd _ _ _ | exact mono_behindNumber _ | exact mono_asNumber _ _ | split | refine Mono.bind ?_ fun _ => ?_ | dsimp only)
theorem mono_movedPointer (t : TypeId) (x y : Value) : Mono P (movedPointer t x y) := by
  unfold movedPointer
  repeat' (first | trivial | exact mono_unsafeAdd _ _ _ | exact mono_numberAt _ | split | refine Mono.bind ?_ fun _ => ?_ | dsimp only)
theorem mono_twoPlaces (a b : Addr) : Mono P (Op.twoPlaces a b) := by
  unfold Op.twoPlaces
  repeat' (first | trivial | exact mono_byteOf _ | exact mono_program | split | refine Mono.bind ?_ fun _ => ?_ | dsimp only)
theorem mono_addrSub (k : IntKind) (a b : Addr) : Mono P (Op.addrSub k a b) := by unfold Op.addrSub; exact (mono_twoPlaces _ _).bind fun _ => trivial
theorem mono_addrCmp (op : BinOp) (a b : Addr) : Mono P (Op.addrCmp op a b) := by
  unfold Op.addrCmp
  refine (mono_twoPlaces _ _).bind fun _ => ?_
  dsimp only
  split <;> trivial
theorem mono_addrMod (k : IntKind) (a : Addr) (n : Int) : Mono P (Op.addrMod k a n) := by
  unfold Op.addrMod
  repeat' (first | trivial | exact mono_byteOf _ | exact mono_shape _ | exact mono_typeInfo _ | split | refine Mono.bind ?_ fun _ => ?_ | dsimp only)
theorem mono_floatArith (op : BinOp) (k : FloatKind) (a b : Nat) : Mono P (Op.floatArith op k a b) := by
  unfold Op.floatArith
  repeat' (first | trivial | exact mono_choose _ | split | refine Mono.bind ?_ fun _ => ?_ | dsimp only)
theorem mono_floatCmp (op : BinOp) (k : FloatKind) (a b : Nat) : Mono P (Op.floatCmp op k a b) := by
  unfold Op.floatCmp
  dsimp only
  split <;> trivial
theorem mono_floatToFloat (k : FloatKind) (a : Nat) (k' : FloatKind) : Mono P (Conv.floatToFloat k a k') := by
  unfold Conv.floatToFloat
  repeat' (first | trivial | exact mono_choose _ | split | refine Mono.bind ?_ fun _ => ?_ | dsimp only)
theorem mono_carith (op : BinOp) (k : FloatKind) (a b : Nat) : Mono P (Op.Complex.arith op k a b) := by
  unfold Op.Complex.arith
  refine (mono_floatArith _ _ _ _).bind fun _ => ?_
  split <;> trivial
theorem mono_ccmp (op : BinOp) (k : FloatKind) (a b : Nat) : Mono P (Op.Complex.cmp op k a b) := by
  unfold Op.Complex.cmp
  exact (mono_floatCmp _ _ _ _).bind fun _ => mono_asBool _
theorem mono_cconv (k : FloatKind) (a : Nat) (k' : FloatKind) : Mono P (Op.Complex.conv k a k') := by
  unfold Op.Complex.conv
  split
  · trivial
  · refine (mono_floatToFloat _ _ _).bind fun _ => ?_
    split <;> trivial
theorem mono_product (a b c d : Nat) : Mono P (Op.Complex.product a b c d) := by
  unfold Op.Complex.product Op.Complex.mul Op.Complex.add Op.Complex.sub
  repeat' (first | trivial | exact mono_carith _ _ _ _ | refine Mono.bind ?_ fun _ => ?_)
theorem mono_corrected (z a b c d : Nat) : Mono P (Op.Complex.corrected z a b c d) := by
  unfold Op.Complex.corrected Op.Complex.mul Op.Complex.add Op.Complex.sub
  repeat' (first | trivial | exact mono_carith _ _ _ _ | refine Mono.bind ?_ fun _ => ?_)
theorem mono_quotient (a b c d : Nat) : Mono P (Op.Complex.quotient a b c d) := by
  unfold Op.Complex.quotient Op.Complex.quo Op.Complex.mul Op.Complex.add Op.Complex.sub
  refine (mono_ccmp _ _ _ _).bind fun x => ?_
  dsimp only
  split
  all_goals
    refine (mono_carith _ _ _ _).bind fun _ => (mono_carith _ _ _ _).bind fun _ => (mono_carith _ _ _ _).bind fun _ => (mono_carith _ _ _ _).bind fun _ => (mono_carith _ _ _ _).bind fun _ => (mono_carith _ _ _ _).bind fun _ => (mono_carith _ _ _ _).bind fun _ => (mono_carith _ _ _ _).bind fun _ => (mono_carith _ _ _ _).bind fun _ => ?_
    refine Mono.bind (Mono.pure _) fun _ => (mono_ccmp _ _ _ _).bind fun _ => (mono_ccmp _ _ _ _).bind fun _ => ?_
    split
    · exact Mono.pure _
    · split
      · exact (mono_carith _ _ _ _).bind fun _ => (mono_carith _ _ _ _).bind fun _ => Mono.pure _
      · split
        · exact mono_corrected _ _ _ _ _
        · split
          · exact mono_corrected _ _ _ _ _
          · exact Mono.pure _
theorem mono_complexOp (op : BinOp) (k : FloatKind) (a b c d : Nat) : Mono P (Op.complexOp op k a b c d) := by
  unfold Op.complexOp
  split
  · refine (mono_carith _ _ _ _).bind fun _ => (mono_carith _ _ _ _).bind fun _ => trivial
  · refine (mono_carith _ _ _ _).bind fun _ => (mono_carith _ _ _ _).bind fun _ => trivial
  all_goals first
    | trivial
    | (refine (mono_cconv _ _ _).bind fun _ => (mono_cconv _ _ _).bind fun _ => (mono_cconv _ _ _).bind fun _ => (mono_cconv _ _ _).bind fun _ => ?_
       dsimp only
       repeat' (first | trivial | exact mono_product _ _ _ _ | exact mono_quotient _ _ _ _ | exact mono_cconv _ _ _ | split | refine Mono.bind ?_ fun _ => ?_ | dsimp only))
    | exact (mono_ccmp _ _ _ _).bind fun _ => (mono_ccmp _ _ _ _).bind fun _ => trivial

/-- Types whose values '==' compares plainly. -/
def plainType (P : Program) (t : TypeId) : Bool :=
  match P.underlying t with
  | some .bool | some (.int _) | some .string | some (.pointer _) | some (.slice _) | some (.map _ _) | some (.func _ _ _) => true
  | _ => false

theorem run_underlying_mono {α : Type} {t : TypeId} {d : TypeDesc} (h : P.underlying t = some d) {f : TypeDesc → Sem α} (hf : Mono P (f d)) : Mono P (underlying t >>= f) := by
  have e : (underlying t >>= f) = (Sem.program fun p => (match p.underlying t with | some d => Pure.pure d | none => stuck "no such type") >>= f) := rfl
  rw [e]
  show Mono P ((match P.underlying t with | some d => Pure.pure d | none => stuck "no such type") >>= f)
  rw [h]
  exact hf

theorem mono_mayBeOne (a b : Addr) : Mono P (mayBeOne a b) := by
  unfold mayBeOne stringish
  repeat' (first | trivial | exact mono_shape _ | exact mono_frozen _ | split | refine Mono.bind ?_ fun _ => ?_ | dsimp only)
theorem mono_sameAddr (a b : Addr) : Mono P (sameAddr a b) := by
  unfold sameAddr
  repeat' (first | trivial | exact mono_mayBeOne _ _ | exact mono_frozen _ | exact mono_noView _ | exact mono_choose _ | split | refine Mono.bind ?_ fun _ => ?_ | dsimp only)
theorem mono_equal {t : TypeId} (ht : plainType P t = true) (x y : Value) : Mono P (Op.equal t x y) := by
  unfold Op.equal
  show Mono P (Op.equalIn (9999 + 1) t x y)
  unfold Op.equalIn
  unfold plainType at ht
  split at ht <;> first
    | (rename_i h
       refine run_underlying_mono h ?_
       split <;> first
         | trivial
         | contradiction
         | (simp_all; done)
         | (repeat' (first | trivial | exact mono_sizeOf _ | exact mono_sameAddr _ _ | exact mono_choose _ | exact mono_behindNumber _ | exact mono_byteOf _ | exact mono_program | exact mono_typeInfo _ | split | refine Mono.bind ?_ fun _ => ?_ | dsimp only)))
    | cases ht

theorem mono_eqGuardIn {t : TypeId} (ht : plainType P t = true) (x y : Value) : Mono P (Op.eqGuardIn Op.maxDepth t x y) := by
  show Mono P (Op.eqGuardIn (9999 + 1) t x y)
  unfold Op.eqGuardIn
  unfold plainType at ht
  split at ht <;> first
    | (rename_i h
       refine run_underlying_mono h ?_
       split <;> first
         | exact Mono.pure _
         | contradiction
         | (simp_all; done))
    | cases ht

theorem mono_eqGuard {op : BinOp} {t : TypeId} (ht : plainType P t = true ∨ (op != .eql && op != .neq) = true) (x y : Operand) (a b : Value) : Mono P (eqGuard op t x y a b) := by
  unfold eqGuard
  rcases ht with ht | ht
  · repeat' (first | exact Mono.pure _ | exact mono_eqGuardIn ht _ _ | exact mono_program | exact mono_unsupported _ | split | refine Mono.bind ?_ fun _ => ?_ | dsimp only)
  · cases op <;> first | exact Mono.pure _ | (simp at ht)

theorem mono_binOp {op : BinOp} {t : TypeId} (ht : plainType P t = true ∨ (op != .eql && op != .neq) = true) (x y : Value) : Mono P (binOp op t x y) := by
  have heq : ∀ x y, (op = .eql ∨ op = .neq) → Mono P (Op.equal t x y) := fun x y ho => by
    rcases ht with ht | ht
    · exact mono_equal ht x y
    · rcases ho with rfl | rfl <;> simp at ht
  unfold binOp
  split <;> first
    | exact mono_shift _ _ _ _ _
    | exact mono_floatArith _ _ _ _
    | exact mono_stringOp _ _ _
    | exact (heq _ _ (.inl rfl)).bind fun _ => Mono.pure _
    | exact (heq _ _ (.inr rfl)).bind fun _ => Mono.pure _
    | exact mono_movedNumber _ _ _
    | exact mono_unsupported _
    | exact mono_stuck _
    | (repeat' (first | exact Mono.pure _ | exact mono_stuck _ | exact mono_unsupported _ | exact mono_intArith _ _ _ _ | exact mono_intDiv _ _ _ _ | exact mono_intBits _ _ _ _ | exact mono_intCmp _ _ _ | exact mono_floatArith _ _ _ _ | exact mono_floatCmp _ _ _ _ | exact mono_complexOp _ _ _ _ _ _ | exact mono_underlying _ | exact mono_movedPointer _ _ _ | exact mono_movedNumber _ _ _ | exact mono_behindNumber _ | exact mono_addrSub _ _ _ | exact mono_addrCmp _ _ _ | exact mono_addrMod _ _ _ | split | refine Mono.bind ?_ fun _ => ?_ | dsimp only))

theorem mono_len (ts : Array TypeId) (t : TypeId) (vs : Array Value) : Mono P (Builtin.len_ ts t vs) := by
  unfold Builtin.len_
  repeat' (first | exact Mono.pure _ | exact mono_stuck _ | exact mono_underlying _ | exact mono_getObj _ | split | refine Mono.bind ?_ fun _ => ?_ | dsimp only)
theorem mono_cap (ts : Array TypeId) (t : TypeId) (vs : Array Value) : Mono P (Builtin.cap_ ts t vs) := by
  unfold Builtin.cap_
  repeat' (first | exact Mono.pure _ | exact mono_stuck _ | exact mono_underlying _ | exact mono_getObj _ | split | refine Mono.bind ?_ fun _ => ?_ | dsimp only)
theorem mono_foldlM {β : Type} (f : β → Value → Sem β) (hf : ∀ a b, Mono P (f a b)) : ∀ (l : List Value) (b : β), Mono P (l.foldlM f b)
  | [], b => Mono.pure _
  | x :: l, b => by
    simp only [List.foldlM_cons]
    exact (hf _ _).bind fun _ => mono_foldlM f hf l _
theorem mono_max (ts : Array TypeId) (t : TypeId) (vs : Array Value) : Mono P (Builtin.max_ ts t vs) := by
  unfold Builtin.max_
  split
  · exact mono_stuck _
  · refine mono_foldlM _ (fun a b => ?_) _ _
    unfold Builtin.max2
    repeat' (first | exact Mono.pure _ | exact mono_stuck _ | exact mono_unsupported _ | exact mono_choose _ | exact mono_stringOp _ _ _ | exact mono_asBool _ | split | refine Mono.bind ?_ fun _ => ?_ | dsimp only)
theorem mono_min (ts : Array TypeId) (t : TypeId) (vs : Array Value) : Mono P (Builtin.min_ ts t vs) := by
  unfold Builtin.min_
  split
  · exact mono_stuck _
  · refine mono_foldlM _ (fun a b => ?_) _ _
    unfold Builtin.min2
    repeat' (first | exact Mono.pure _ | exact mono_stuck _ | exact mono_unsupported _ | exact mono_choose _ | exact mono_stringOp _ _ _ | exact mono_asBool _ | split | refine Mono.bind ?_ fun _ => ?_ | dsimp only)

def intType (P : Program) (t : TypeId) : Bool := match P.underlying t with | some (.int _) => true | _ => false
theorem mono_floatToInt (k : FloatKind) (a : Nat) (k' : IntKind) : Mono P (Conv.floatToInt k a k') := by
  unfold Conv.floatToInt
  dsimp only
  repeat' (first | exact Mono.pure _ | exact mono_choose _ | split | refine Mono.bind ?_ fun _ => ?_)
theorem mono_convert {src dst : TypeId} (hs : intType P src = true) (hd : intType P dst = true) (x : Value) : Mono P (convert src dst x) := by
  unfold convert
  unfold intType at hs hd
  split at hs
  · rename_i k hk
    split at hd
    · rename_i k' hk'
      refine run_underlying_mono hk (run_underlying_mono hk' ?_)
      split <;> first
        | exact Mono.pure _
        | contradiction
        | exact mono_unsupported _
        | exact mono_floatToInt _ _ _
        | (simp_all; done)
    · cases hd
  · cases hs
theorem mono_followBlind : ∀ (l : List FieldStep) (t : TypeId) (x : Option Value), Mono P (followBlind l t x)
  | [], _, _ => by unfold followBlind; exact Mono.pure _
  | s :: rest, t, x => by
    unfold followBlind
    repeat' (first | exact Mono.pure _ | exact mono_stuck _ | exact mono_followBlind rest _ _ | exact mono_underlying _ | exact mono_part _ _ _ | split | refine Mono.bind ?_ fun _ => ?_ | dsimp only)
theorem mono_nilAhead : ∀ (n : Nat) (t : TypeId) (v : Value) (m : String), Mono P (nilAhead n t v m)
  | 0, _, _, _ => by unfold nilAhead; exact Mono.pure _
  | n + 1, t, v, m => by
    unfold nilAhead
    repeat' (first | exact Mono.pure _ | exact mono_stuck _ | exact mono_nilAhead n _ _ _ | exact mono_followBlind _ _ _ | exact mono_underlying _ | exact mono_typeInfo _ | split | refine Mono.bind ?_ fun _ => ?_ | dsimp only)
end

theorem bind_assoc' {α β γ : Type} (x : Sem α) (f : α → Sem β) (g : β → Sem γ) : (x.bind f).bind g = x.bind fun a => (f a).bind g := by
  induction x with
  | pure a => rfl
  | halt h => rfl
  | load m a k ih => simp only [Sem.bind, ih]
  | shape r k ih => simp only [Sem.bind, ih]
  | frozen a k ih => simp only [Sem.bind, ih]
  | getObj r k ih => simp only [Sem.bind, ih]
  | program k ih => simp only [Sem.bind, ih]
  | mark m k ih => simp only [Sem.bind, ih]
  | new o k ih => simp only [Sem.bind, ih]
  | choose q k ih => simp only [Sem.bind, ih]
  | store m a v k ih => simp only [Sem.bind, ih]
  | freeze a n k ih => simp only [Sem.bind, ih]
  | setObj r o k ih => simp only [Sem.bind, ih]
  | sys c k ih => simp only [Sem.bind, ih]

/-- The operations that look, by their kinds. -/
def kind (P : Program) (o : Oper) : Bool :=
  match o.op with
  | .move _ | .assign _ | .pick .. | .build .. | .load .. | .nilCheck _ | .unOp .. | .fieldAddr .. | .field .. | .indexAddr .. | .index .. | .slice .. | .extract .. => true
  | .binOp op t _ _ _ => plainType P t || (op != .eql && op != .neq)
  | .convert src dst _ => intType P src && intType P dst
  | .call c => match c.callee with
    | .builtin .len | .builtin .cap | .builtin .max | .builtin .min => true
    | _ => false
  | _ => false

theorem kind_quiet {P : Program} (o : Oper) (h : kind P o = true) : Quiet P o := by
  obtain ⟨dst, op, type, pos, after, guard⟩ := o
  intro ρ
  unfold kind at h
  cases op <;> simp only [Bool.false_eq_true] at h <;> unfold execOp <;> dsimp only
  case move x => exact ⟨pure (ρ x), Mono.pure _, rfl⟩
  case assign x => exact ⟨pure (ρ x), Mono.pure _, rfl⟩
  case pick c a b => exact ⟨asBool (ρ c) >>= fun t => pure (if t then ρ a else ρ b), (mono_asBool _).bind fun _ => Mono.pure _, by cases ρ c <;> rfl⟩
  case build t ps => exact ⟨_, mono_build _ _, rfl⟩
  case load t a => exact ⟨_, (mono_sureAddr _).bind fun _ => mono_loadVar _ _, rfl⟩
  case nilCheck x =>
    generalize ρ x = v
    cases v with
    | pointer a =>
      cases a with
      | none => exact ⟨runtimePanic .nilDeref, mono_runtimePanic _, rfl⟩
      | some a => exact ⟨pure _, Mono.pure _, rfl⟩
    | nilIface => exact ⟨runtimePanic .nilDeref, mono_runtimePanic _, rfl⟩
    | nilFunc => exact ⟨runtimePanic .nilDeref, mono_runtimePanic _, rfl⟩
    | func fn first captured =>
      cases fn with
      | method name =>
        dsimp only
        split
        · exact ⟨runtimePanic .nilDeref, mono_runtimePanic _, rfl⟩
        · rename_i t w _
          refine ⟨(do
            if (← nilAhead ((← program).types.size + Made.depth) t w name) != some false then
              unsupported (.noEntry "op/nilCheck.the method's receiver behind this interface value is a nil pointer, or cannot be seen to be none, and the arguments act or may panic (ledger 612)")
            pure (.func (.method name) first captured)), ?_, ?_⟩
          · refine mono_program.bind fun p => (mono_nilAhead _ _ _ _).bind fun r => ?_
            repeat' (first | exact Mono.pure _ | exact mono_unsupported _ | split | refine Mono.bind ?_ fun _ => ?_ | dsimp only)
          · show _ = Sem.bind (Sem.bind _ _) _
            rw [bind_assoc']
            refine congrArg (Sem.bind program) (funext fun p => ?_)
            show _ = Sem.bind (Sem.bind _ _) _
            rw [bind_assoc']
            refine congrArg (Sem.bind _) (funext fun r => ?_)
            dsimp only
            split <;> rfl
        · exact ⟨pure _, Mono.pure _, rfl⟩
      | _ => exact ⟨pure _, Mono.pure _, rfl⟩
    | _ => exact ⟨pure _, Mono.pure _, rfl⟩
  case unOp op t x => exact ⟨_, mono_unary _ _, rfl⟩
  case fieldAddr s x f => exact ⟨_, mono_fieldAt _ _ _, rfl⟩
  case field t x f => exact ⟨_, mono_field _ _ _, rfl⟩
  case indexAddr t x i => exact ⟨_, mono_indexAt _ _ _, rfl⟩
  case index t x i => exact ⟨_, mono_index _ _ _, rfl⟩
  case slice t x lo hi mx => exact ⟨_, mono_sliceAt _ _ _ _ _, rfl⟩
  case extract t i => exact ⟨_, mono_extract _ _, rfl⟩
  case binOp op t x y u =>
    simp only [Bool.or_eq_true] at h
    exact ⟨_, (mono_eqGuard h _ _ _ _).bind fun _ => mono_binOp h _ _, rfl⟩
  case convert src dst x =>
    simp only [Bool.and_eq_true] at h
    exact ⟨_, mono_convert h.1 h.2 _, rfl⟩
  case call c =>
    obtain ⟨callee, args, argTypes⟩ := c
    cases callee with
    | builtin b =>
      cases b <;> simp only [Bool.false_eq_true] at h
      · exact ⟨_, mono_cap _ _ _, rfl⟩
      · exact ⟨_, mono_len _ _ _, rfl⟩
      · exact ⟨_, mono_max _ _ _, rfl⟩
      · exact ⟨_, mono_min _ _ _, rfl⟩
    | _ => simp only [Bool.false_eq_true] at h

/-- A mask by the lengths of its runs. -/
def rep (b : Bool) : Nat → List Bool → List Bool
  | 0, l => l
  | n + 1, l => b :: rep b n l
mutual
def runsT : List Nat → List Bool
  | [] => []
  | n :: ns => rep true n (runsF ns)
def runsF : List Nat → List Bool
  | [] => []
  | n :: ns => rep false n (runsT ns)
end

def planOf : List (List Nat × Bool) → List (List Bool × Bool)
  | [] => []
  | (r, b) :: l => (runsT r, b) :: planOf l

theorem segs_cons {P : Program} {ops : Array Oper} {Q : Exit → Act → World → Prop} {r : List Nat} {bar : Bool} {ms : List (List Nat × Bool)} {l : List Oper} {a : Act} {w : World} {aE : Act}
    (h1 : ∀ W, Ext w W → wpList P ops (QEnd aE W) (pick (runsT r) l) a W)
    (h2 : match left (runsT r) l with
      | [] => Q .normal aE w
      | o :: l' => wpList P ops (FEnd bar w (Segs P ops Q (planOf ms) l')) [o] aE w) : Segs P ops Q (planOf ((r, bar) :: ms)) l a w := ⟨aE, h1, h2⟩

theorem segs_nil {P : Program} {ops : Array Oper} {Q : Exit → Act → World → Prop} {l : List Oper} {a : Act} {w : World} (h : Q .normal a w) : Segs P ops Q (planOf []) l a w := h

/-- **A REGION THAT DRAWS ITS ORDER.** The plan: by segments, the runs of those that look and of those that do not (the first run looks), and whether the one behind them is a store that waits for all. -/
def okRegion (P : Program) (ops : Array Oper) (n : Nat) (plan : List (List Bool × Bool)) (size : Nat) : Bool :=
  Region.noSelect ops && okTail .any ops n && dstsOk ops size && okPlan P kind .any ops n plan (List.range ops.size) (Array.replicate ops.size false)

theorem wp_region_segs {P : Program} {id : Nat} {l : List Oper} {Q : Exit → Act → World → Prop} {a : Act} {w : World} (n : Nat) (plan : List (List Nat × Bool)) (hm : P.follows .mixedOrders = true)
    (hB : okRegion P l.toArray n (planOf plan) a.tmps.size = true) (h : Segs P l.toArray Q (planOf plan) l a w.drew) : (Code.region id l.toArray true).wp P Q a w := by
  simp only [okRegion, Bool.and_eq_true] at hB
  obtain ⟨⟨⟨h1, h2⟩, h3⟩, h4⟩ := hB
  refine Code.wp_mono (Q := NP Q) (fun e a w h => by cases e <;> first | exact h | exact h.elim) ?_
  refine wp_region_any hm (wpAny_of_T (n := n) (C := Ext w.drew) _ _ _ _ ?_)
  have hl : (List.range l.toArray.size).map (fun i => l.toArray.getD i default) = l := by
    apply List.ext_getElem
    · simp
    · intro i h1 h2
      simp at h1
      simp [h1]
  have key : ∀ (plan : List (List Bool × Bool)) (l' : List Oper) (a : Act) (w : World), Segs P l.toArray Q plan l' a w → Segs P l.toArray (NP Q) plan l' a w := by
    intro plan
    induction plan with
    | nil => intro l' a w h; exact h
    | cons s plan ih =>
      obtain ⟨m, bar⟩ := s
      intro l' a w h
      obtain ⟨aE, h1, h2⟩ := h
      refine ⟨aE, h1, ?_⟩
      cases hl : left m l' with
      | nil => rw [hl] at h2; exact h2
      | cons o l'' =>
        rw [hl] at h2
        dsimp only at h2 ⊢
        have : FEnd bar w (Segs P l.toArray Q plan l'') = FEnd bar w (Segs P l.toArray Q plan l'') := rfl
        unfold wpList at h2 ⊢
        split
        · rename_i hw
          simp only [hw, if_true] at h2
          rcases h2 with h2 | ⟨_, h2⟩
          · exact .inl (upon_mono2 (fun a' w' _ hk => ⟨hk.1, ih _ _ _ hk.2⟩) (fun e a w he hq => by cases e <;> first | exact absurd rfl he | exact hq.elim) h2)
          · exact (letsOut_FEnd h2).elim
        · rename_i hw
          simp only [hw] at h2
          exact ⟨h2.1, ih _ _ _ h2.2⟩
  have := wpAnyT_of_segs (P := P) (ops := l.toArray) (md := .any) (Q := NP Q) (n := n) (kind := kind) kind_quiet h1 (fun e a a' w he hq => by cases e <;> first | exact absurd rfl he | exact hq.elim) h2 (fun i => l.toArray.getD i default) (planOf plan) (List.range l.toArray.size) _ a w.drew
    (fun j o ho hl => by
      have h' : (Array.replicate l.toArray.size false).getD j false = false := by simp [Array.getD]
      rw [h'] at hl
      cases hl) (fun i hi => by
      have hi' : i < l.length := by simpa using hi
      simp [hi']) h4 h3 (by rw [hl]; exact key (planOf plan) l a _ h)
  simpa using this
end Go.Seg
end

section
namespace Go.Open
open Go.RowKit Go.ChangeShapes Go.WideShapes Go.Deep

/-- Kinds of cells. -/
inductive CK where
  | i (k : IntKind)
  | b
  | s
  | sl
  | p

def fits : CK → Value → Prop
  | .i k, v => ∃ n, v = .int k n ∧ (Lit.int k n).wf = true
  | .b, v => ∃ x, v = .bool x
  | .s, v => ∃ x : ByteArray, v = .string x ∧ x.size ≤ maxLen
  | .sl, v => ∃ a n c, v = .slice a n c
  | .p, v => ∃ a, v = .pointer a

def FitsAll : List CK → List Value → Prop
  | [], [] => True
  | k :: ks, v :: vs => fits k v ∧ FitsAll ks vs
  | _, _ => False

theorem FitsAll.length : ∀ {ks : List CK} {vs : List Value}, FitsAll ks vs → vs.length = ks.length
  | [], [], _ => rfl
  | _ :: _, _ :: _, h => by simp [FitsAll.length h.2]
  | [], _ :: _, h => h.elim
  | _ :: _, [], h => h.elim

theorem FitsAll.app : ∀ {ks : List CK} {vs : List Value} {ks' : List CK} {vs' : List Value}, FitsAll ks vs → FitsAll ks' vs' → FitsAll (ks ++ ks') (vs ++ vs')
  | [], [], _, _, _, h' => h'
  | _ :: _, _ :: _, _, _, h, h' => ⟨h.1, h.2.app h'⟩
  | [], _ :: _, _, _, h, _ => h.elim
  | _ :: _, [], _, _, h, _ => h.elim

def times {α : Type} : Nat → List α → List α
  | 0, _ => []
  | n + 1, l => l ++ times n l

theorem times_length {α : Type} (l : List α) : ∀ n, (times n l).length = n * l.length
  | 0 => by simp [times]
  | n + 1 => by simp [times, times_length l n, Nat.succ_mul]; omega

def flatFields (P : Program) (g : TypeId → Option (List CK)) : List Field → Nat → Option (List CK)
  | [], _ => some []
  | f :: fs, off => if f.offset = off then
      match g f.type with
      | some ks => if ks.length = P.cellsOf f.type then (flatFields P g fs (off + ks.length)).map (ks ++ ·) else none
      | none => none
    else none
def flat (P : Program) : Nat → TypeId → Option (List CK)
  | 0, _ => none
  | d + 1, t => match P.underlying t with
    | some (.int k) => some [.i k]
    | some .bool => some [.b]
    | some .string => some [.s]
    | some (.slice _) => some [.sl]
    | some (.pointer _) => some [.p]
    | some (.struct fs) => match flatFields P (flat P d) fs.toList 0 with
      | some ks => if ks.length = P.cellsOf t then some ks else none
      | none => none
    | some (.array n e) => match flat P d e with
      | some ks => if ks.length = P.cellsOf e ∧ n * ks.length = P.cellsOf t then some (times n ks) else none
      | none => none
    | _ => none

variable {H : Type} {enc : TypeId × Value → H} {P : Program} {w : World} {base : Nat} {spare : Nat → Bool} {held : Bool}

theorem trod_bool' {t : TypeId} {fuel : Nat} {cs : List Value} {x : DataW H × List MemPlace} (ht : P.underlying t = some .bool) (h : DataW.trod enc P w base spare held fuel t cs = some x) : ∃ b, cs = [.bool b] := by
  cases fuel with
  | zero => simp [DataW.trod] at h
  | succ n =>
    unfold DataW.trod at h
    rw [ht] at h
    split at h <;> simp_all

theorem trod_pointer' {t e : TypeId} {fuel : Nat} {cs : List Value} {x : DataW H × List MemPlace} (ht : P.underlying t = some (.pointer e)) (h : DataW.trod enc P w base spare held fuel t cs = some x) : ∃ a, cs = [.pointer a] := by
  rcases DataW.trod_pointer ht h with ⟨rfl, _⟩ | ⟨a, _, _, _, _, rfl, _⟩ <;> exact ⟨_, rfl⟩

theorem fields_fit (d n : Nat) (cs : List Value) (ih : ∀ (t : TypeId) (ks : List CK) (c : List Value) (x : DataW H × List MemPlace), flat P d t = some ks → DataW.trod enc P w base spare held n t c = some x → FitsAll ks c) :
    ∀ (fs : List Field) (off : Nat) (ks : List CK), flatFields P (flat P d) fs off = some ks → (∀ f ∈ fs, ∃ x, DataW.trod enc P w base spare held n f.type ((cs.drop f.offset).take (P.cellsOf f.type)) = some x) →
      FitsAll ks ((cs.drop off).take ks.length)
  | [], off, ks, h, _ => by simp [flatFields] at h; subst h; simp [FitsAll]
  | f :: fs, off, ks, h, hx => by
    unfold flatFields at h
    split at h
    · rename_i hoff
      split at h
      · rename_i k1 hk1
        split at h
        · rename_i hlen
          obtain ⟨k2, hk2, rfl⟩ := Option.map_eq_some_iff.1 h
          obtain ⟨x, hx1⟩ := hx f (by simp)
          have h1 := ih _ _ _ _ hk1 hx1
          have h2 := fields_fit d n cs ih fs (off + k1.length) k2 hk2 (fun g hg => hx g (by simp [hg]))
          have e : (cs.drop off).take (k1 ++ k2).length = (cs.drop off).take k1.length ++ (cs.drop (off + k1.length)).take k2.length := by
            rw [List.length_append, List.take_add, List.drop_drop]
          rw [e]
          refine FitsAll.app ?_ h2
          rw [hoff, ← hlen] at h1
          exact h1
        · cases h
      · cases h
    · cases h

theorem flat_fit : ∀ (d : Nat) (t : TypeId) (ks : List CK) (n : Nat) (c : List Value) (x : DataW H × List MemPlace), flat P d t = some ks → DataW.trod enc P w base spare held n t c = some x → FitsAll ks c := by
  intro d
  induction d using Nat.strongRecOn with
  | _ d ih =>
    intro t ks n c x hf ht
    cases d with
    | zero => simp [flat] at hf
    | succ d =>
      unfold flat at hf
      split at hf
      · rename_i k hu
        obtain rfl : [CK.i k] = ks := by simpa using hf
        obtain ⟨m, rfl, _, hw⟩ := DataW.trod_int hu ht
        exact ⟨⟨m, rfl, hw⟩, trivial⟩
      · rename_i hu
        obtain rfl : [CK.b] = ks := by simpa using hf
        obtain ⟨m, rfl⟩ := trod_bool' hu ht
        exact ⟨⟨m, rfl⟩, trivial⟩
      · rename_i hu
        obtain rfl : [CK.s] = ks := by simpa using hf
        obtain ⟨m, rfl, _, hw⟩ := DataW.trod_string hu ht
        exact ⟨⟨m, rfl, hw⟩, trivial⟩
      · rename_i hu
        obtain rfl : [CK.sl] = ks := by simpa using hf
        rcases open_slice hu ht with ⟨rfl, _⟩ | ⟨a, len, cap, _, _, _, _, rfl, _⟩ <;> exact ⟨⟨_, _, _, rfl⟩, trivial⟩
      · rename_i hu
        obtain rfl : [CK.p] = ks := by simpa using hf
        obtain ⟨m, rfl⟩ := trod_pointer' hu ht
        exact ⟨⟨m, rfl⟩, trivial⟩
      · rename_i fs hu
        obtain ⟨xs, m, rfl, _, hlen, hxs, hget⟩ := DataW.trod_struct hu ht
        split at hf
        · rename_i k1 hk1
          split at hf
          · rename_i hl
            obtain rfl : k1 = ks := by simpa using hf
            have hall : (c.drop 0).take k1.length = c := by rw [hl, ← hlen]; simp
            have h1 := fields_fit (P := P) (w := w) d m c (fun t ks c x hf ht => ih d (by omega) t ks m c x hf ht) fs.toList 0 k1 hk1 (fun f hfm => by
              obtain ⟨i, hi⟩ := List.mem_iff_getElem?.1 hfm
              have hi' : fs[i]? = some f := by simpa using hi
              have hlt : i < xs.length := by rw [hxs]; exact (Array.getElem?_eq_some_iff.1 hi').1
              exact ⟨xs[i], by rw [hget i f hi', List.getElem?_eq_getElem hlt]⟩)
            rw [hall] at h1
            exact h1
          · cases hf
        · cases hf
      · rename_i k e hu
        obtain ⟨xs, m, rfl, _, hlen, hxs, hget⟩ := DataW.trod_array hu ht
        split at hf
        · rename_i k1 hk1
          split at hf
          · rename_i hl
            obtain ⟨hl1, hl2⟩ := hl
            obtain rfl : times k k1 = ks := by simpa using hf
            have key : ∀ j i, i + j = k → FitsAll (times j k1) (c.drop (i * k1.length)) := by
              intro j
              induction j with
              | zero =>
                intro i hi
                have : c.drop (i * k1.length) = [] := by
                  apply List.drop_eq_nil_of_le
                  rw [hlen, ← hl2, show i = k by omega]; exact Nat.le_refl _
                rw [this]; trivial
              | succ j ihj =>
                intro i hi
                have hlt : i < xs.length := by omega
                have h1 := ih d (by omega) e k1 m _ xs[i] hk1 (by rw [hget i (by omega), List.getElem?_eq_getElem hlt])
                rw [← hl1] at h1
                have h2 := ihj (i + 1) (by omega)
                have e : c.drop (i * k1.length) = (c.drop (i * k1.length)).take k1.length ++ c.drop ((i + 1) * k1.length) := by
                  rw [Nat.succ_mul, ← List.drop_drop, List.take_append_drop]
                rw [e]
                exact h1.app h2
            have := key k 0 (by omega)
            simpa using this
          · cases hf
        · cases hf
      · cases hf

/-- A slice that came in: nothing is known where it is empty; else its rows of cells lie there. -/
structure IsSl (w : World) (v : Value) (ks : List CK) (a : Option Addr) (len cap : Nat) : Prop where
  val : v = .slice a len cap
  le : len ≤ maxLen
  cells : 0 < len → ∃ b off, a = some ⟨b, off, none⟩ ∧ ∀ i, i < len → ∃ cs, FitsAll ks cs ∧ ∀ j, j < ks.length → w.cell? ⟨b, off + (i * ks.length + j), none⟩ = cs[j]?

theorem sl_open {t e : TypeId} {d : Nat} {ks : List CK} (ht : P.underlying t = some (.slice e)) (hk : flat P d e = some ks) (hl : ks.length = P.cellsOf e) (hp : 0 < ks.length) {v : Value} {x : DataW H × List MemPlace} {fuel : Nat}
    (h : DataW.trod enc P w base spare held fuel t [v] = some x) : ∃ a len cap, IsSl w v ks a len cap := by
  rcases open_slice ht h with ⟨hv, _⟩ | ⟨a, len, cap, m, n, D, Pl, hv, hb, hle, hm, hmm, _, hx⟩
  · obtain rfl : v = .slice none 0 0 := by simpa using hv
    exact ⟨none, 0, 0, rfl, Nat.zero_le _, fun h => absurd h (by omega)⟩
  · obtain rfl : v = .slice (some a) len cap := by simpa using hv
    refine ⟨some a, len, cap, rfl, by omega, fun h0 => ?_⟩
    have hlm : len ≤ m := by rw [hmm]; split <;> omega
    obtain ⟨b, off, spot⟩ := a
    have hsp : spot = none := by
      obtain ⟨cs', h1, _⟩ := hx 0 (by omega)
      obtain ⟨_, hlen, hcell⟩ := World.cells?_some h1
      have := hcell 0 (by omega)
      rw [List.getElem?_eq_getElem (by omega)] at this
      simpa [Addr.add] using World.cell?_spot this
    subst hsp
    refine ⟨b, off, rfl, fun i hi => ?_⟩
    obtain ⟨cs', h1, h2⟩ := hx i (by omega)
    obtain ⟨_, hlen, hcell⟩ := World.cells?_some h1
    refine ⟨cs', flat_fit d e ks n cs' _ hk h2, fun j hj => ?_⟩
    have := hcell j (by omega)
    rw [← hl, add_plain, add_plain, Nat.add_assoc] at this
    exact this

/-- What came in as one value of a struct's or an array's type. -/
theorem agg_open {t : TypeId} {d : Nat} {ks : List CK} (hk : flat P d t = some ks) {c : Array Value} {x : DataW H × List MemPlace} {fuel : Nat} (h : DataW.trod enc P w base spare held fuel t c.toList = some x) : FitsAll ks c.toList :=
  flat_fit d t ks fuel _ _ hk h

theorem fitsAll_cons {k : CK} {ks : List CK} {vs : List Value} (h : FitsAll (k :: ks) vs) : ∃ v r, vs = v :: r ∧ fits k v ∧ FitsAll ks r := by
  cases vs with
  | nil => exact h.elim
  | cons v r => exact ⟨v, r, rfl, h.1, h.2⟩
theorem fitsAll_nil {vs : List Value} (h : FitsAll [] vs) : vs = [] := by
  cases vs with
  | nil => rfl
  | cons v r => exact h.elim

/-- A field of a struct that came in. -/
theorem field_open {t : TypeId} {fs : Array Field} {f : Field} (i : Nat) (ht : P.underlying t = some (.struct fs)) (hf : fs[i]? = some f) {c : List Value} {x : DataW H × List MemPlace} {fuel : Nat} (h : DataW.trod enc P w base spare held fuel t c = some x) :
    ∃ n y, DataW.trod enc P w base spare held n f.type ((c.drop f.offset).take (P.cellsOf f.type)) = some y := by
  obtain ⟨xs, m, rfl, _, hlen, hxs, hget⟩ := DataW.trod_struct ht h
  have hlt : i < xs.length := by rw [hxs]; exact (Array.getElem?_eq_some_iff.1 hf).1
  exact ⟨m, xs[i], by rw [hget i f hf, List.getElem?_eq_getElem hlt]⟩

/-- A slice of slices: what each row's value is. -/
theorem IsSl.sls {v : Value} {a : Option Addr} {len cap : Nat} (h : IsSl w v [.sl] a len cap) : ∃ (b off : Nat) (F : Nat → Option Addr × Nat × Nat), (0 < len → a = some ⟨b, off, none⟩) ∧ ∀ i, i < len → w.cell? ⟨b, off + i, none⟩ = some (.slice (F i).1 (F i).2.1 (F i).2.2) := by
  by_cases h0 : 0 < len
  · obtain ⟨b, off, ha, hc⟩ := h.cells h0
    have key : ∀ i, i < len → ∃ f : Option Addr × Nat × Nat, w.cell? ⟨b, off + i, none⟩ = some (.slice f.1 f.2.1 f.2.2) := fun i hi => by
      obtain ⟨cs, hf, hcell⟩ := hc i hi
      obtain ⟨v, r, rfl, ⟨a, n, c, rfl⟩, hr⟩ := fitsAll_cons hf
      have := hcell 0 (by simp)
      simp at this
      exact ⟨(a, n, c), this⟩
    obtain ⟨F, hF⟩ := choose_lt key
    exact ⟨b, off, F, fun _ => ha, hF⟩
  · exact ⟨0, 0, fun _ => (none, 0, 0), fun h => absurd h h0, fun i hi => absurd hi (by omega)⟩

/-- A block of cells. -/
def Blk (w : World) (b : Nat) (cs : Array Value) (E : TypeId) : Prop := w.heap[b]? = some (.cells cs E (0, 0))

theorem Blk.lt {w : World} {b : Nat} {cs : Array Value} {E : TypeId} (h : Blk w b cs E) : b < w.heap.size := (Array.getElem?_eq_some_iff.1 h).1
theorem Blk.ext {w w' : World} {b : Nat} {cs : Array Value} {E : TypeId} (h : Blk w b cs E) (e : Below w.heap.size w w') : Blk w' b cs E := by
  unfold Blk at *
  rw [e.block b (Array.getElem?_eq_some_iff.1 h).1]; exact h
theorem Blk.new (w : World) (cs : Array Value) (E : TypeId) : Blk (w.alloc (.cells cs E)) w.heap.size cs E := Array.getElem?_push_size
theorem Blk.drew {w : World} {b : Nat} {cs : Array Value} {E : TypeId} (h : Blk w b cs E) : Blk w.drew b cs E := h
theorem Blk.cell {w : World} {b : Nat} {cs : Array Value} {E : TypeId} (h : Blk w b cs E) {i : Nat} {v : Value} (hv : cs[i]? = some v) : w.cell? ⟨b, i, none⟩ = some v := by
  unfold Blk at h
  simp only [World.cell?, h]
  exact hv
theorem Blk.frozen {w : World} {b : Nat} {cs : Array Value} {E : TypeId} (h : Blk w b cs E) (i : Nat) : w.frozen? ⟨b, i, none⟩ = false := by
  unfold Blk at h
  simp [World.frozen?, h]
theorem run_eq_func_nil {t : TypeId} {a b : Array TypeId} {v : Bool} (h : P.underlying t = some (.func a b v)) (fn : Fn) (x y : Array Value) (w : World) : (binOp .eql t (.func fn x y) .nilFunc).run P w = .ok (.bool false) w := by
  show (Sem.bind (Op.equalIn (9999 + 1) t (.func fn x y) .nilFunc) _).run P w = _
  unfold Op.equalIn
  simp [underlying, program, h, Sem.bind, Sem.run, bind, pure]

/-- Only blocks of which S speaks may have changed; new ones may be there. -/
structure Chg (S : Nat → Prop) (w w' : World) : Prop where
  os : w'.os = w.os
  tape : w'.tape = w.tape
  output : w'.output = w.output
  size : w.heap.size ≤ w'.heap.size
  block : ∀ k, k < w.heap.size → ¬ S k → w'.heap[k]? = w.heap[k]?

theorem Chg.of_below {S : Nat → Prop} {w w' : World} (h : Below w.heap.size w w') : Chg S w w' := ⟨h.os, h.tape, h.output, h.size, fun k hk _ => h.block k hk⟩
theorem Chg.trans {S : Nat → Prop} {a b c : World} (h : Chg S a b) (k : Chg S b c) : Chg S a c :=
  ⟨k.os.trans h.os, k.tape.trans h.tape, k.output.trans h.output, Nat.le_trans h.size k.size, fun i hi hs => (k.block i (Nat.lt_of_lt_of_le hi h.size) hs).trans (h.block i hi hs)⟩
theorem Chg.drew {S : Nat → Prop} {a b : World} (h : Chg S a b) : Chg S a b.drew := ⟨h.os, h.tape, h.output, h.size, h.block⟩
theorem Chg.refl {S : Nat → Prop} (w : World) : Chg S w w := ⟨rfl, rfl, rfl, Nat.le_refl _, fun _ _ _ => rfl⟩
theorem Chg.setCell {S : Nat → Prop} {w w' : World} (h : Chg S w w') {a : Addr} (ha : S a.block) (v : Value) : Chg S w (w'.setCell a v) :=
  h.trans ⟨rfl, rfl, rfl, by simp [World.setCell], fun k _ hs => Below.heap_setCell _ _ _ _ (fun e => hs (e ▸ ha))⟩
theorem Chg.mono {S S' : Nat → Prop} {w w' : World} (h : Chg S w w') (hs : ∀ k, S k → S' k) : Chg S' w w' := ⟨h.os, h.tape, h.output, h.size, fun k hk hn => h.block k hk (fun x => hn (hs k x))⟩
/-- What has changed lies at new blocks. -/
theorem Chg.below {S : Nat → Prop} {w w' : World} (h : Chg S w w') {B : Nat} (hB : B ≤ w.heap.size) (hs : ∀ k, S k → B ≤ k) : Below B w w' :=
  ⟨h.os, h.tape, h.output, h.size, fun k hk => h.block k (Nat.lt_of_lt_of_le hk hB) (fun x => by have := hs k x; omega)⟩

/-- No block of which S speaks is one of these. -/
def Off (S : Nat → Prop) (w : World) (E : TypeId) : Prop := ∀ k, S k → ∀ cs f, w.heap[k]? ≠ some (.cells cs E f)

theorem Blk.chg {S : Nat → Prop} {w w' : World} {b : Nat} {cs : Array Value} {E : TypeId} (h : Blk w b cs E) (hc : Chg S w w') (hn : Off S w E) : Blk w' b cs E := by
  have hs : ¬ S b := fun x => hn b x _ _ h
  have hl := h.lt
  unfold Blk at *
  rw [hc.block b hl hs]; exact h
theorem Off.one {w : World} {b : Nat} {cs : Array Value} {E E' : TypeId} (h : Blk w b cs E) (hE : E ≠ E') : Off (· = b) w E' := by
  rintro k rfl cs' f h'
  unfold Blk at h
  rw [h] at h'
  cases h'
  exact hE rfl
theorem Blk.set {w : World} {b : Nat} {cs cs' : Array Value} {E : TypeId} (h : Blk w b cs E) (i : Nat) (v : Value) (hc : cs.setIfInBounds i v = cs') : Blk (w.setCell ⟨b, i, none⟩ v) b cs' E := by
  subst hc
  unfold Blk at *
  simp only [World.setCell, Array.getElem?_modify, if_true, h]
  rfl
theorem Chg.set (w : World) (b i : Nat) (v : Value) : Chg (· = b) w (w.setCell ⟨b, i, none⟩ v) := Chg.setCell (S := (· = b)) (Chg.refl w) (a := ⟨b, i, none⟩) rfl v
/-- What lay below stays, behind new blocks. -/
theorem below_ext {w a b : World} (h : Below w.heap.size w a) (k : Below a.heap.size a b) : Below w.heap.size w b := h.trans (k.mono h.size)
theorem below_chg {S : Nat → Prop} {w a b : World} (h : Below w.heap.size w a) (k : Chg S a b) (hs : ∀ i, S i → w.heap.size ≤ i) : Below w.heap.size w b := h.trans (k.below h.size hs)

/-- A slice of pairs of whole numbers. -/
theorem IsSl.pairs {v : Value} {a : Option Addr} {len cap : Nat} (h : IsSl w v [.i .i64, .i .i64] a len cap) : ∃ (b off : Nat) (F : Nat → Int × Int), (0 < len → a = some ⟨b, off, none⟩) ∧ (0 < len → b < w.heap.size) ∧ ∀ W, Below w.heap.size w W → ∀ i, i < len → W.cell? ⟨b, off + i * 2, none⟩ = some (.int .i64 (F i).1) ∧ W.cell? ⟨b, off + i * 2 + 1, none⟩ = some (.int .i64 (F i).2) := by
  by_cases h0 : 0 < len
  · obtain ⟨b, off, ha, hc⟩ := h.cells h0
    have key : ∀ i, i < len → ∃ f : Int × Int, w.cell? ⟨b, off + i * 2, none⟩ = some (.int .i64 f.1) ∧ w.cell? ⟨b, off + i * 2 + 1, none⟩ = some (.int .i64 f.2) := fun i hi => by
      obtain ⟨cs, hf, hcell⟩ := hc i hi
      obtain ⟨v, r, rfl, ⟨x, rfl, _⟩, hr⟩ := fitsAll_cons hf
      obtain ⟨v, r, rfl, ⟨y, rfl, _⟩, hr⟩ := fitsAll_cons hr
      have h1 := hcell 0 (by simp)
      have h2 := hcell 1 (by simp)
      simp at h1 h2
      exact ⟨(x, y), h1, by rw [Nat.add_assoc]; exact h2⟩
    obtain ⟨F, hF⟩ := choose_lt key
    have hlt : b < w.heap.size := World.block_lt_of_cell? w _ (hF 0 h0).1
    exact ⟨b, off, F, fun _ => ha, fun _ => hlt, fun W hW i hi => ⟨(hW.cell (p := ⟨b, off + i * 2, none⟩) hlt).trans (hF i hi).1, (hW.cell (p := ⟨b, off + i * 2 + 1, none⟩) hlt).trans (hF i hi).2⟩⟩
  · exact ⟨0, 0, fun _ => (0, 0), fun h => absurd h h0, fun h => absurd h h0, fun W hW i hi => absurd hi (by omega)⟩
end Go.Open
end

section
namespace Go.Open
open Go.RowKit Go.Seg

variable {w w' : World} {B E s n : Nat} {v : Value} {xs : List Value}

theorem own_base {B' : Nat} (h : w.ownsRow B E s v n xs) (hB : B' ≤ B) : w.ownsRow B' E s v n xs := by
  obtain ⟨h1, h2⟩ := h
  refine ⟨h1, ?_⟩
  rcases h2 with h2 | ⟨g, cap, cur, hv, hg, r⟩
  · exact .inl h2
  · exact .inr ⟨g, cap, cur, hv, by omega, r⟩
theorem own_ext (h : w.ownsRow B E s v n xs) (e : Ext w w') : w'.ownsRow B E s v n xs := by
  obtain ⟨h1, h2⟩ := h
  refine ⟨h1, ?_⟩
  rcases h2 with h2 | ⟨g, cap, cur, hv, hg, hh, r⟩
  · exact .inl h2
  · exact .inr ⟨g, cap, cur, hv, hg, by rw [e.block g (Array.getElem?_eq_some_iff.1 hh).1]; exact hh, r⟩
theorem own_chg {S : Nat → Prop} (h : w.ownsRow B E s v n xs) (hc : Chg S w w') (hn : Off S w E) : w'.ownsRow B E s v n xs := by
  obtain ⟨h1, h2⟩ := h
  refine ⟨h1, ?_⟩
  rcases h2 with h2 | ⟨g, cap, cur, hv, hg, hh, r⟩
  · exact .inl h2
  · exact .inr ⟨g, cap, cur, hv, hg, Blk.chg (b := g) (cs := cur) (E := E) hh hc hn, r⟩
theorem own_below {B' : Nat} (h : w.ownsRow B E s v n xs) (hb : Below B' w w') (hv : ∀ k, v.ownBlock = some k → k < B') : w'.ownsRow B E s v n xs := by
  obtain ⟨h1, h2⟩ := h
  refine ⟨h1, ?_⟩
  rcases h2 with h2 | ⟨g, cap, cur, rfl, hg, hh, r⟩
  · exact .inl h2
  · exact .inr ⟨g, cap, cur, rfl, hg, by rw [hb.block g (hv g rfl)]; exact hh, r⟩

/-- A row's value, and what its cells hold. -/
theorem own_open (h : w.ownsRow B E s v n xs) : ∃ (a : Option Addr) (cap b : Nat), v = .slice a n cap ∧ n ≤ cap ∧ cap ≤ maxLen ∧ (0 < n → a = some ⟨b, 0, none⟩) ∧ (0 < n → B ≤ b ∧ b < w.heap.size) ∧
    (∀ W, Ext w W → ∀ j, j < n * s → W.cell? ⟨b, j, none⟩ = xs[j]?) := by
  obtain ⟨h1, h2⟩ := h
  rcases h2 with ⟨rfl, rfl⟩ | ⟨g, cap, cur, rfl, hg, hh, hn, hm, hs, ht⟩
  · exact ⟨none, 0, 0, rfl, Nat.le_refl _, Nat.zero_le _, fun h => absurd h (by omega), fun h => absurd h (by omega), fun W _ j hj => absurd hj (by simp)⟩
  · have hlt : g < w.heap.size := (Array.getElem?_eq_some_iff.1 hh).1
    refine ⟨some ⟨g, 0, none⟩, cap, g, rfl, hn, hm, fun _ => rfl, fun _ => ⟨hg, hlt⟩, fun W e j hj => ?_⟩
    have hW : W.heap[g]? = some (.cells cur E (0, 0)) := by rw [e.block g hlt]; exact hh
    rw [cell_of_row W g j cur E (0, 0) hW, ← ht, List.getElem?_take, if_pos hj]
    simp

theorem own_len (h : w.ownsRow B E s v n xs) : n ≤ maxLen := by
  obtain ⟨a, cap, b, _, h1, h2, _⟩ := own_open h
  omega

/-- Rows of two cells. -/
def cells2 {α : Type} (f g : α → Value) (l : List α) : List Value := l.flatMap fun x => [f x, g x]
theorem cells2_length {α : Type} (f g : α → Value) : ∀ l : List α, (cells2 f g l).length = l.length * 2
  | [] => rfl
  | x :: l => by
    have := cells2_length f g l
    unfold cells2 at *
    simp only [List.flatMap_cons, List.length_append, List.length_cons, List.length_nil, this]
    omega
theorem cells2_get {α : Type} (f g : α → Value) : ∀ (l : List α) (i : Nat) (h : i < l.length), (cells2 f g l)[i * 2]? = some (f l[i]) ∧ (cells2 f g l)[i * 2 + 1]? = some (g l[i])
  | [], i, h => absurd h (by simp)
  | x :: l, 0, _ => by simp [cells2]
  | x :: l, i + 1, h => by
    have := cells2_get f g l i (by simpa using h)
    have e : cells2 f g (x :: l) = f x :: g x :: cells2 f g l := by simp [cells2]
    rw [e, show (i + 1) * 2 = i * 2 + 1 + 1 from by omega]
    simpa using this
theorem cells2_app {α : Type} (f g : α → Value) (a b : List α) : cells2 f g (a ++ b) = cells2 f g a ++ cells2 f g b := by simp [cells2]
end Go.Open
end

section
namespace Go.Open
open Go.RowKit Go.Seg

/-- A row of cells with some of them written over. -/
def over (l : List Value) (o : Nat) (vs : List Value) : List Value := l.take o ++ vs ++ l.drop (o + vs.length)
theorem over_length {l : List Value} {o : Nat} {vs : List Value} (h : o + vs.length ≤ l.length) : (over l o vs).length = l.length := by
  unfold over
  simp
  omega

theorem heap_setCells (g : Nat) (E : TypeId) : ∀ (vs : List Value) (o : Nat) (w : World) (cur : Array Value), w.heap[g]? = some (.cells cur E (0, 0)) → o + vs.length ≤ cur.size →
    ∃ cur', (w.setCells g o vs).heap[g]? = some (.cells cur' E (0, 0)) ∧ cur'.toList = over cur.toList o vs
  | [], o, w, cur, h, _ => ⟨cur, h, by simp [over]⟩
  | v :: vs, o, w, cur, h, hl => by
    simp only [List.length_cons] at hl
    have h1 := heap_setCell_same w g o cur E v h
    obtain ⟨cur', h2, h3⟩ := heap_setCells g E vs (o + 1) _ _ h1 (by simp; omega)
    refine ⟨cur', h2, ?_⟩
    rw [h3]
    have hlt : o < cur.toList.length := by simp; omega
    unfold over
    rw [Array.toList_setIfInBounds, List.length_cons]
    have e1 : (cur.toList.set o v).take (o + 1) = cur.toList.take o ++ [v] := by
      rw [List.take_succ_eq_append_getElem (by simpa using hlt), List.take_set_of_le (Nat.le_refl _)]
      simp
    have e2 : (cur.toList.set o v).drop (o + 1 + vs.length) = cur.toList.drop (o + (vs.length + 1)) := by
      rw [List.drop_set_of_lt (by omega), show o + 1 + vs.length = o + (vs.length + 1) from by omega]
    rw [e1, e2]
    simp

theorem chg_setCells (g : Nat) : ∀ (vs : List Value) (o : Nat) (w : World), Chg (· = g) w (w.setCells g o vs)
  | [], _, w => Chg.refl w
  | v :: vs, o, w => (Chg.set w g o v).trans (chg_setCells g vs (o + 1) _)

theorem ext_drewN (w : World) (q : Nat) : Ext w (w.drewN q) := ⟨rfl, rfl, rfl, Nat.le_refl _, fun _ _ => rfl⟩
theorem chg_ext {S : Nat → Prop} {a b c : World} (h : Ext a b) (k : Chg S b c) : Chg S a c := (Chg.of_below h).trans k
theorem ext_chg {S : Nat → Prop} {a b c : World} (h : Chg S a b) (k : Ext b c) : Chg S a c := h.trans (Chg.of_below k)
/-- Only new blocks are written: nothing of the old has turned. -/
theorem Chg.ext {S : Nat → Prop} {w w' : World} (h : Chg S w w') (hs : ∀ k, S k → w.heap.size ≤ k) : Ext w w' := h.below (Nat.le_refl _) hs
end Go.Open
end

section
namespace Go.Row
open Go.RowKit Go.Seg Go.Open Go.Lib Go.WideShapes Go.ChangeShapes

/-- A slice type's row of the table. -/
structure Ty (P : Program) where
  t : TypeId
  e : TypeId
  z : Value
  size : Nat
  bytes : Nat
  ht : P.underlying t = some (.slice e)
  hi : (P.info? e).map (fun i => (i.zero, i.size, i.bytes)) = some (some z, size, bytes)
  hz : z.cells.size = size
  h0 : 0 < size
  hb : bytes ≤ 1000

variable {P : Program} (R : Ty P)
/-- A slice of one's own: its cells. -/
def Own (w : World) (B : Nat) (v : Value) (n : Nat) (xs : List Value) : Prop := w.ownsRow B R.e R.size v n xs

variable {R} {w w' : World} {B : Nat} {v : Value} {n : Nat} {xs : List Value}
theorem Own.ext (h : Own R w B v n xs) (e : Ext w w') : Own R w' B v n xs := own_ext h e
theorem Own.base {B' : Nat} (h : Own R w B v n xs) (hB : B' ≤ B) : Own R w B' v n xs := own_base h hB
theorem Own.lt (h : Own R w B v n xs) : ∀ k, v.ownBlock = some k → B ≤ k ∧ k < w.heap.size := World.ownsRow.lt h
theorem Own.len (h : Own R w B v n xs) : xs.length = n * R.size := h.1
theorem Own.nil (w : World) (B : Nat) : Own R w B (.slice none 0 0) 0 [] := World.ownsRow_nil _ _ _ _
theorem Own.open' (h : Own R w B v n xs) : ∃ (a : Option Addr) (cap b : Nat), v = .slice a n cap ∧ n ≤ cap ∧ cap ≤ maxLen ∧ (0 < n → a = some ⟨b, 0, none⟩) ∧ (0 < n → B ≤ b ∧ b < w.heap.size) ∧
    (∀ W, Ext w W → ∀ j, j < n * R.size → W.cell? ⟨b, j, none⟩ = xs[j]?) := own_open h
theorem Own.val (h : Own R w B v n xs) : ∃ a cap, v = .slice a n cap ∧ (a = none → n = 0 ∧ cap = 0) ∧ n ≤ cap ∧ cap ≤ maxLen := by
  rcases h.2 with ⟨rfl, rfl⟩ | ⟨g, cap, cur, rfl, _, _, h1, h2, _⟩
  · exact ⟨none, 0, rfl, fun _ => ⟨rfl, rfl⟩, Nat.le_refl _, Nat.zero_le _⟩
  · exact ⟨_, cap, rfl, (fun h => by cases h), h1, h2⟩
/-- Another row was appended to: this one stands. -/
theorem Own.kept {u : Value} (h : Own R w B v n xs) (hg : w.grownBy w' u.ownBlock) (hne : ∀ k, v.ownBlock = some k → u.ownBlock ≠ some k) : Own R w' B v n xs := by
  refine World.ownsRow.kept h hg ?_
  cases hv : v.ownBlock with
  | none => exact .inl rfl
  | some k => exact .inr (fun e => hne k hv e.symm)
/-- What an append leaves of an older world. -/
theorem ext_grown {w0 w w' : World} (h : Ext w0 w) (ho : Own R w B v n xs) (hB : w0.heap.size ≤ B) (hg : w.grownBy w' v.ownBlock) : Ext w0 w' :=
  Below.grown h hg h.size (fun j hj => by have := (ho.lt j hj).1; omega)

theorem run_lit0 (R : Ty P) (w : World) : (Instr.buildSlice R.t 0 #[]).run P w = .ok (.slice (some ⟨w.heap.size, 0, none⟩) 0 0) (w.alloc (.cells #[] R.e)) := by
  obtain ⟨i, hi, h1, h2, h3⟩ := info_parts R.hi
  simp [Instr.buildSlice, run_underlying R.ht, sizeOf, typeInfo, hi, Instr.fill, newRow]
  have e : Array.map (fun _ : Nat => (default : Value)) (Array.range 0) = #[] := Array.eq_empty_of_size_eq_zero (by simp)
  rw [e]
theorem run_lit1 (R : Ty P) (w : World) (x : Value) (hx : x.cells.size = R.size) (hs : R.size ≤ 1000) : (Instr.buildSlice R.t 1 #[(0, x)]).run P w = .ok (.slice (some ⟨w.heap.size, 0, none⟩) 1 1) (w.alloc (.cells x.cells R.e)) := by
  obtain ⟨i, hi, h1, h2, h3⟩ := info_parts R.hi
  have hl : ¬ (1 * R.size > 2 ^ 24) := by omega
  have h0 := R.h0
  have hf : ∀ (cs z : Array Value), cs.size = z.size → cs.zipIdx.foldl (fun (acc : Array Value) (p : Value × Nat) => acc.setIfInBounds p.2 p.1) z = cs := by
    intro cs z hcz
    have key : ∀ (l : List Value) (k : Nat) (z : Array Value), k + l.length = z.size → ((l.zipIdx k).foldl (fun (acc : Array Value) (p : Value × Nat) => acc.setIfInBounds p.2 p.1) z).toList = z.toList.take k ++ l := by
      intro l
      induction l with
      | nil => intro k z hk; simp at hk; rw [hk, List.zipIdx_nil, List.foldl_nil, List.append_nil, List.take_of_length_le (by simp)]
      | cons y l ih =>
        intro k z hk
        simp only [List.length_cons] at hk
        rw [List.zipIdx_cons, List.foldl_cons, ih (k + 1) _ (by simp; omega)]
        simp only [Array.toList_setIfInBounds]
        have hlt : k < z.toList.length := by simp; omega
        rw [List.take_succ_eq_append_getElem (by simpa using hlt), List.take_set_of_le (Nat.le_refl _)]
        simp
    apply Array.ext'
    have := key cs.toList 0 z (by simpa using hcz)
    rw [← Array.foldl_toList, Array.toList_zipIdx]
    simpa using this
  have hne : ¬ R.size = 0 := by omega
  simp [Instr.buildSlice, run_underlying R.ht, sizeOf, typeInfo, hi, h1, h2, Instr.fill, newRow, zeroValue, hx, hne, R.hz]
  rw [if_neg (by omega)]
  have e := hf x.cells (Array.map (fun y => R.z.cells[y % R.size]!) (Array.range R.size)) (by simp [hx])
  rw [Array.size_zipIdx, hx] at e
  rw [e]
/-- A new block of one element. -/
theorem own_lit (R : Ty P) (w : World) (cs : Array Value) (h : cs.size = R.size) : Own R (w.alloc (.cells cs R.e)) w.heap.size (.slice (some ⟨w.heap.size, 0, none⟩) 1 1) 1 cs.toList :=
  ⟨by rw [Array.length_toList, h, Nat.one_mul], .inr ⟨w.heap.size, 1, cs, rfl, Nat.le_refl _, heap_alloc_new w _, Nat.le_refl _, by decide, by rw [h, Nat.one_mul], by rw [Nat.one_mul, ← h]; exact List.take_length⟩⟩
/-- An empty literal. -/
theorem wpList_lit0 (R : Ty P) (w : World) {ops : Array Oper} {rest : List Oper} {o : Oper} {a : Act} {Q : Exit → Act → World → Prop} (hgd : o.guard = none) (ho : o.op = .buildSlice R.t 0 #[])
    (h : ∀ a' cap w', Own R w' w.heap.size (.slice a' 0 cap) 0 [] → Ext w w' → wpList P ops Q rest (a.put o.dst (.slice a' 0 cap)) w') : wpList P ops Q (o :: rest) a w := by
  refine wpList_plain hgd fun K hK => ?_
  unfold Oper.wp
  simp [execOp, ho, run_lit0 R w, Result.andThen]
  exact hK _ _ (h _ 0 _ ⟨by simp, .inr ⟨w.heap.size, 0, #[], rfl, Nat.le_refl _, heap_alloc_new w _, Nat.le_refl _, Nat.zero_le _, by simp, by simp⟩⟩ ((Below.refl _ _).alloc (Nat.le_refl _) _))
/-- A literal of one. -/
theorem wpList_lit1 (R : Ty P) (w : World) {ops : Array Oper} {rest : List Oper} {o : Oper} {a : Act} {Q : Exit → Act → World → Prop} (hgd : o.guard = none) (x : Operand) (ho : o.op = .buildSlice R.t 1 #[(0, x)])
    (u : Value) (hu : a.eval x = u) (hx : u.cells.size = R.size) (hs : R.size ≤ 1000)
    (h : ∀ a' cap w', Own R w' w.heap.size (.slice a' 1 cap) 1 u.cells.toList → Ext w w' → wpList P ops Q rest (a.put o.dst (.slice a' 1 cap)) w') : wpList P ops Q (o :: rest) a w := by
  refine wpList_plain hgd fun K hK => ?_
  unfold Oper.wp
  simp [execOp, ho, hu, run_lit1 R w u hx hs, Result.andThen]
  exact hK _ _ (h _ 1 _ ⟨by simp [hx], .inr ⟨w.heap.size, 1, u.cells, rfl, Nat.le_refl _, heap_alloc_new w _, Nat.le_refl _, by decide, by rw [hx, Nat.one_mul], by rw [Nat.one_mul, ← hx]; exact List.take_length⟩⟩ ((Below.refl _ _).alloc (Nat.le_refl _) _))
theorem run_app (R : Ty P) (w : World) (ty : TypeId) {B : Nat} {v : Value} {n : Nat} {xs : List Value} (hown : Own R w B v n xs) (ao : Option Addr) (m c : Nat) (news : List Value) (hl : news.length = m * R.size) (hnone : ao = none → m = 0 ∧ c = 0)
    (hc : ∀ ad, ao = some ad → ∀ j, j < m * R.size → w.cell? (ad.add j) = news[j]?) (h1 : ∀ u ∈ news, u.oneCell' = true) (h63 : n + m ≤ 1000000) (hbase : B ≤ w.heap.size) :
    ∃ v' w', (Builtin.append_ #[R.t, R.t] ty #[v, .slice ao m c]).run P w = .ok v' w' ∧ Own R w' B v' (n + m) (xs ++ news) ∧ w.grownBy w' v.ownBlock := by
  obtain ⟨i0, hi, hz0, hz1, hz2⟩ := info_parts R.hi
  have hb := R.hb
  cases ao with
  | none =>
    obtain ⟨rfl, rfl⟩ := hnone rfl
    have : news = [] := List.eq_nil_of_length_eq_zero (by simpa using hl)
    subst this
    exact ⟨v, w, run_append_owned_none w B R.t ty R.e i0 R.size R.ht hi v n xs hown, by simpa using hown, ⟨rfl, rfl, rfl, Nat.le_refl _, fun _ _ _ => rfl⟩⟩
  | some ad =>
    have hmb : (n + m) * R.bytes ≤ 1000000 * 1000 := Nat.mul_le_mul h63 hb
    obtain ⟨v', w', h2, h3, h4, _⟩ := run_append_own w B R.t ty R.e i0 R.z R.size R.bytes R.ht hi hz0 hz1 hz2 R.hz R.h0 v n xs hown ad m c news hl
      (fun j u hj => by
        obtain ⟨hj1, _⟩ := List.getElem?_eq_some_iff.1 hj
        rw [hc ad rfl j (by omega)]
        exact hj) h1 (by unfold maxLen; omega) (by omega) hbase
    exact ⟨v', w', h2, h3, h4⟩
/-- An append of what is known cell by cell. -/
theorem wpList_app (R : Ty P) (w : World) {ops : Array Oper} {rest : List Oper} {o : Oper} {a : Act} {Q : Exit → Act → World → Prop} (hgd : o.guard = none) (s x : Operand)
    (ho : o.op = .call { callee := .builtin .append, args := #[s, x], argTypes := #[R.t, R.t] }) (B : Nat) (v : Value) (n : Nat) (xs : List Value) (hs : a.eval s = v) (hown : Own R w B v n xs) (ao : Option Addr) (m c : Nat) (news : List Value) (hx : a.eval x = .slice ao m c) (hl : news.length = m * R.size) (hnone : ao = none → m = 0 ∧ c = 0)
    (hc : ∀ ad, ao = some ad → ∀ j, j < m * R.size → w.cell? (ad.add j) = news[j]?) (h1 : ∀ u ∈ news, u.oneCell' = true) (h63 : n + m ≤ 1000000) (hbase : B ≤ w.heap.size)
    (h : ∀ a' cap w', Own R w' B (.slice a' (n + m) cap) (n + m) (xs ++ news) → w.grownBy w' v.ownBlock → wpList P ops Q rest (a.put o.dst (.slice a' (n + m) cap)) w') : wpList P ops Q (o :: rest) a w := by
  refine wpList_plain hgd fun K hK => ?_
  obtain ⟨v', w', hr, h2, h3⟩ := run_app R w o.type hown ao m c news hl hnone hc h1 h63 hbase
  obtain ⟨a', cap, rfl, _⟩ := h2.val
  unfold Oper.wp execOp
  simp only [ho, resolve, invoke, builtin, Sem.run_bind, Sem.run_pure, Result.andThen_ok, List.map_toArray, List.map_cons, List.map_nil, hs, hx, hr]
  exact hK _ _ (h a' cap w' h2 h3)
/-- What a row holds, as an append reads it. -/
theorem Own.news {B : Nat} {ao : Option Addr} {m c : Nat} {news : List Value} (h : Own R w B (.slice ao m c) m news) : ∀ ad, ao = some ad → ∀ j, j < m * R.size → w.cell? (ad.add j) = news[j]? := by
  intro ad hao j hj
  rcases h.2 with ⟨hv, hm⟩ | ⟨g, cap, cur, hv, _, hh, h1, h2, h3, h4⟩
  · simp only [hm, Nat.zero_mul] at hj; omega
  · simp only [Value.slice.injEq] at hv
    obtain ⟨hv1, -, -⟩ := hv
    subst hao
    cases hv1
    rw [add_plain, Nat.zero_add, cell_of_row w g j cur R.e (0, 0) hh, ← h4, List.getElem?_take, if_pos hj]
    simp
theorem Own.none' {B : Nat} {ao : Option Addr} {m c : Nat} {news : List Value} (h : Own R w B (.slice ao m c) m news) : ao = none → m = 0 ∧ c = 0 := by
  intro hao
  obtain ⟨a, cap, hv, hn, _⟩ := h.val
  simp only [Value.slice.injEq] at hv
  obtain ⟨rfl, -, rfl⟩ := hv
  exact hn hao
/-- An append of another row of one's own. -/
theorem wpList_app2 (R : Ty P) (w : World) {ops : Array Oper} {rest : List Oper} {o : Oper} {a : Act} {Q : Exit → Act → World → Prop} (hgd : o.guard = none) (s x : Operand)
    (ho : o.op = .call { callee := .builtin .append, args := #[s, x], argTypes := #[R.t, R.t] }) (B : Nat) (v : Value) (n : Nat) (xs : List Value) (hs : a.eval s = v) (hown : Own R w B v n xs) (B' : Nat) (u : Value) (m : Nat) (news : List Value) (hx : a.eval x = u) (hu : Own R w B' u m news)
    (h1 : ∀ u ∈ news, u.oneCell' = true) (h63 : n + m ≤ 1000000) (hbase : B ≤ w.heap.size)
    (h : ∀ a' cap w', Own R w' B (.slice a' (n + m) cap) (n + m) (xs ++ news) → w.grownBy w' v.ownBlock → wpList P ops Q rest (a.put o.dst (.slice a' (n + m) cap)) w') : wpList P ops Q (o :: rest) a w := by
  obtain ⟨ao, c, rfl, _⟩ := hu.val
  exact wpList_app R w hgd s x ho B v n xs hs hown ao m c news hx hu.len hu.none' hu.news h1 h63 hbase h
/-- In a fence: an append of a literal of one. -/
theorem wpListIn_app1 {F : Fence} {k : Nat} (R : Ty P) (w : World) {ops : Array Oper} {rest : List Oper} {o : Oper} {a : Act} {Q : Exit → Act → World → Prop} (hgd : o.guard = none) (s x : Operand)
    (ho : o.op = .call { callee := .builtin .append, args := #[s, x], argTypes := #[R.t, R.t] }) (B : Nat) (v : Value) (n : Nat) (xs : List Value) (hs : a.eval s = v) (hown : Own R w B v n xs) (B' g c : Nat) (news : List Value) (hx : a.eval x = .slice (some ⟨g, 0, none⟩) 1 c) (hu : Own R w B' (.slice (some ⟨g, 0, none⟩) 1 c) 1 news)
    (h1 : ∀ u ∈ news, u.oneCell' = true) (h63 : n + 1 ≤ 1000000) (hbase : B ≤ w.heap.size)
    (h : ∀ a' cap w', Own R w' B (.slice a' (n + 1) cap) (n + 1) (xs ++ news) → w.grownBy w' v.ownBlock → wpListIn F k P ops Q rest (a.put o.dst (.slice a' (n + 1) cap)) w') : wpListIn F k P ops Q (o :: rest) a w := by
  obtain ⟨i0, hi, hz0, hz1, hz2⟩ := info_parts R.hi
  have hb := R.hb
  have hmb : (n + 1) * R.bytes ≤ 1000000 * 1000 := Nat.mul_le_mul h63 hb
  refine wpListIn_append_own w hgd s x R.t ho B R.e i0 R.z R.size R.bytes R.ht hi hz0 hz1 hz2 R.hz R.h0 v n xs hs hown ⟨g, 0, none⟩ 1 c news hx hu.len
    (fun j u hj => by
      obtain ⟨hj1, _⟩ := List.getElem?_eq_some_iff.1 hj
      rw [hu.news _ rfl j (by have := hu.len; omega)]
      exact hj) h1 (by unfold maxLen; omega) (by omega) hbase (fun v' w' h2 h3 _ => ?_)
  have h2' : Own R w' B v' (n + 1) (xs ++ news) := h2
  obtain ⟨a', cap, rfl, _⟩ := h2'.val
  exact h a' cap w' h2 h3
end Go.Row
end

section
namespace Go.Open
open Go.RowKit Go.Seg
variable {P : Program}

/-- All cells of a block at once: a rewriting for every place. -/
theorem Blk.cells {w : World} {b : Nat} {cs : Array Value} {E : TypeId} (h : Blk w b cs E) (i : Nat) : w.cell? ⟨b, i, none⟩ = cs[i]? := cell_of_row _ _ i cs E (0, 0) h
theorem struct_load {W : World} {b : Nat} {c : Array Value} {E : TypeId} (hB : Blk W b c E) (n : Nat) (hn : c.size = n) : (loadCellsFrom ⟨b, 0, none⟩ 0 n #[]).run P W = .ok c W := by
  subst hn
  have := run_loadCells_list (P := P) W ⟨b, 0, none⟩ c.toList (fun j v hv => by
    have hadd : (⟨b, 0, none⟩ : Addr).add j = ⟨b, j, none⟩ := by unfold Addr.add; split <;> simp_all
    rw [hadd, cell_of_row _ _ j c E (0, 0) hB]
    simpa using hv)
  simpa [loadCells] using this

theorem struct_store {W : World} {b : Nat} {c : Array Value} (c' : Array Value) {E : TypeId} (hB : Blk W b c E) (hi : (P.info? E).map (·.size) = some c'.size) (ho : c.size = c'.size) (h1 : c'.all (·.oneCell') = true) :
    ∃ W', (storeCells ⟨b, 0, none⟩ c'.toList 0).run P W = .ok () W' ∧ Blk W' b c' E ∧ Chg (· = b) W W' := by
  have h := run_storeVar_row (P := P) W b E E c c' hB hi ho h1
  refine ⟨W.setRow b c', ?_, ?_, ?_⟩
  · cases hq : P.info? E with
    | none => simp [hq] at hi
    | some i =>
      have hs : c'.size = i.size := by simp [hq] at hi; omega
      simpa [storeVar, sizeOf, typeInfo, hq, Value.cells, hs] using h
  · exact setRow_heap W b c c' E (0, 0) hB
  · refine ⟨rfl, rfl, rfl, by simp [World.setRow], fun k hk hne => ?_⟩
    simp only [World.setRow, Array.getElem?_modify]
    rw [if_neg (fun e => hne e.symm)]

/-- What has changed besides lies in a block that is new. -/
theorem Chg.onNew {S : Nat → Prop} {w a c : World} (h : Chg S w a) {j : Nat} (k : Chg (· = j) a c) (hj : w.heap.size ≤ j) : Chg S w c :=
  ⟨k.os.trans h.os, k.tape.trans h.tape, k.output.trans h.output, Nat.le_trans h.size k.size, fun i hi hs => (k.block i (Nat.lt_of_lt_of_le hi h.size) (fun e => by omega)).trans (h.block i hi hs)⟩
theorem Chg.set6 (w : World) (b : Nat) (a0 a1 a2 a3 a4 a5 : Value) :
    Chg (· = b) w ((((((w.setCell ⟨b, 0, none⟩ a0).setCell ⟨b, 1, none⟩ a1).setCell ⟨b, 2, none⟩ a2).setCell ⟨b, 3, none⟩ a3).setCell ⟨b, 4, none⟩ a4).setCell ⟨b, 5, none⟩ a5) :=
  (((((Chg.set w b 0 a0).trans (Chg.set _ b 1 a1)).trans (Chg.set _ b 2 a2)).trans (Chg.set _ b 3 a3)).trans (Chg.set _ b 4 a4)).trans (Chg.set _ b 5 a5)
/-- Six cells stored, one by one. -/
theorem Blk.set6 {w : World} {b : Nat} {cs : Array Value} {E : TypeId} (h : Blk w b cs E) (hn : cs.size = 6) (a0 a1 a2 a3 a4 a5 : Value) :
    Blk ((((((w.setCell ⟨b, 0, none⟩ a0).setCell ⟨b, 1, none⟩ a1).setCell ⟨b, 2, none⟩ a2).setCell ⟨b, 3, none⟩ a3).setCell ⟨b, 4, none⟩ a4).setCell ⟨b, 5, none⟩ a5) b #[a0, a1, a2, a3, a4, a5] E := by
  obtain ⟨l⟩ := cs
  match l, hn with
  | [x0, x1, x2, x3, x4, x5], _ =>
    exact (((((h.set 0 a0 rfl).set 1 a1 rfl).set 2 a2 rfl).set 3 a3 rfl).set 4 a4 rfl).set 5 a5 rfl

theorem Blk.set6a {w : World} {b : Nat} {cs : Array Value} {E : TypeId} (h : Blk w b cs E) (hn : cs.size = 6) (a0 a1 a2 a3 a4 a5 : Value) (o : Obj) :
    Blk (((((((w.setCell ⟨b, 0, none⟩ a0).setCell ⟨b, 1, none⟩ a1).setCell ⟨b, 2, none⟩ a2).setCell ⟨b, 3, none⟩ a3).setCell ⟨b, 4, none⟩ a4).setCell ⟨b, 5, none⟩ a5).alloc o) b #[a0, a1, a2, a3, a4, a5] E :=
  (Blk.set6 h hn a0 a1 a2 a3 a4 a5).ext ((Below.refl _ _).alloc (Nat.le_refl _) _)

theorem Ext.set6a {w0 w : World} {b : Nat} (h : Ext w0 w) (hb : w0.heap.size ≤ b) (a0 a1 a2 a3 a4 a5 : Value) (o : Obj) :
    Ext w0 (((((((w.setCell ⟨b, 0, none⟩ a0).setCell ⟨b, 1, none⟩ a1).setCell ⟨b, 2, none⟩ a2).setCell ⟨b, 3, none⟩ a3).setCell ⟨b, 4, none⟩ a4).setCell ⟨b, 5, none⟩ a5).alloc o) := by
  have hs := Below.size h
  refine Below.alloc ?_ (by simpa using hs) _
  exact (((((Below.setCell h hb _).setCell hb _).setCell hb _).setCell hb _).setCell hb _).setCell hb _
theorem Ext.set6 {w0 w : World} {b : Nat} (h : Ext w0 w) (hb : w0.heap.size ≤ b) (a0 a1 a2 a3 a4 a5 : Value) :
    Ext w0 ((((((w.setCell ⟨b, 0, none⟩ a0).setCell ⟨b, 1, none⟩ a1).setCell ⟨b, 2, none⟩ a2).setCell ⟨b, 3, none⟩ a3).setCell ⟨b, 4, none⟩ a4).setCell ⟨b, 5, none⟩ a5) :=
  (((((Below.setCell h hb _).setCell hb _).setCell hb _).setCell hb _).setCell hb _).setCell hb _

/-- The results of a function: a struct out of its block, and a slot. -/
theorem results_struct {fn : Func} {p u : Tmp} {ty : TypeId} (h : fn.results = #[.cell p ty, .tmp u]) {tmps : Array Value} {k : Nat} {c : Array Value} {W : World} {x : Value}
    (hp : tmps.getD p undef = .pointer (some ⟨k, 0, none⟩)) (hx : tmps.getD u undef = x) (hB : Blk W k c ty)
    (hd : (match P.underlying ty with | some (.struct _) | some (.array _ _) => true | _ => false) = true) (hi : (P.info? ty).map (·.size) = some c.size) :
    (results fn tmps).run P W = .ok (.tuple #[.agg c, x]) W := by
  rw [results_cell_tmp h, hp, hx]
  simp only [asAddr, Sem.run_pure, Result.andThen]
  cases hu : P.underlying ty with
  | none => simp [hu] at hd
  | some d =>
  rw [run_loadVar_row W k ty ty c (0, 0) d hB hu (by rw [hu] at hd; cases d <;> first | rfl | exact hd) hi]
end Go.Open
end
