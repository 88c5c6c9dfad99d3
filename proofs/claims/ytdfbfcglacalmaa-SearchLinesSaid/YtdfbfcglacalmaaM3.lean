/-
  A region that draws its order, walked in the order of the text, INSIDE THE WIDE FENCE: Seg's walk, rule for rule (the laws of Derived.OrdersIn and Derived.OrdersHeld in place of the plain ones): so a call of a yield is walked, too. No program in sight; no condition.
  A region that draws its order, walked in the order of the text, IN A ROUND INSIDE THE WIDE FENCE: Seg's walk, rule for rule (the laws of Derived.OrdersIn and Derived.OrdersHeld in place of the plain ones): so a call of a yield is walked, too. No program in sight; no condition.
  Package prog: the places of a call's own numbers, as an iterator. No condition.
  A region that draws its order, walked in the order of the text, IN A ROUND INSIDE THE WIDE FENCE: Seg's walk, rule for rule (the laws of Derived.OrdersIn and Derived.OrdersHeld in place of the plain ones): so a call of a yield is walked, too. No program in sight; no condition.
  Package prog: a call with its own numbers alone. No condition.
  Package prog: which calls are right; the document's answer for it. No condition.
  The document's answer for which calls are right; the names of the kinds; a call's own numbers. No condition.
  Histories: rows of calls that are read; which call is ahead of another, whether its steps are in order, whether two are apart. No condition.
  Histories: whether a row of calls is right, whether all have ended, how many pairs are swapped: the program's side. At most 60 calls; no other condition.
  Histories: the calls that are asked for, by a number of each. At most 60 calls; no other condition.
  Histories: Counted, Order, Of, Swaps; the document's Right and Swaps. At most 60 calls; no other condition.
-/
import Derived.Test.YtdfbfcglacalmaaM1
import Derived.OrdersIn
import Derived.OrdersHeld
import Derived.TacticsIn
import Derived.OwnWalkIn
import Derived.Test.YtdfbfcglacalmaaProg
import Derived.WalkKit
import Derived.BigRegion
import Derived.BigQuiet
import Derived.RangeFuncNested
import Derived.RangeFuncBound
import Derived.RangeFuncCalls
import Derived.RangeFuncLeaves
import Derived.Shelf.Abstract
import Derived.Shelf.RegionOpen
import Derived.TacticsInMore
import Derived.LoopNIn
import Derived.LoopIn
import Derived.Test.YtdfbfcglacalmaaM2
import Derived.Lib.Hide
section
namespace Go.Seg
open Go.RowKit
section
variable {P : Program} {ops : Array Oper} {Q : Exit → Act → World → Prop} {md : Region.Mode} {n n₀ d : Nat} {S : World → Prop} {kind : Program → Oper → Bool}

theorem YieldsIf.wpOpInW {i : Nat} {o : Oper} {v : Value} {a : Act} (hi : ops[i]? = some o) (hy : YieldsIf P ops S o v a)
    {K : Act → World → Prop} {w : World} (hS : S w) (h : K (a.put o.dst v) w) : wpOpIn Fence.wide d P ops Q i K a w := by
  unfold Go.wpOpIn
  simp only [hi]
  rcases hy with ⟨hw, hv⟩ | ⟨hw, rfl⟩
  · simp only [hw, if_true]
    refine ⟨fun _ _ => trivial, ?_⟩
    show Oper.uponIn _ _ _ _ _ _ _ ((execOp a.eval o).run P w)
    rw [hv w hS]
    exact h
  · simp only [hw, Bool.false_eq_true, if_false]; exact ⟨fun _ _ => trivial, h⟩

theorem wpOpIn_putIf {j : Nat} {oi oj : Oper} {v : Value} (hj : ops[j]? = some oj) (hap : oi.apart ops oj = true)
    (hsi : ∀ cs b, oi.op ≠ .select cs b) (hsj : ∀ cs b, oj.op ≠ .select cs b)
    (hQ : ∀ c a w, Q (.panic c) (a.put oi.dst v) w → Q (.panic c) a w) {K : Act → World → Prop} {a : Act} {w : World}
    (hy : YieldsIf P ops S oi v a) (h : wpOpIn Fence.wide d P ops Q j K (a.put oi.dst v) w) :
    wpOpIn Fence.wide d P ops Q j (fun a' w' => YieldsIf P ops S oi v a' ∧ K (a'.put oi.dst v) w') a w := by
  obtain ⟨h1, h2, h3⟩ := Oper.apart_spec hap
  have keep : ∀ (a : Act), YieldsIf P ops S oi v a → ∀ u, YieldsIf P ops S oi v (a.put oj.dst u) := fun a hy u =>
    hy.of_same (execOp_put oi hsi a oj.dst u h3) (wanted_put oi a oj.dst u h3)
  have keepD : ∀ x, YieldsIf P ops S oi v { a with defers := x :: a.defers } := fun x => hy.of_same rfl rfl
  unfold wpOpIn at *
  simp only [hj] at *
  rw [wanted_put oj a oi.dst v h1] at h
  split
  · rename_i hw
    simp only [hw, if_true] at h
    refine ⟨fun _ _ => trivial, ?_⟩
    have h := h.2
    change Oper.uponIn _ _ _ _ _ _ _ ((execOp (a.put oi.dst v).eval oj).run P w) at h
    change Oper.uponIn _ _ _ _ _ _ _ ((execOp a.eval oj).run P w)
    rw [execOp_put oj hsj a oi.dst v h1] at h
    generalize (execOp a.eval oj).run P w = r at *
    cases r with
    | ok x w' =>
      cases x <;> simp only [Oper.uponIn] at h ⊢
      case value u => exact ⟨keep a hy u, by rw [← Act.put_comm a v u h2]; exact h⟩
      case skip => exact ⟨keep a hy _, by rw [← Act.put_comm a v undef h2]; exact h⟩
      case defer x =>
        refine ⟨keep _ (keepD x) _, ?_⟩
        rw [← Act.put_comm _ v undef h2, ← Act.put_defers]
        exact h
      case enter f args =>
        refine ⟨h.1, CallsIn.mono h.2 fun e w'' he => ?_⟩
        cases e with
        | returned u => exact ⟨keep a hy u, by rw [← Act.put_comm a v u h2]; exact he⟩
        | panicked c => exact hQ _ _ _ he
        | outgrown => exact he
      case row row args => exact ⟨h.1, RowsIn.mono h.2 fun u w'' he => ⟨keep a hy u, by rw [← Act.put_comm a v u h2]; exact he⟩⟩
      case round l f tmps asg bd =>
        refine ⟨h.1, RoundIn.mono h.2 fun e w'' he => ?_⟩
        cases e with
        | returned u => exact ⟨keep a hy u, by rw [← Act.put_comm a v u h2]; exact he⟩
        | panicked c => exact hQ _ _ _ he
        | outgrown => exact he
    | halt x w' =>
      cases x <;> simp only [Oper.uponIn] at h ⊢
      case panic u => exact hQ _ _ _ h
  · rename_i hw
    simp only [hw] at h
    exact ⟨fun _ _ => trivial, keep a hy _, by rw [← Act.put_comm a v undef h2]; exact h.2⟩

/-- Where one call ends, what lay below n₀ being left. -/
def FEndB (n₀ : Nat) (bar : Bool) (w : World) (K : Act → World → Prop) : Exit → Act → World → Prop
  | .normal, a', w' => (bar = false → Below n₀ w w') ∧ K a' w'
  | _, _, _ => False

/-- THE WALK, inside the wide fence: as Segs; the calls by the fence's rules. -/
def SegsI (n₀ d : Nat) (P : Program) (ops : Array Oper) (Q : Exit → Act → World → Prop) : List (List Bool × Bool) → List Oper → Act → World → Prop
  | [], _, a, w => Q .normal a w
  | (m, bar) :: ms, l, a, w => ∃ aE, (∀ W, Below n₀ w W → wpList P ops (QEnd aE W) (pick m l) a W) ∧
      match left m l with
      | [] => Q .normal aE w
      | o :: l' => wpListIn Fence.wide d P ops (FEndB n₀ bar w (SegsI n₀ d P ops Q ms l')) [o] aE w

/-- Whatever order is picked; each of the first n operations leaves the old blocks. -/
def wpAnyTI (d : Nat) (P : Program) (md : Region.Mode) (ops : Array Oper) (Q : Exit → Act → World → Prop) (n : Nat) (C : World → Prop) : Nat → Array Bool → Act → World → Prop
  | 0, listed, a, w => Region.ready md ops listed = [] ∧ Q .normal a w
  | fuel + 1, listed, a, w =>
    (Region.ready md ops listed = [] → Q .normal a w) ∧
    ∀ i ∈ Region.ready md ops listed, wpOpIn Fence.wide d P ops Q i (fun a' w' => (i < n → C w') ∧ wpAnyTI d P md ops Q n C fuel (listed.setIfInBounds i true) a' w') a w


theorem wpAnyIn_of_T {C : World → Prop} : ∀ (fuel : Nat) (listed : Array Bool) (a : Act) (w : World), wpAnyTI d P md ops Q n C fuel listed a w → wpAnyIn Fence.wide d P md ops Q fuel listed a w
  | 0, _, _, _, h => h
  | fuel + 1, _, _, _, h => ⟨h.1, fun i hi => wpOpIn_mono (fun a' w' h' => wpAnyIn_of_T fuel _ a' w' h'.2) (h.2 i hi)⟩

theorem wpAnyTI_mono {C C' : World → Prop} (hC : ∀ w, C w → C' w) : ∀ (fuel : Nat) (listed : Array Bool) (a : Act) (w : World), wpAnyTI d P md ops Q n C fuel listed a w → wpAnyTI d P md ops Q n C' fuel listed a w
  | 0, _, _, _, h => h
  | fuel + 1, _, _, _, h => ⟨h.1, fun i hi => wpOpIn_mono (fun a' w' h' => ⟨fun hn => hC _ (h'.1 hn), wpAnyTI_mono hC fuel _ a' w' h'.2⟩) (h.2 i hi)⟩

/-- Once the first n are over the class matters no more. -/
theorem wpAnyTI_late {C C' : World → Prop} : ∀ (fuel : Nat) (listed : Array Bool) (a : Act) (w : World), (∀ j, j < n → listed.getD j true = true) → wpAnyTI d P md ops Q n C fuel listed a w → wpAnyTI d P md ops Q n C' fuel listed a w
  | 0, _, _, _, _, h => h
  | fuel + 1, listed, _, _, hl, h => by
    refine ⟨h.1, fun i hi => wpOpIn_mono (fun a' w' h' => ⟨fun hn => ?_, wpAnyTI_late fuel _ a' w' (fun j hj => ?_) h'.2⟩) (h.2 i hi)⟩
    · have h1 := (mem_ready.1 hi).1
      rw [hl i hn] at h1
      cases h1
    · by_cases hij : i = j
      · subst hij
        rcases Nat.lt_or_ge i listed.size with h2 | h2 <;> simp [h2]
      · rw [getD_set_ne true hij]; exact hl j hj

/-- A looking operation of the first n that may come up now may be taken first. -/
theorem wpAnyTI_first {C : World → Prop} {i : Nat} {oi : Oper} {v : Value} (hi : ops[i]? = some oi) (hsel : ∀ (j : Nat) (o : Oper) cs b, ops[j]? = some o → o.op ≠ .select cs b)
    (hQ : ∀ c a w, Q (.panic c) (a.put oi.dst v) w → Q (.panic c) a w)
    (htail : ∀ (j : Nat) (o : Oper), ops[j]? = some o → n ≤ j → anc md ops 4 j i = true) :
    ∀ (fuel : Nat) (listed : Array Bool) (a : Act) (w : World), Closed md ops listed →
      (∀ j oj, ops[j]? = some oj → j ≠ i → listed.getD j true = false → (∀ e ∈ oj.after, Region.binds md e = true → e.on ≠ i) → oi.apart ops oj = true) →
      i ∈ Region.ready md ops listed → YieldsIf P ops C oi v a → C w →
      wpAnyTI d P md ops Q n C fuel (listed.setIfInBounds i true) (a.put oi.dst v) w → wpAnyTI d P md ops Q n C (fuel + 1) listed a w := by
  intro fuel
  induction fuel with
  | zero =>
    intro listed a w _ _ hr hy hC H
    refine ⟨fun h => (by rw [h] at hr; cases hr), fun j hj => ?_⟩
    by_cases hji : j = i
    · subst hji; exact YieldsIf.wpOpInW hi hy hC ⟨fun _ => hC, H⟩
    · have := ready_mono hj hji
      rw [H.1] at this
      cases this
  | succ fuel ih =>
    intro listed a w hcl hfree hr hy hC H
    refine ⟨fun h => (by rw [h] at hr; cases hr), fun j hj => ?_⟩
    by_cases hji : j = i
    · subst hji; exact YieldsIf.wpOpInW hi hy hC ⟨fun _ => hC, H⟩
    · have h1 := H.2 j (ready_mono hj hji)
      obtain ⟨hjun, oj, hoj, hall⟩ := mem_ready.1 hj
      have hun : listed.getD i false ≠ true := fun h1 => by
        have h0 := (mem_ready.1 hr).1
        rcases Nat.lt_or_ge i listed.size with h' | h'
        · simp [h'] at h0 h1; rw [h0] at h1; cases h1
        · simp [Array.getElem?_eq_none h'] at h1
      have hjn : j < n := by
        rcases Nat.lt_or_ge j n with h | h
        · exact h
        · exact absurd (anc_listed hcl 4 j i oj hoj hall (htail j oj hoj h)) hun
      have hnot : ∀ e ∈ oj.after, Region.binds md e = true → e.on ≠ i := fun e he hb heq => hun (heq ▸ hall e he hb)
      have h2 := wpOpIn_putIf hoj (hfree j oj hoj hji hjun hnot) (fun cs b => hsel i oi cs b hi) (fun cs b => hsel j oj cs b hoj) hQ hy h1
      have hfree' : ∀ k ok, ops[k]? = some ok → k ≠ i → (listed.setIfInBounds j true).getD k true = false →
          (∀ e ∈ ok.after, Region.binds md e = true → e.on ≠ i) → oi.apart ops ok = true := fun k ok hk hki hun hno => by
        refine hfree k ok hk hki ?_ hno
        by_cases hjk : j = k
        · subst hjk; exact hjun
        · rw [getD_set_ne true hjk] at hun; exact hun
      refine wpOpIn_mono (fun a' w' h3 => ⟨h3.2.1, ih (listed.setIfInBounds j true) a' w' (hcl.set hj) hfree' (ready_mono hr (Ne.symm hji)) h3.1 (h3.2.1 hjn) ?_⟩) h2
      rw [Array.setIfInBounds_comm _ _ hji]
      exact h3.2.2

theorem uponIn_mono2 {F : Fence} {o : Oper} {a : Act} {K K' : Act → World → Prop} {Q Q' : Exit → Act → World → Prop} (hK : ∀ a' w', a'.tmps.size = a.tmps.size → K a' w' → K' a' w') (hQ : ∀ e a w, e ≠ .normal → Q e a w → Q' e a w) {r : Result Next}
    (h : o.uponIn F d P a K Q r) : o.uponIn F d P a K' Q' r := by
  have hl : LetsOut Q → LetsOut Q' := fun ⟨a, w, h⟩ => ⟨a, w, hQ _ _ _ (by simp) h⟩
  cases r with
  | ok x w' =>
    cases x <;> simp only [Oper.uponIn] at h ⊢
    case value v => exact hK _ _ Act.put_size h
    case skip => exact hK _ _ Act.put_size h
    case defer x => exact hK _ _ Act.put_size h
    case enter f args =>
      refine ⟨h.1, CallsIn.mono h.2 fun e w'' he => ?_⟩
      cases e with
      | returned v => exact hK _ _ Act.put_size he
      | panicked c => exact hQ _ _ _ (by simp) he
      | outgrown => exact hl he
    case row row args => exact ⟨h.1, RowsIn.mono h.2 fun v w'' he => hK _ _ Act.put_size he⟩
    case round l f tmps asg bd =>
      refine ⟨h.1, RoundIn.mono h.2 fun e w'' he => ?_⟩
      cases e with
      | returned v => exact hK _ _ Act.put_size he
      | panicked c => exact hQ _ _ _ (by simp) he
      | outgrown => exact hl he
  | halt x w' =>
    cases x <;> simp only [Oper.uponIn] at h ⊢
    case panic v => exact hQ _ _ _ (by simp) h

theorem wpOpIn_of_one {i : Nat} {o : Oper} (hi : ops[i]? = some o) {bar : Bool} {w : World} {K K' : Act → World → Prop} {a : Act} (hK : ∀ a' w', a'.tmps.size = a.tmps.size → (bar = false → Below n₀ w w') → K a' w' → K' a' w')
    (h : wpListIn Fence.wide d P ops (FEndB n₀ bar w K) [o] a w) : wpOpIn Fence.wide d P ops Q i K' a w := by
  unfold wpOpIn
  simp only [hi]
  unfold wpListIn at h
  split
  · rename_i hw
    simp only [hw, if_true] at h
    exact ⟨h.1, uponIn_mono2 (fun a' w' hs hk => hK a' w' hs hk.1 hk.2) (fun e a w he hq => by cases e <;> first | exact absurd rfl he | exact hq.elim) h.2⟩
  · rename_i hw
    simp only [hw] at h
    exact ⟨h.1, hK _ _ Act.put_size h.2.1 h.2.2⟩

theorem wpAnyTI_quiets (hkind : ∀ o, kind P o = true → Quiet P o) (hs : Region.noSelect ops = true) (hQ : ∀ c a a' w, Q (.panic c) a w → Q (.panic c) a' w) (htail : okTail md ops n = true) {C : World → Prop} {aE : Act} {w : World} (hC : C w) (get : Nat → Oper) :
    ∀ (q : List Nat) (listed : Array Bool) (a : Act) (fuel : Nat), Closed md ops listed → (∀ i ∈ q, ops[i]? = some (get i)) → okQuiet P kind md ops n q listed = true → dstsOk ops a.tmps.size = true →
      (∀ W, C W → wpList P ops (QEnd aE W) (q.map get) a W) → (aE.tmps.size = a.tmps.size → Closed md ops (mark listed q) → wpAnyTI d P md ops Q n C fuel (mark listed q) aE w) → wpAnyTI d P md ops Q n C (fuel + q.length) listed a w
  | [], listed, a, fuel, hcl, _, _, _, hw, hk => by
    obtain ⟨h1, _⟩ := hw w hC
    subst h1
    exact hk rfl hcl
  | i :: q, listed, a, fuel, hcl, hget, hok, hd, hw, hk => by
    have hi := hget i (by simp)
    simp only [okQuiet, hi, Bool.and_eq_true, decide_eq_true_eq] at hok
    obtain ⟨⟨⟨⟨h1, h2⟩, h3⟩, h4, h5⟩, h6⟩ := hok
    cases hdst : (get i).dst with
    | none => rw [hdst] at h5; cases h5
    | some d =>
      rw [hdst] at h5
      have h5' : q.all (fun j => match ops[j]? with | some x => x.dst != some d | none => false) = true := h5
      rw [List.all_eq_true] at h5'
      have hquiet : ∀ (q : List Nat) (listed : Array Bool), (∀ i ∈ q, ops[i]? = some (get i)) → okQuiet P kind md ops n q listed = true → ∀ x ∈ q.map get, Quiet P x := by
        intro q
        induction q with
        | nil => intro _ _ _ x hx; cases hx
        | cons j q ih =>
          intro listed hg hok x hx
          simp only [okQuiet, hg j (by simp), Bool.and_eq_true] at hok
          rcases List.mem_cons.1 hx with rfl | hx
          · exact hkind _ hok.1.2.1
          · exact ih _ (fun k hk => hg k (by simp [hk])) hok.2 x hx
      have hgq : ∀ j ∈ q, ops[j]? = some (get j) := fun j hj => hget j (by simp [hj])
      obtain ⟨v, hy, hrest⟩ := quiet_head (C := C) (aE := aE) (l := q.map get) (a := a) (fun x hx => by
        rcases List.mem_cons.1 hx with rfl | hx
        · exact hkind _ h4
        · exact hquiet q _ hgq h6 x hx) hdst (dstsOk_spec hd hi hdst) (fun x hx => by
        obtain ⟨j, hj, rfl⟩ := List.mem_map.1 hx
        have := h5' j hj
        rw [hgq j hj] at this
        simpa using this) hw
      rw [List.length_cons, ← Nat.add_assoc]
      refine wpAnyTI_first hi (Region.noSelect_spec hs) (fun c a w h => hQ _ _ _ _ h) (fun j o ho hj => okTail_spec htail h3 j o ho hj) _ listed a w hcl (Region.free_spec hi h2) (by simpa using h1) hy hC ?_
      exact wpAnyTI_quiets hkind hs hQ htail hC get q _ _ fuel (hcl.set (by simpa using h1)) hgq h6 (by rw [Act.put_size]; exact hd) hrest (fun he => hk (by rw [he, Act.put_size]))

theorem wpAnyTI_of_segs (hkind : ∀ o, kind P o = true → Quiet P o) (hs : Region.noSelect ops = true) (hQ : ∀ e a a' w, e ≠ .normal → Q e a w → Q e a' w) (htail : okTail md ops n = true) (get : Nat → Oper) :
    ∀ (plan : List (List Bool × Bool)) (l : List Nat) (listed : Array Bool) (a : Act) (w : World), Closed md ops listed → (∀ i ∈ l, ops[i]? = some (get i)) → okPlan P kind md ops n plan l listed = true → dstsOk ops a.tmps.size = true →
      SegsI n₀ d P ops Q plan (l.map get) a w → wpAnyTI d P md ops Q n (Below n₀ w) l.length listed a w
  | [], l, listed, a, w, _, _, hok, _, h => by
    simp only [okPlan, Bool.and_eq_true, List.isEmpty_iff] at hok
    obtain ⟨rfl, hr⟩ := hok
    exact ⟨hr, h⟩
  | (m, bar) :: ms, l, listed, a, w, hcl, hget, hok, hd, h => by
    simp only [okPlan, Bool.and_eq_true] at hok
    obtain ⟨hq, hrest⟩ := hok
    obtain ⟨aE, hw, hk⟩ := h
    rw [pick_map] at hw
    rw [← pick_left_length m l, Nat.add_comm]
    refine wpAnyTI_quiets hkind hs (fun c a a' w h => hQ _ _ _ _ (by simp) h) htail (C := Below n₀ w) (aE := aE) (Below.refl n₀ w) get _ _ _ _ hcl (fun i hi => hget i (pick_mem _ _ _ hi)) hq hd hw fun hsz hcl2 => ?_
    rw [left_map] at hk
    cases hl : left m l with
    | nil =>
      rw [hl] at hk hrest
      simp only [Bool.and_eq_true, List.isEmpty_iff] at hrest
      exact ⟨hrest.2, hk⟩
    | cons f l' =>
      rw [hl] at hk hrest
      simp only [Bool.and_eq_true, beq_iff_eq] at hrest
      obtain ⟨⟨hr, hb⟩, hok'⟩ := hrest
      have hgl : ∀ i ∈ left m l, ops[i]? = some (get i) := fun i hi => hget i (left_mem _ _ _ hi)
      rw [hl] at hgl
      have hf := hgl f (by simp)
      refine ⟨fun h0 => (by rw [hr] at h0; cases h0), fun i hi => ?_⟩
      rw [hr] at hi
      obtain rfl : i = f := by simpa using hi
      refine wpOpIn_of_one (K := SegsI n₀ d P ops Q ms (l'.map get)) hf (fun a' w' hs' he hk' => ?_) hk
      have ih := wpAnyTI_of_segs hkind hs hQ htail get ms l' _ a' w' (hcl2.set (by rw [hr]; simp)) (fun j hj => hgl j (by simp [hj])) hok' (by rw [hs', hsz]; exact hd) hk'
      cases bar with
      | false =>
        simp only [Bool.false_eq_true, if_false, decide_eq_true_eq] at hb
        exact ⟨fun _ => he rfl, wpAnyTI_mono (fun W hW => (he rfl).trans hW) _ _ _ _ ih⟩
      | true =>
        simp only [if_true, Bool.and_eq_true, decide_eq_true_eq, List.all_eq_true, List.mem_range] at hb
        refine ⟨fun h => (by omega), wpAnyTI_late _ _ _ _ (fun j hj => ?_) ih⟩
        have h1 := hb.1 j hj
        have hij : i ≠ j := by omega
        rw [getD_set_ne true hij]; exact h1



end
theorem segsI_cons {n₀ d : Nat} {P : Program} {ops : Array Oper} {Q : Exit → Act → World → Prop} {r : List Nat} {bar : Bool} {ms : List (List Nat × Bool)} {l : List Oper} {a aE : Act} {w : World} (h1 : ∀ W, Below n₀ w W → wpList P ops (QEnd aE W) (pick (runsT r) l) a W)
    (h2 : match left (runsT r) l with | [] => Q .normal aE w | o :: l' => wpListIn Fence.wide d P ops (FEndB n₀ bar w (SegsI n₀ d P ops Q (planOf ms) l')) [o] aE w) : SegsI n₀ d P ops Q (planOf ((r, bar) :: ms)) l a w := ⟨aE, h1, h2⟩
theorem segsI_nil {n₀ d : Nat} {P : Program} {ops : Array Oper} {Q : Exit → Act → World → Prop} {l : List Oper} {a : Act} {w : World} (h : Q .normal a w) : SegsI n₀ d P ops Q (planOf []) l a w := h
theorem wpIn_region_segs {P : Program} {n₀ d id : Nat} {l : List Oper} {Q : Exit → Act → World → Prop} {a : Act} {w : World} (n : Nat) (plan : List (List Nat × Bool)) (hm : P.follows .mixedOrders = true)
    (hB : okRegion P l.toArray n (planOf plan) a.tmps.size = true) (h : SegsI n₀ d P l.toArray Q (planOf plan) l a w.drew) : (Code.region id l.toArray true).wpIn Fence.wide d P Q a w := by
  simp only [okRegion, Bool.and_eq_true] at hB
  obtain ⟨⟨⟨h1, h2⟩, h3⟩, h4⟩ := hB
  refine wpIn_mono (Q := NP Q) ?_ (fun e a w h => by cases e <;> first | exact h | exact h.elim)
  refine wpIn_region_any hm (wpAnyIn_of_T (n := n) (C := Below n₀ w.drew) _ _ _ _ ?_)
  have hl : (List.range l.toArray.size).map (fun i => l.toArray.getD i default) = l := by
    apply List.ext_getElem
    · simp
    · intro i h1 h2
      simp at h1
      simp [h1]
  have key : ∀ (plan : List (List Bool × Bool)) (l' : List Oper) (a : Act) (w : World), SegsI n₀ d P l.toArray Q plan l' a w → SegsI n₀ d P l.toArray (NP Q) plan l' a w := by
    intro plan
    induction plan with
    | nil => intro l' a w h; exact h
    | cons s plan ih =>
      obtain ⟨m, bar⟩ := s
      intro l' a w h
      obtain ⟨aE, h1, h2⟩ := h
      refine ⟨aE, h1, ?_⟩
      cases hl : left m l' with
      | nil => rw [hl] at h2; exact h2
      | cons o l'' =>
        rw [hl] at h2
        dsimp only at h2 ⊢
        have : FEndB n₀ bar w (SegsI n₀ d P l.toArray Q plan l'') = FEndB n₀ bar w (SegsI n₀ d P l.toArray Q plan l'') := rfl
        unfold wpListIn at h2 ⊢
        split
        · rename_i hw
          simp only [hw, if_true] at h2
          exact ⟨h2.1, uponIn_mono2 (fun a' w' _ hk => ⟨hk.1, ih _ _ _ hk.2⟩) (fun e a w he hq => by cases e <;> first | exact absurd rfl he | exact hq.elim) h2.2⟩
        · rename_i hw
          simp only [hw] at h2
          exact ⟨h2.1, h2.2.1, ih _ _ _ h2.2.2⟩
  have := wpAnyTI_of_segs (P := P) (ops := l.toArray) (md := .any) (Q := NP Q) (n := n) (kind := kind) kind_quiet h1 (fun e a a' w he hq => by cases e <;> first | exact absurd rfl he | exact hq.elim) h2 (fun i => l.toArray.getD i default) (planOf plan) (List.range l.toArray.size) _ a w.drew
    (fun j o ho hl => by
      have h' : (Array.replicate l.toArray.size false).getD j false = false := by simp [Array.getD]
      rw [h'] at hl
      cases hl) (fun i hi => by
      have hi' : i < l.length := by simpa using hi
      simp [hi']) h4 h3 (by rw [hl]; exact key (planOf plan) l a _ h)
  simpa using this
end Go.Seg
end

section
namespace Go.SegR
open Go.RowKit Go.Seg
section
variable {P : Program} {ops : Array Oper} {Q : Exit → Act → World → Prop} {md : Region.Mode} {n n₀ d lr : Nat} {S : World → Prop} {kind : Program → Oper → Bool}

def noDefer (ops : Array Oper) : Bool := ops.all fun o => match o.op with | .defer _ => false | _ => true
theorem noDefer_spec {ops : Array Oper} (h : noDefer ops = true) (j : Nat) (o : Oper) (c : Call) (ho : ops[j]? = some o) : o.op ≠ .defer c := fun e => by
  have := Array.all_eq_true'.1 h o (Array.mem_of_getElem? ho)
  rw [e] at this
  cases this
theorem YieldsIf.wpOpInW {i : Nat} {o : Oper} {v : Value} {a : Act} (hi : ops[i]? = some o) (hdo : ∀ c, o.op ≠ .defer c) (hy : YieldsIf P ops S o v a)
    {K : Act → World → Prop} {w : World} (hS : S w) (h : K (a.put o.dst v) w) : wpOpIn (Fence.wide.inRound lr) d P ops Q i K a w := by
  unfold Go.wpOpIn
  simp only [hi]
  rcases hy with ⟨hw, hv⟩ | ⟨hw, rfl⟩
  · simp only [hw, if_true]
    refine ⟨fun _ _ => trivial, ?_⟩
    show Oper.uponIn _ _ _ _ _ _ _ ((Oper.semAt (some lr) a.eval o).run P w)
    rw [Oper.semAt_some lr _ _ hdo, hv w hS]
    exact h
  · simp only [hw, Bool.false_eq_true, if_false]; exact ⟨fun _ _ => trivial, h⟩

theorem wpOpIn_putIf {j : Nat} {oi oj : Oper} {v : Value} (hj : ops[j]? = some oj) (hap : oi.apart ops oj = true)
    (hsi : ∀ cs b, oi.op ≠ .select cs b) (hsj : ∀ cs b, oj.op ≠ .select cs b) (hdj : ∀ c, oj.op ≠ .defer c)
    (hQ : ∀ c a w, Q (.panic c) (a.put oi.dst v) w → Q (.panic c) a w) {K : Act → World → Prop} {a : Act} {w : World}
    (hy : YieldsIf P ops S oi v a) (h : wpOpIn (Fence.wide.inRound lr) d P ops Q j K (a.put oi.dst v) w) :
    wpOpIn (Fence.wide.inRound lr) d P ops Q j (fun a' w' => YieldsIf P ops S oi v a' ∧ K (a'.put oi.dst v) w') a w := by
  obtain ⟨h1, h2, h3⟩ := Oper.apart_spec hap
  have keep : ∀ (a : Act), YieldsIf P ops S oi v a → ∀ u, YieldsIf P ops S oi v (a.put oj.dst u) := fun a hy u =>
    hy.of_same (execOp_put oi hsi a oj.dst u h3) (wanted_put oi a oj.dst u h3)
  have keepD : ∀ x, YieldsIf P ops S oi v { a with defers := x :: a.defers } := fun x => hy.of_same rfl rfl
  unfold wpOpIn at *
  simp only [hj] at *
  rw [wanted_put oj a oi.dst v h1] at h
  split
  · rename_i hw
    simp only [hw, if_true] at h
    refine ⟨fun _ _ => trivial, ?_⟩
    have h := h.2
    change Oper.uponIn _ _ _ _ _ _ _ ((Oper.semAt (some lr) (a.put oi.dst v).eval oj).run P w) at h
    change Oper.uponIn _ _ _ _ _ _ _ ((Oper.semAt (some lr) a.eval oj).run P w)
    rw [Oper.semAt_some lr _ _ hdj] at h ⊢
    rw [execOp_put oj hsj a oi.dst v h1] at h
    generalize (execOp a.eval oj).run P w = r at *
    cases r with
    | ok x w' =>
      cases x <;> simp only [Oper.uponIn] at h ⊢
      case value u => exact ⟨keep a hy u, by rw [← Act.put_comm a v u h2]; exact h⟩
      case skip => exact ⟨keep a hy _, by rw [← Act.put_comm a v undef h2]; exact h⟩
      case defer x =>
        refine ⟨keep _ (keepD x) _, ?_⟩
        rw [← Act.put_comm _ v undef h2, ← Act.put_defers]
        exact h
      case enter f args =>
        refine ⟨h.1, CallsIn.mono h.2 fun e w'' he => ?_⟩
        cases e with
        | returned u => exact ⟨keep a hy u, by rw [← Act.put_comm a v u h2]; exact he⟩
        | panicked c => exact hQ _ _ _ he
        | outgrown => exact he
      case row row args => exact ⟨h.1, RowsIn.mono h.2 fun u w'' he => ⟨keep a hy u, by rw [← Act.put_comm a v u h2]; exact he⟩⟩
      case round l f tmps asg bd =>
        refine ⟨h.1, RoundIn.mono h.2 fun e w'' he => ?_⟩
        cases e with
        | returned u => exact ⟨keep a hy u, by rw [← Act.put_comm a v u h2]; exact he⟩
        | panicked c => exact hQ _ _ _ he
        | outgrown => exact he
    | halt x w' =>
      cases x <;> simp only [Oper.uponIn] at h ⊢
      case panic u => exact hQ _ _ _ h
  · rename_i hw
    simp only [hw] at h
    exact ⟨fun _ _ => trivial, keep a hy _, by rw [← Act.put_comm a v undef h2]; exact h.2⟩

/-- Where one call ends, what lay below n₀ being left. -/
def FEndB (n₀ : Nat) (bar : Bool) (w : World) (K : Act → World → Prop) : Exit → Act → World → Prop
  | .normal, a', w' => (bar = false → Below n₀ w w') ∧ K a' w'
  | _, _, _ => False

/-- THE WALK, inside the wide fence: as Segs; the calls by the fence's rules. -/
def SegsI (n₀ d lr : Nat) (P : Program) (ops : Array Oper) (Q : Exit → Act → World → Prop) : List (List Bool × Bool) → List Oper → Act → World → Prop
  | [], _, a, w => Q .normal a w
  | (m, bar) :: ms, l, a, w => ∃ aE, (∀ W, Below n₀ w W → wpList P ops (QEnd aE W) (pick m l) a W) ∧
      match left m l with
      | [] => Q .normal aE w
      | o :: l' => wpListIn (Fence.wide.inRound lr) d P ops (FEndB n₀ bar w (SegsI n₀ d lr P ops Q ms l')) [o] aE w

/-- Whatever order is picked; each of the first n operations leaves the old blocks. -/
def wpAnyTI (d lr : Nat) (P : Program) (md : Region.Mode) (ops : Array Oper) (Q : Exit → Act → World → Prop) (n : Nat) (C : World → Prop) : Nat → Array Bool → Act → World → Prop
  | 0, listed, a, w => Region.ready md ops listed = [] ∧ Q .normal a w
  | fuel + 1, listed, a, w =>
    (Region.ready md ops listed = [] → Q .normal a w) ∧
    ∀ i ∈ Region.ready md ops listed, wpOpIn (Fence.wide.inRound lr) d P ops Q i (fun a' w' => (i < n → C w') ∧ wpAnyTI d lr P md ops Q n C fuel (listed.setIfInBounds i true) a' w') a w


theorem wpAnyIn_of_T {C : World → Prop} : ∀ (fuel : Nat) (listed : Array Bool) (a : Act) (w : World), wpAnyTI d lr P md ops Q n C fuel listed a w → wpAnyIn (Fence.wide.inRound lr) d P md ops Q fuel listed a w
  | 0, _, _, _, h => h
  | fuel + 1, _, _, _, h => ⟨h.1, fun i hi => wpOpIn_mono (fun a' w' h' => wpAnyIn_of_T fuel _ a' w' h'.2) (h.2 i hi)⟩

theorem wpAnyTI_mono {C C' : World → Prop} (hC : ∀ w, C w → C' w) : ∀ (fuel : Nat) (listed : Array Bool) (a : Act) (w : World), wpAnyTI d lr P md ops Q n C fuel listed a w → wpAnyTI d lr P md ops Q n C' fuel listed a w
  | 0, _, _, _, h => h
  | fuel + 1, _, _, _, h => ⟨h.1, fun i hi => wpOpIn_mono (fun a' w' h' => ⟨fun hn => hC _ (h'.1 hn), wpAnyTI_mono hC fuel _ a' w' h'.2⟩) (h.2 i hi)⟩

/-- Once the first n are over the class matters no more. -/
theorem wpAnyTI_late {C C' : World → Prop} : ∀ (fuel : Nat) (listed : Array Bool) (a : Act) (w : World), (∀ j, j < n → listed.getD j true = true) → wpAnyTI d lr P md ops Q n C fuel listed a w → wpAnyTI d lr P md ops Q n C' fuel listed a w
  | 0, _, _, _, _, h => h
  | fuel + 1, listed, _, _, hl, h => by
    refine ⟨h.1, fun i hi => wpOpIn_mono (fun a' w' h' => ⟨fun hn => ?_, wpAnyTI_late fuel _ a' w' (fun j hj => ?_) h'.2⟩) (h.2 i hi)⟩
    · have h1 := (mem_ready.1 hi).1
      rw [hl i hn] at h1
      cases h1
    · by_cases hij : i = j
      · subst hij
        rcases Nat.lt_or_ge i listed.size with h2 | h2 <;> simp [h2]
      · rw [getD_set_ne true hij]; exact hl j hj

/-- A looking operation of the first n that may come up now may be taken first. -/
theorem wpAnyTI_first {C : World → Prop} {i : Nat} {oi : Oper} {v : Value} (hi : ops[i]? = some oi) (hsel : ∀ (j : Nat) (o : Oper) cs b, ops[j]? = some o → o.op ≠ .select cs b) (hdef : ∀ (j : Nat) (o : Oper) (c : Call), ops[j]? = some o → o.op ≠ .defer c)
    (hQ : ∀ c a w, Q (.panic c) (a.put oi.dst v) w → Q (.panic c) a w)
    (htail : ∀ (j : Nat) (o : Oper), ops[j]? = some o → n ≤ j → anc md ops 4 j i = true) :
    ∀ (fuel : Nat) (listed : Array Bool) (a : Act) (w : World), Closed md ops listed →
      (∀ j oj, ops[j]? = some oj → j ≠ i → listed.getD j true = false → (∀ e ∈ oj.after, Region.binds md e = true → e.on ≠ i) → oi.apart ops oj = true) →
      i ∈ Region.ready md ops listed → YieldsIf P ops C oi v a → C w →
      wpAnyTI d lr P md ops Q n C fuel (listed.setIfInBounds i true) (a.put oi.dst v) w → wpAnyTI d lr P md ops Q n C (fuel + 1) listed a w := by
  intro fuel
  induction fuel with
  | zero =>
    intro listed a w _ _ hr hy hC H
    refine ⟨fun h => (by rw [h] at hr; cases hr), fun j hj => ?_⟩
    by_cases hji : j = i
    · subst hji; exact YieldsIf.wpOpInW hi (fun c => hdef _ _ c hi) hy hC ⟨fun _ => hC, H⟩
    · have := ready_mono hj hji
      rw [H.1] at this
      cases this
  | succ fuel ih =>
    intro listed a w hcl hfree hr hy hC H
    refine ⟨fun h => (by rw [h] at hr; cases hr), fun j hj => ?_⟩
    by_cases hji : j = i
    · subst hji; exact YieldsIf.wpOpInW hi (fun c => hdef _ _ c hi) hy hC ⟨fun _ => hC, H⟩
    · have h1 := H.2 j (ready_mono hj hji)
      obtain ⟨hjun, oj, hoj, hall⟩ := mem_ready.1 hj
      have hun : listed.getD i false ≠ true := fun h1 => by
        have h0 := (mem_ready.1 hr).1
        rcases Nat.lt_or_ge i listed.size with h' | h'
        · simp [h'] at h0 h1; rw [h0] at h1; cases h1
        · simp [Array.getElem?_eq_none h'] at h1
      have hjn : j < n := by
        rcases Nat.lt_or_ge j n with h | h
        · exact h
        · exact absurd (anc_listed hcl 4 j i oj hoj hall (htail j oj hoj h)) hun
      have hnot : ∀ e ∈ oj.after, Region.binds md e = true → e.on ≠ i := fun e he hb heq => hun (heq ▸ hall e he hb)
      have h2 := wpOpIn_putIf hoj (hfree j oj hoj hji hjun hnot) (fun cs b => hsel i oi cs b hi) (fun cs b => hsel j oj cs b hoj) (fun c => hdef j oj c hoj) hQ hy h1
      have hfree' : ∀ k ok, ops[k]? = some ok → k ≠ i → (listed.setIfInBounds j true).getD k true = false →
          (∀ e ∈ ok.after, Region.binds md e = true → e.on ≠ i) → oi.apart ops ok = true := fun k ok hk hki hun hno => by
        refine hfree k ok hk hki ?_ hno
        by_cases hjk : j = k
        · subst hjk; exact hjun
        · rw [getD_set_ne true hjk] at hun; exact hun
      refine wpOpIn_mono (fun a' w' h3 => ⟨h3.2.1, ih (listed.setIfInBounds j true) a' w' (hcl.set hj) hfree' (ready_mono hr (Ne.symm hji)) h3.1 (h3.2.1 hjn) ?_⟩) h2
      rw [Array.setIfInBounds_comm _ _ hji]
      exact h3.2.2

theorem uponIn_mono2 {F : Fence} {o : Oper} {a : Act} {K K' : Act → World → Prop} {Q Q' : Exit → Act → World → Prop} (hK : ∀ a' w', a'.tmps.size = a.tmps.size → K a' w' → K' a' w') (hQ : ∀ e a w, e ≠ .normal → Q e a w → Q' e a w) {r : Result Next}
    (h : o.uponIn F d P a K Q r) : o.uponIn F d P a K' Q' r := by
  have hl : LetsOut Q → LetsOut Q' := fun ⟨a, w, h⟩ => ⟨a, w, hQ _ _ _ (by simp) h⟩
  cases r with
  | ok x w' =>
    cases x <;> simp only [Oper.uponIn] at h ⊢
    case value v => exact hK _ _ Act.put_size h
    case skip => exact hK _ _ Act.put_size h
    case defer x => exact hK _ _ Act.put_size h
    case enter f args =>
      refine ⟨h.1, CallsIn.mono h.2 fun e w'' he => ?_⟩
      cases e with
      | returned v => exact hK _ _ Act.put_size he
      | panicked c => exact hQ _ _ _ (by simp) he
      | outgrown => exact hl he
    case row row args => exact ⟨h.1, RowsIn.mono h.2 fun v w'' he => hK _ _ Act.put_size he⟩
    case round l f tmps asg bd =>
      refine ⟨h.1, RoundIn.mono h.2 fun e w'' he => ?_⟩
      cases e with
      | returned v => exact hK _ _ Act.put_size he
      | panicked c => exact hQ _ _ _ (by simp) he
      | outgrown => exact hl he
  | halt x w' =>
    cases x <;> simp only [Oper.uponIn] at h ⊢
    case panic v => exact hQ _ _ _ (by simp) h

theorem wpOpIn_of_one {i : Nat} {o : Oper} (hi : ops[i]? = some o) {bar : Bool} {w : World} {K K' : Act → World → Prop} {a : Act} (hK : ∀ a' w', a'.tmps.size = a.tmps.size → (bar = false → Below n₀ w w') → K a' w' → K' a' w')
    (h : wpListIn (Fence.wide.inRound lr) d P ops (FEndB n₀ bar w K) [o] a w) : wpOpIn (Fence.wide.inRound lr) d P ops Q i K' a w := by
  unfold wpOpIn
  simp only [hi]
  unfold wpListIn at h
  split
  · rename_i hw
    simp only [hw, if_true] at h
    exact ⟨h.1, uponIn_mono2 (fun a' w' hs hk => hK a' w' hs hk.1 hk.2) (fun e a w he hq => by cases e <;> first | exact absurd rfl he | exact hq.elim) h.2⟩
  · rename_i hw
    simp only [hw] at h
    exact ⟨h.1, hK _ _ Act.put_size h.2.1 h.2.2⟩

theorem wpAnyTI_quiets (hkind : ∀ o, kind P o = true → Quiet P o) (hs : Region.noSelect ops = true) (hdn : noDefer ops = true) (hQ : ∀ c a a' w, Q (.panic c) a w → Q (.panic c) a' w) (htail : okTail md ops n = true) {C : World → Prop} {aE : Act} {w : World} (hC : C w) (get : Nat → Oper) :
    ∀ (q : List Nat) (listed : Array Bool) (a : Act) (fuel : Nat), Closed md ops listed → (∀ i ∈ q, ops[i]? = some (get i)) → okQuiet P kind md ops n q listed = true → dstsOk ops a.tmps.size = true →
      (∀ W, C W → wpList P ops (QEnd aE W) (q.map get) a W) → (aE.tmps.size = a.tmps.size → Closed md ops (Seg.mark listed q) → wpAnyTI d lr P md ops Q n C fuel (Seg.mark listed q) aE w) → wpAnyTI d lr P md ops Q n C (fuel + q.length) listed a w
  | [], listed, a, fuel, hcl, _, _, _, hw, hk => by
    obtain ⟨h1, _⟩ := hw w hC
    subst h1
    exact hk rfl hcl
  | i :: q, listed, a, fuel, hcl, hget, hok, hd, hw, hk => by
    have hi := hget i (by simp)
    simp only [okQuiet, hi, Bool.and_eq_true, decide_eq_true_eq] at hok
    obtain ⟨⟨⟨⟨h1, h2⟩, h3⟩, h4, h5⟩, h6⟩ := hok
    cases hdst : (get i).dst with
    | none => rw [hdst] at h5; cases h5
    | some d =>
      rw [hdst] at h5
      have h5' : q.all (fun j => match ops[j]? with | some x => x.dst != some d | none => false) = true := h5
      rw [List.all_eq_true] at h5'
      have hquiet : ∀ (q : List Nat) (listed : Array Bool), (∀ i ∈ q, ops[i]? = some (get i)) → okQuiet P kind md ops n q listed = true → ∀ x ∈ q.map get, Quiet P x := by
        intro q
        induction q with
        | nil => intro _ _ _ x hx; cases hx
        | cons j q ih =>
          intro listed hg hok x hx
          simp only [okQuiet, hg j (by simp), Bool.and_eq_true] at hok
          rcases List.mem_cons.1 hx with rfl | hx
          · exact hkind _ hok.1.2.1
          · exact ih _ (fun k hk => hg k (by simp [hk])) hok.2 x hx
      have hgq : ∀ j ∈ q, ops[j]? = some (get j) := fun j hj => hget j (by simp [hj])
      obtain ⟨v, hy, hrest⟩ := quiet_head (C := C) (aE := aE) (l := q.map get) (a := a) (fun x hx => by
        rcases List.mem_cons.1 hx with rfl | hx
        · exact hkind _ h4
        · exact hquiet q _ hgq h6 x hx) hdst (dstsOk_spec hd hi hdst) (fun x hx => by
        obtain ⟨j, hj, rfl⟩ := List.mem_map.1 hx
        have := h5' j hj
        rw [hgq j hj] at this
        simpa using this) hw
      rw [List.length_cons, ← Nat.add_assoc]
      refine wpAnyTI_first hi (Region.noSelect_spec hs) (noDefer_spec hdn) (fun c a w h => hQ _ _ _ _ h) (fun j o ho hj => okTail_spec htail h3 j o ho hj) _ listed a w hcl (Region.free_spec hi h2) (by simpa using h1) hy hC ?_
      exact wpAnyTI_quiets hkind hs hdn hQ htail hC get q _ _ fuel (hcl.set (by simpa using h1)) hgq h6 (by rw [Act.put_size]; exact hd) hrest (fun he => hk (by rw [he, Act.put_size]))

theorem wpAnyTI_of_segs (hkind : ∀ o, kind P o = true → Quiet P o) (hs : Region.noSelect ops = true) (hdn : noDefer ops = true) (hQ : ∀ e a a' w, e ≠ .normal → Q e a w → Q e a' w) (htail : okTail md ops n = true) (get : Nat → Oper) :
    ∀ (plan : List (List Bool × Bool)) (l : List Nat) (listed : Array Bool) (a : Act) (w : World), Closed md ops listed → (∀ i ∈ l, ops[i]? = some (get i)) → okPlan P kind md ops n plan l listed = true → dstsOk ops a.tmps.size = true →
      SegsI n₀ d lr P ops Q plan (l.map get) a w → wpAnyTI d lr P md ops Q n (Below n₀ w) l.length listed a w
  | [], l, listed, a, w, _, _, hok, _, h => by
    simp only [okPlan, Bool.and_eq_true, List.isEmpty_iff] at hok
    obtain ⟨rfl, hr⟩ := hok
    exact ⟨hr, h⟩
  | (m, bar) :: ms, l, listed, a, w, hcl, hget, hok, hd, h => by
    simp only [okPlan, Bool.and_eq_true] at hok
    obtain ⟨hq, hrest⟩ := hok
    obtain ⟨aE, hw, hk⟩ := h
    rw [pick_map] at hw
    rw [← pick_left_length m l, Nat.add_comm]
    refine wpAnyTI_quiets hkind hs hdn (fun c a a' w h => hQ _ _ _ _ (by simp) h) htail (C := Below n₀ w) (aE := aE) (Below.refl n₀ w) get _ _ _ _ hcl (fun i hi => hget i (pick_mem _ _ _ hi)) hq hd hw fun hsz hcl2 => ?_
    rw [left_map] at hk
    cases hl : left m l with
    | nil =>
      rw [hl] at hk hrest
      simp only [Bool.and_eq_true, List.isEmpty_iff] at hrest
      exact ⟨hrest.2, hk⟩
    | cons f l' =>
      rw [hl] at hk hrest
      simp only [Bool.and_eq_true, beq_iff_eq] at hrest
      obtain ⟨⟨hr, hb⟩, hok'⟩ := hrest
      have hgl : ∀ i ∈ left m l, ops[i]? = some (get i) := fun i hi => hget i (left_mem _ _ _ hi)
      rw [hl] at hgl
      have hf := hgl f (by simp)
      refine ⟨fun h0 => (by rw [hr] at h0; cases h0), fun i hi => ?_⟩
      rw [hr] at hi
      obtain rfl : i = f := by simpa using hi
      refine wpOpIn_of_one (K := SegsI n₀ d lr P ops Q ms (l'.map get)) hf (fun a' w' hs' he hk' => ?_) hk
      have ih := wpAnyTI_of_segs hkind hs hdn hQ htail get ms l' _ a' w' (hcl2.set (by rw [hr]; simp)) (fun j hj => hgl j (by simp [hj])) hok' (by rw [hs', hsz]; exact hd) hk'
      cases bar with
      | false =>
        simp only [Bool.false_eq_true, if_false, decide_eq_true_eq] at hb
        exact ⟨fun _ => he rfl, wpAnyTI_mono (fun W hW => (he rfl).trans hW) _ _ _ _ ih⟩
      | true =>
        simp only [if_true, Bool.and_eq_true, decide_eq_true_eq, List.all_eq_true, List.mem_range] at hb
        refine ⟨fun h => (by omega), wpAnyTI_late _ _ _ _ (fun j hj => ?_) ih⟩
        have h1 := hb.1 j hj
        have hij : i ≠ j := by omega
        rw [getD_set_ne true hij]; exact h1



end
theorem segsI_cons {n₀ d lr : Nat} {P : Program} {ops : Array Oper} {Q : Exit → Act → World → Prop} {r : List Nat} {bar : Bool} {ms : List (List Nat × Bool)} {l : List Oper} {a aE : Act} {w : World} (h1 : ∀ W, Below n₀ w W → wpList P ops (QEnd aE W) (pick (runsT r) l) a W)
    (h2 : match left (runsT r) l with | [] => Q .normal aE w | o :: l' => wpListIn (Fence.wide.inRound lr) d P ops (FEndB n₀ bar w (SegsI n₀ d lr P ops Q (planOf ms) l')) [o] aE w) : SegsI n₀ d lr P ops Q (planOf ((r, bar) :: ms)) l a w := ⟨aE, h1, h2⟩
theorem segsI_nil {n₀ d lr : Nat} {P : Program} {ops : Array Oper} {Q : Exit → Act → World → Prop} {l : List Oper} {a : Act} {w : World} (h : Q .normal a w) : SegsI n₀ d lr P ops Q (planOf []) l a w := h
theorem wpIn_region_segs {P : Program} {n₀ d id lr : Nat} {l : List Oper} {Q : Exit → Act → World → Prop} {a : Act} {w : World} (n : Nat) (plan : List (List Nat × Bool)) (hm : P.follows .mixedOrders = true) (hdn : noDefer l.toArray = true)
    (hB : okRegion P l.toArray n (planOf plan) a.tmps.size = true) (h : SegsI n₀ d lr P l.toArray Q (planOf plan) l a w.drew) : (Code.region id l.toArray true).wpIn (Fence.wide.inRound lr) d P Q a w := by
  simp only [okRegion, Bool.and_eq_true] at hB
  obtain ⟨⟨⟨h1, h2⟩, h3⟩, h4⟩ := hB
  refine wpIn_mono (Q := NP Q) ?_ (fun e a w h => by cases e <;> first | exact h | exact h.elim)
  refine wpIn_region_any hm (wpAnyIn_of_T (n := n) (C := Below n₀ w.drew) _ _ _ _ ?_)
  have hl : (List.range l.toArray.size).map (fun i => l.toArray.getD i default) = l := by
    apply List.ext_getElem
    · simp
    · intro i h1 h2
      simp at h1
      simp [h1]
  have key : ∀ (plan : List (List Bool × Bool)) (l' : List Oper) (a : Act) (w : World), SegsI n₀ d lr P l.toArray Q plan l' a w → SegsI n₀ d lr P l.toArray (NP Q) plan l' a w := by
    intro plan
    induction plan with
    | nil => intro l' a w h; exact h
    | cons s plan ih =>
      obtain ⟨m, bar⟩ := s
      intro l' a w h
      obtain ⟨aE, h1, h2⟩ := h
      refine ⟨aE, h1, ?_⟩
      cases hl : left m l' with
      | nil => rw [hl] at h2; exact h2
      | cons o l'' =>
        rw [hl] at h2
        dsimp only at h2 ⊢
        have : FEndB n₀ bar w (SegsI n₀ d lr P l.toArray Q plan l'') = FEndB n₀ bar w (SegsI n₀ d lr P l.toArray Q plan l'') := rfl
        unfold wpListIn at h2 ⊢
        split
        · rename_i hw
          simp only [hw, if_true] at h2
          exact ⟨h2.1, uponIn_mono2 (fun a' w' _ hk => ⟨hk.1, ih _ _ _ hk.2⟩) (fun e a w he hq => by cases e <;> first | exact absurd rfl he | exact hq.elim) h2.2⟩
        · rename_i hw
          simp only [hw] at h2
          exact ⟨h2.1, h2.2.1, ih _ _ _ h2.2.2⟩
  have := wpAnyTI_of_segs (P := P) (ops := l.toArray) (md := .any) (Q := NP Q) (n := n) (kind := kind) kind_quiet h1 hdn (fun e a a' w he hq => by cases e <;> first | exact absurd rfl he | exact hq.elim) h2 (fun i => l.toArray.getD i default) (planOf plan) (List.range l.toArray.size) _ a w.drew
    (fun j o ho hl => by
      have h' : (Array.replicate l.toArray.size false).getD j false = false := by simp [Array.getD]
      rw [h'] at hl
      cases hl) (fun i hi => by
      have hi' : i < l.length := by simpa using hi
      simp [hi']) h4 h3 (by rw [hl]; exact key (planOf plan) l a _ h)
  simpa using this
end Go.SegR
end

section
namespace Go.Proofs.Ytdfbfcglacalmaa.Prg
open Go.RowKit Go.Shelf Go.Seg Go.Open Go.Lib
attribute [local go_sem] Oper.semAt_some

/-- Blocks of a type lie as they lay. -/
def KeepsTy (E : TypeId) (W W' : World) : Prop := ∀ (k : Nat) (cs : Array Value) f, W.heap[k]? = some (.cells cs E f) → W'.heap[k]? = some (.cells cs E f)
theorem KeepsTy.trans {E : TypeId} {A B C : World} (h : KeepsTy E A B) (k : KeepsTy E B C) : KeepsTy E A C := fun i cs f hi => k i cs f (h i cs f hi)
theorem KeepsTy.b {E : TypeId} {w : World} : ∀ (W : World) (l : Nat) (o o' : Obj), w.heap.size ≤ l → W.heap[l]? = some o → o.isCells = false → o.isWalk = false → KeepsTy E W (W.putObj l o') := fun W l o o' _ ho hc _ k cs f hk => by
  rw [World.putObj_heap_other (fun e => by subst e; rw [ho] at hk; cases hk; cases hc)]
  exact hk
theorem keepsTy_grown {E : TypeId} {W W' : World} {row : Option Nat} (hg : W.grownBy W' row) (hr : ∀ j, row = some j → ∀ cs f, W.heap[j]? ≠ some (.cells cs E f)) : KeepsTy E W W' := fun k cs f hk => by
  rw [hg.block k (Array.getElem?_eq_some_iff.1 hk).1 (fun e => hr k e.symm cs f hk)]
  exact hk
theorem keepsTy_alloc (E : TypeId) (W : World) (o : Obj) : KeepsTy E W (W.alloc o) := keepsTy_grown (World.grownBy_alloc W o none) (fun j h => by cases h)
theorem keepsTy_set {E t : TypeId} {W : World} {B : Nat} {cs : Array Value} (h : Blk W B cs t) (ht : t ≠ E) (i : Nat) (u : Value) : KeepsTy E W (W.setCell ⟨B, i, none⟩ u) := fun k cs' f hk => by
  rw [Below.heap_setCell _ _ _ _ (fun e => by
    have e' : k = B := e
    subst e'
    have := (show W.heap[k]? = _ from h).symm.trans hk
    simp at this
    exact ht this.2.1)]
  exact hk
theorem keepsTy_drew (E : TypeId) (W : World) : KeepsTy E W W.drew := fun _ _ _ h => h

/-- The places of a call's own numbers. -/
def ownL (k : Int) : List Nat := if k = 1 ∨ k = 3 then [1] else if k = 2 then [1, 2, 3, 4] else if k = 7 then [3] else []

/-- A row of places, read at one of them. -/
theorem step_at {wr : World} {N b : Nat} {L : List Nat} {E : TypeId} (hb : Blk wr N ((L.map fun j => Value.pointer (some ⟨b, j, none⟩)).toArray) E) {q : Nat} (h : q < L.length) :
    ∃ j, wr.cell? ⟨N, q, none⟩ = some (.pointer (some ⟨b, j, none⟩)) ∧ L.take q ++ [j] <+: L ∧ L.take (q + 1) = L.take q ++ [j] := by
  refine ⟨L[q], ?_, ?_, ?_⟩
  · rw [hb.cells q]; simp [h]
  · rw [← List.take_succ_eq_append_getElem h]; exact List.take_prefix _ _
  · exact List.take_succ_eq_append_getElem h
end Go.Proofs.Ytdfbfcglacalmaa.Prg
end

section
namespace Go.SegC
open Go.RowKit Go.Seg Go.SegR
section
variable {P : Program} {ops : Array Oper} {Q : Exit → Act → World → Prop} {md : Region.Mode} {Cl : World → World → Prop} {n d lr : Nat} {S : World → Prop} {kind : Program → Oper → Bool}
/-- Where one call ends, what lay below n₀ being left. -/
def FEndB (Cl : World → World → Prop) (bar : Bool) (w : World) (K : Act → World → Prop) : Exit → Act → World → Prop
  | .normal, a', w' => (bar = false → Cl w w') ∧ K a' w'
  | _, _, _ => False

/-- THE WALK, inside the wide fence: as Segs; the calls by the fence's rules. -/
def SegsI (Cl : World → World → Prop) (d lr : Nat) (P : Program) (ops : Array Oper) (Q : Exit → Act → World → Prop) : List (List Bool × Bool) → List Oper → Act → World → Prop
  | [], _, a, w => Q .normal a w
  | (m, bar) :: ms, l, a, w => ∃ aE, (∀ W, Cl w W → wpList P ops (QEnd aE W) (pick m l) a W) ∧
      match left m l with
      | [] => Q .normal aE w
      | o :: l' => wpListIn (Fence.wide.inRound lr) d P ops (FEndB Cl bar w (SegsI Cl d lr P ops Q ms l')) [o] aE w

/-- Whatever order is picked; each of the first n operations leaves the old blocks. -/
def wpAnyTI (d lr : Nat) (P : Program) (md : Region.Mode) (ops : Array Oper) (Q : Exit → Act → World → Prop) (n : Nat) (C : World → Prop) : Nat → Array Bool → Act → World → Prop
  | 0, listed, a, w => Region.ready md ops listed = [] ∧ Q .normal a w
  | fuel + 1, listed, a, w =>
    (Region.ready md ops listed = [] → Q .normal a w) ∧
    ∀ i ∈ Region.ready md ops listed, wpOpIn (Fence.wide.inRound lr) d P ops Q i (fun a' w' => (i < n → C w') ∧ wpAnyTI d lr P md ops Q n C fuel (listed.setIfInBounds i true) a' w') a w


theorem wpAnyIn_of_T {C : World → Prop} : ∀ (fuel : Nat) (listed : Array Bool) (a : Act) (w : World), wpAnyTI d lr P md ops Q n C fuel listed a w → wpAnyIn (Fence.wide.inRound lr) d P md ops Q fuel listed a w
  | 0, _, _, _, h => h
  | fuel + 1, _, _, _, h => ⟨h.1, fun i hi => wpOpIn_mono (fun a' w' h' => wpAnyIn_of_T fuel _ a' w' h'.2) (h.2 i hi)⟩

theorem wpAnyTI_mono {C C' : World → Prop} (hC : ∀ w, C w → C' w) : ∀ (fuel : Nat) (listed : Array Bool) (a : Act) (w : World), wpAnyTI d lr P md ops Q n C fuel listed a w → wpAnyTI d lr P md ops Q n C' fuel listed a w
  | 0, _, _, _, h => h
  | fuel + 1, _, _, _, h => ⟨h.1, fun i hi => wpOpIn_mono (fun a' w' h' => ⟨fun hn => hC _ (h'.1 hn), wpAnyTI_mono hC fuel _ a' w' h'.2⟩) (h.2 i hi)⟩

/-- Once the first n are over the class matters no more. -/
theorem wpAnyTI_late {C C' : World → Prop} : ∀ (fuel : Nat) (listed : Array Bool) (a : Act) (w : World), (∀ j, j < n → listed.getD j true = true) → wpAnyTI d lr P md ops Q n C fuel listed a w → wpAnyTI d lr P md ops Q n C' fuel listed a w
  | 0, _, _, _, _, h => h
  | fuel + 1, listed, _, _, hl, h => by
    refine ⟨h.1, fun i hi => wpOpIn_mono (fun a' w' h' => ⟨fun hn => ?_, wpAnyTI_late fuel _ a' w' (fun j hj => ?_) h'.2⟩) (h.2 i hi)⟩
    · have h1 := (mem_ready.1 hi).1
      rw [hl i hn] at h1
      cases h1
    · by_cases hij : i = j
      · subst hij
        rcases Nat.lt_or_ge i listed.size with h2 | h2 <;> simp [h2]
      · rw [getD_set_ne true hij]; exact hl j hj

/-- A looking operation of the first n that may come up now may be taken first. -/
theorem wpAnyTI_first {C : World → Prop} {i : Nat} {oi : Oper} {v : Value} (hi : ops[i]? = some oi) (hsel : ∀ (j : Nat) (o : Oper) cs b, ops[j]? = some o → o.op ≠ .select cs b) (hdef : ∀ (j : Nat) (o : Oper) (c : Call), ops[j]? = some o → o.op ≠ .defer c)
    (hQ : ∀ c a w, Q (.panic c) (a.put oi.dst v) w → Q (.panic c) a w)
    (htail : ∀ (j : Nat) (o : Oper), ops[j]? = some o → n ≤ j → anc md ops 4 j i = true) :
    ∀ (fuel : Nat) (listed : Array Bool) (a : Act) (w : World), Closed md ops listed →
      (∀ j oj, ops[j]? = some oj → j ≠ i → listed.getD j true = false → (∀ e ∈ oj.after, Region.binds md e = true → e.on ≠ i) → oi.apart ops oj = true) →
      i ∈ Region.ready md ops listed → YieldsIf P ops C oi v a → C w →
      wpAnyTI d lr P md ops Q n C fuel (listed.setIfInBounds i true) (a.put oi.dst v) w → wpAnyTI d lr P md ops Q n C (fuel + 1) listed a w := by
  intro fuel
  induction fuel with
  | zero =>
    intro listed a w _ _ hr hy hC H
    refine ⟨fun h => (by rw [h] at hr; cases hr), fun j hj => ?_⟩
    by_cases hji : j = i
    · subst hji; exact YieldsIf.wpOpInW hi (fun c => hdef _ _ c hi) hy hC ⟨fun _ => hC, H⟩
    · have := ready_mono hj hji
      rw [H.1] at this
      cases this
  | succ fuel ih =>
    intro listed a w hcl hfree hr hy hC H
    refine ⟨fun h => (by rw [h] at hr; cases hr), fun j hj => ?_⟩
    by_cases hji : j = i
    · subst hji; exact YieldsIf.wpOpInW hi (fun c => hdef _ _ c hi) hy hC ⟨fun _ => hC, H⟩
    · have h1 := H.2 j (ready_mono hj hji)
      obtain ⟨hjun, oj, hoj, hall⟩ := mem_ready.1 hj
      have hun : listed.getD i false ≠ true := fun h1 => by
        have h0 := (mem_ready.1 hr).1
        rcases Nat.lt_or_ge i listed.size with h' | h'
        · simp [h'] at h0 h1; rw [h0] at h1; cases h1
        · simp [Array.getElem?_eq_none h'] at h1
      have hjn : j < n := by
        rcases Nat.lt_or_ge j n with h | h
        · exact h
        · exact absurd (anc_listed hcl 4 j i oj hoj hall (htail j oj hoj h)) hun
      have hnot : ∀ e ∈ oj.after, Region.binds md e = true → e.on ≠ i := fun e he hb heq => hun (heq ▸ hall e he hb)
      have h2 := wpOpIn_putIf hoj (hfree j oj hoj hji hjun hnot) (fun cs b => hsel i oi cs b hi) (fun cs b => hsel j oj cs b hoj) (fun c => hdef j oj c hoj) hQ hy h1
      have hfree' : ∀ k ok, ops[k]? = some ok → k ≠ i → (listed.setIfInBounds j true).getD k true = false →
          (∀ e ∈ ok.after, Region.binds md e = true → e.on ≠ i) → oi.apart ops ok = true := fun k ok hk hki hun hno => by
        refine hfree k ok hk hki ?_ hno
        by_cases hjk : j = k
        · subst hjk; exact hjun
        · rw [getD_set_ne true hjk] at hun; exact hun
      refine wpOpIn_mono (fun a' w' h3 => ⟨h3.2.1, ih (listed.setIfInBounds j true) a' w' (hcl.set hj) hfree' (ready_mono hr (Ne.symm hji)) h3.1 (h3.2.1 hjn) ?_⟩) h2
      rw [Array.setIfInBounds_comm _ _ hji]
      exact h3.2.2

theorem uponIn_mono2 {F : Fence} {o : Oper} {a : Act} {K K' : Act → World → Prop} {Q Q' : Exit → Act → World → Prop} (hK : ∀ a' w', a'.tmps.size = a.tmps.size → K a' w' → K' a' w') (hQ : ∀ e a w, e ≠ .normal → Q e a w → Q' e a w) {r : Result Next}
    (h : o.uponIn F d P a K Q r) : o.uponIn F d P a K' Q' r := by
  have hl : LetsOut Q → LetsOut Q' := fun ⟨a, w, h⟩ => ⟨a, w, hQ _ _ _ (by simp) h⟩
  cases r with
  | ok x w' =>
    cases x <;> simp only [Oper.uponIn] at h ⊢
    case value v => exact hK _ _ Act.put_size h
    case skip => exact hK _ _ Act.put_size h
    case defer x => exact hK _ _ Act.put_size h
    case enter f args =>
      refine ⟨h.1, CallsIn.mono h.2 fun e w'' he => ?_⟩
      cases e with
      | returned v => exact hK _ _ Act.put_size he
      | panicked c => exact hQ _ _ _ (by simp) he
      | outgrown => exact hl he
    case row row args => exact ⟨h.1, RowsIn.mono h.2 fun v w'' he => hK _ _ Act.put_size he⟩
    case round l f tmps asg bd =>
      refine ⟨h.1, RoundIn.mono h.2 fun e w'' he => ?_⟩
      cases e with
      | returned v => exact hK _ _ Act.put_size he
      | panicked c => exact hQ _ _ _ (by simp) he
      | outgrown => exact hl he
  | halt x w' =>
    cases x <;> simp only [Oper.uponIn] at h ⊢
    case panic v => exact hQ _ _ _ (by simp) h

theorem wpOpIn_of_one {i : Nat} {o : Oper} (hi : ops[i]? = some o) {bar : Bool} {w : World} {K K' : Act → World → Prop} {a : Act} (hK : ∀ a' w', a'.tmps.size = a.tmps.size → (bar = false → Cl w w') → K a' w' → K' a' w')
    (h : wpListIn (Fence.wide.inRound lr) d P ops (FEndB Cl bar w K) [o] a w) : wpOpIn (Fence.wide.inRound lr) d P ops Q i K' a w := by
  unfold wpOpIn
  simp only [hi]
  unfold wpListIn at h
  split
  · rename_i hw
    simp only [hw, if_true] at h
    exact ⟨h.1, uponIn_mono2 (fun a' w' hs hk => hK a' w' hs hk.1 hk.2) (fun e a w he hq => by cases e <;> first | exact absurd rfl he | exact hq.elim) h.2⟩
  · rename_i hw
    simp only [hw] at h
    exact ⟨h.1, hK _ _ Act.put_size h.2.1 h.2.2⟩

theorem wpAnyTI_quiets (hkind : ∀ o, kind P o = true → Quiet P o) (hs : Region.noSelect ops = true) (hdn : noDefer ops = true) (hQ : ∀ c a a' w, Q (.panic c) a w → Q (.panic c) a' w) (htail : okTail md ops n = true) {C : World → Prop} {aE : Act} {w : World} (hC : C w) (get : Nat → Oper) :
    ∀ (q : List Nat) (listed : Array Bool) (a : Act) (fuel : Nat), Closed md ops listed → (∀ i ∈ q, ops[i]? = some (get i)) → okQuiet P kind md ops n q listed = true → dstsOk ops a.tmps.size = true →
      (∀ W, C W → wpList P ops (QEnd aE W) (q.map get) a W) → (aE.tmps.size = a.tmps.size → Closed md ops (Seg.mark listed q) → wpAnyTI d lr P md ops Q n C fuel (Seg.mark listed q) aE w) → wpAnyTI d lr P md ops Q n C (fuel + q.length) listed a w
  | [], listed, a, fuel, hcl, _, _, _, hw, hk => by
    obtain ⟨h1, _⟩ := hw w hC
    subst h1
    exact hk rfl hcl
  | i :: q, listed, a, fuel, hcl, hget, hok, hd, hw, hk => by
    have hi := hget i (by simp)
    simp only [okQuiet, hi, Bool.and_eq_true, decide_eq_true_eq] at hok
    obtain ⟨⟨⟨⟨h1, h2⟩, h3⟩, h4, h5⟩, h6⟩ := hok
    cases hdst : (get i).dst with
    | none => rw [hdst] at h5; cases h5
    | some d =>
      rw [hdst] at h5
      have h5' : q.all (fun j => match ops[j]? with | some x => x.dst != some d | none => false) = true := h5
      rw [List.all_eq_true] at h5'
      have hquiet : ∀ (q : List Nat) (listed : Array Bool), (∀ i ∈ q, ops[i]? = some (get i)) → okQuiet P kind md ops n q listed = true → ∀ x ∈ q.map get, Quiet P x := by
        intro q
        induction q with
        | nil => intro _ _ _ x hx; cases hx
        | cons j q ih =>
          intro listed hg hok x hx
          simp only [okQuiet, hg j (by simp), Bool.and_eq_true] at hok
          rcases List.mem_cons.1 hx with rfl | hx
          · exact hkind _ hok.1.2.1
          · exact ih _ (fun k hk => hg k (by simp [hk])) hok.2 x hx
      have hgq : ∀ j ∈ q, ops[j]? = some (get j) := fun j hj => hget j (by simp [hj])
      obtain ⟨v, hy, hrest⟩ := quiet_head (C := C) (aE := aE) (l := q.map get) (a := a) (fun x hx => by
        rcases List.mem_cons.1 hx with rfl | hx
        · exact hkind _ h4
        · exact hquiet q _ hgq h6 x hx) hdst (dstsOk_spec hd hi hdst) (fun x hx => by
        obtain ⟨j, hj, rfl⟩ := List.mem_map.1 hx
        have := h5' j hj
        rw [hgq j hj] at this
        simpa using this) hw
      rw [List.length_cons, ← Nat.add_assoc]
      refine wpAnyTI_first hi (Region.noSelect_spec hs) (noDefer_spec hdn) (fun c a w h => hQ _ _ _ _ h) (fun j o ho hj => okTail_spec htail h3 j o ho hj) _ listed a w hcl (Region.free_spec hi h2) (by simpa using h1) hy hC ?_
      exact wpAnyTI_quiets hkind hs hdn hQ htail hC get q _ _ fuel (hcl.set (by simpa using h1)) hgq h6 (by rw [Act.put_size]; exact hd) hrest (fun he => hk (by rw [he, Act.put_size]))

theorem wpAnyTI_of_segs (hCr : ∀ w, Cl w w) (hCt : ∀ {a b c : World}, Cl a b → Cl b c → Cl a c) (hkind : ∀ o, kind P o = true → Quiet P o) (hs : Region.noSelect ops = true) (hdn : noDefer ops = true) (hQ : ∀ e a a' w, e ≠ .normal → Q e a w → Q e a' w) (htail : okTail md ops n = true) (get : Nat → Oper) :
    ∀ (plan : List (List Bool × Bool)) (l : List Nat) (listed : Array Bool) (a : Act) (w : World), Closed md ops listed → (∀ i ∈ l, ops[i]? = some (get i)) → okPlan P kind md ops n plan l listed = true → dstsOk ops a.tmps.size = true →
      SegsI Cl d lr P ops Q plan (l.map get) a w → wpAnyTI d lr P md ops Q n (Cl w) l.length listed a w
  | [], l, listed, a, w, _, _, hok, _, h => by
    simp only [okPlan, Bool.and_eq_true, List.isEmpty_iff] at hok
    obtain ⟨rfl, hr⟩ := hok
    exact ⟨hr, h⟩
  | (m, bar) :: ms, l, listed, a, w, hcl, hget, hok, hd, h => by
    simp only [okPlan, Bool.and_eq_true] at hok
    obtain ⟨hq, hrest⟩ := hok
    obtain ⟨aE, hw, hk⟩ := h
    rw [pick_map] at hw
    rw [← pick_left_length m l, Nat.add_comm]
    refine wpAnyTI_quiets hkind hs hdn (fun c a a' w h => hQ _ _ _ _ (by simp) h) htail (C := Cl w) (aE := aE) (hCr w) get _ _ _ _ hcl (fun i hi => hget i (pick_mem _ _ _ hi)) hq hd hw fun hsz hcl2 => ?_
    rw [left_map] at hk
    cases hl : left m l with
    | nil =>
      rw [hl] at hk hrest
      simp only [Bool.and_eq_true, List.isEmpty_iff] at hrest
      exact ⟨hrest.2, hk⟩
    | cons f l' =>
      rw [hl] at hk hrest
      simp only [Bool.and_eq_true, beq_iff_eq] at hrest
      obtain ⟨⟨hr, hb⟩, hok'⟩ := hrest
      have hgl : ∀ i ∈ left m l, ops[i]? = some (get i) := fun i hi => hget i (left_mem _ _ _ hi)
      rw [hl] at hgl
      have hf := hgl f (by simp)
      refine ⟨fun h0 => (by rw [hr] at h0; cases h0), fun i hi => ?_⟩
      rw [hr] at hi
      obtain rfl : i = f := by simpa using hi
      refine wpOpIn_of_one (K := SegsI Cl d lr P ops Q ms (l'.map get)) hf (fun a' w' hs' he hk' => ?_) hk
      have ih := wpAnyTI_of_segs hCr hCt hkind hs hdn hQ htail get ms l' _ a' w' (hcl2.set (by rw [hr]; simp)) (fun j hj => hgl j (by simp [hj])) hok' (by rw [hs', hsz]; exact hd) hk'
      cases bar with
      | false =>
        simp only [Bool.false_eq_true, if_false, decide_eq_true_eq] at hb
        exact ⟨fun _ => he rfl, wpAnyTI_mono (fun W hW => hCt (he rfl) hW) _ _ _ _ ih⟩
      | true =>
        simp only [if_true, Bool.and_eq_true, decide_eq_true_eq, List.all_eq_true, List.mem_range] at hb
        refine ⟨fun h => (by omega), wpAnyTI_late _ _ _ _ (fun j hj => ?_) ih⟩
        have h1 := hb.1 j hj
        have hij : i ≠ j := by omega
        rw [getD_set_ne true hij]; exact h1



end
theorem segsI_cons {Cl : World → World → Prop} {d lr : Nat} {P : Program} {ops : Array Oper} {Q : Exit → Act → World → Prop} {r : List Nat} {bar : Bool} {ms : List (List Nat × Bool)} {l : List Oper} {a aE : Act} {w : World} (h1 : ∀ W, Cl w W → wpList P ops (QEnd aE W) (pick (runsT r) l) a W)
    (h2 : match left (runsT r) l with | [] => Q .normal aE w | o :: l' => wpListIn (Fence.wide.inRound lr) d P ops (FEndB Cl bar w (SegsI Cl d lr P ops Q (planOf ms) l')) [o] aE w) : SegsI Cl d lr P ops Q (planOf ((r, bar) :: ms)) l a w := ⟨aE, h1, h2⟩
theorem segsI_nil {Cl : World → World → Prop} {d lr : Nat} {P : Program} {ops : Array Oper} {Q : Exit → Act → World → Prop} {l : List Oper} {a : Act} {w : World} (h : Q .normal a w) : SegsI Cl d lr P ops Q (planOf []) l a w := h
theorem wpIn_region_segs {P : Program} {Cl : World → World → Prop} {d id lr : Nat} {l : List Oper} {Q : Exit → Act → World → Prop} {a : Act} {w : World} (hCr : ∀ w, Cl w w) (hCt : ∀ {a b c : World}, Cl a b → Cl b c → Cl a c) (n : Nat) (plan : List (List Nat × Bool)) (hm : P.follows .mixedOrders = true) (hdn : noDefer l.toArray = true)
    (hB : okRegion P l.toArray n (planOf plan) a.tmps.size = true) (h : SegsI Cl d lr P l.toArray Q (planOf plan) l a w.drew) : (Code.region id l.toArray true).wpIn (Fence.wide.inRound lr) d P Q a w := by
  simp only [okRegion, Bool.and_eq_true] at hB
  obtain ⟨⟨⟨h1, h2⟩, h3⟩, h4⟩ := hB
  refine wpIn_mono (Q := NP Q) ?_ (fun e a w h => by cases e <;> first | exact h | exact h.elim)
  refine wpIn_region_any hm (wpAnyIn_of_T (n := n) (C := Cl w.drew) _ _ _ _ ?_)
  have hl : (List.range l.toArray.size).map (fun i => l.toArray.getD i default) = l := by
    apply List.ext_getElem
    · simp
    · intro i h1 h2
      simp at h1
      simp [h1]
  have key : ∀ (plan : List (List Bool × Bool)) (l' : List Oper) (a : Act) (w : World), SegsI Cl d lr P l.toArray Q plan l' a w → SegsI Cl d lr P l.toArray (NP Q) plan l' a w := by
    intro plan
    induction plan with
    | nil => intro l' a w h; exact h
    | cons s plan ih =>
      obtain ⟨m, bar⟩ := s
      intro l' a w h
      obtain ⟨aE, h1, h2⟩ := h
      refine ⟨aE, h1, ?_⟩
      cases hl : left m l' with
      | nil => rw [hl] at h2; exact h2
      | cons o l'' =>
        rw [hl] at h2
        dsimp only at h2 ⊢
        have : FEndB Cl bar w (SegsI Cl d lr P l.toArray Q plan l'') = FEndB Cl bar w (SegsI Cl d lr P l.toArray Q plan l'') := rfl
        unfold wpListIn at h2 ⊢
        split
        · rename_i hw
          simp only [hw, if_true] at h2
          exact ⟨h2.1, uponIn_mono2 (fun a' w' _ hk => ⟨hk.1, ih _ _ _ hk.2⟩) (fun e a w he hq => by cases e <;> first | exact absurd rfl he | exact hq.elim) h2.2⟩
        · rename_i hw
          simp only [hw] at h2
          exact ⟨h2.1, h2.2.1, ih _ _ _ h2.2.2⟩
  have := wpAnyTI_of_segs (Cl := Cl) hCr hCt (P := P) (ops := l.toArray) (md := .any) (Q := NP Q) (n := n) (kind := kind) kind_quiet h1 hdn (fun e a a' w he hq => by cases e <;> first | exact absurd rfl he | exact hq.elim) h2 (fun i => l.toArray.getD i default) (planOf plan) (List.range l.toArray.size) _ a w.drew
    (fun j o ho hl => by
      have h' : (Array.replicate l.toArray.size false).getD j false = false := by simp [Array.getD]
      rw [h'] at hl
      cases hl) (fun i hi => by
      have hi' : i < l.length := by simpa using hi
      simp [hi']) h4 h3 (by rw [hl]; exact key (planOf plan) l a _ h)
  simpa using this
end Go.SegC
end

section
namespace Go.Proofs.Ytdfbfcglacalmaa.Prg
open Go.RowKit Go.Shelf Go.Seg Go.Open Go.Lib
attribute [local go_sem] Oper.semAt_some

/-- A call, bare. -/
def bareF (f : Nat → Int) (j : Nat) : Int := if 0 ≤ f 0 ∧ f 0 ≤ 7 then (if j = 0 ∨ j ∈ ownL (f 0) then f j else 0) else 0
def RI : Row.Ty Try.prog := ⟨24, 3, .int .i64 0, 1, 8, Try.underlying24, by kernel_rfl, rfl, by decide, by decide⟩
/-- What lies there while the places are gone through: the numbers that have come. -/
theorem blk_own {β : Type} (b : Nat) (E : TypeId) (cs : β → Array Value) (B : Nat) : OwnFrom B (fun s W => Blk W b (cs s) E) := fun s W W' row hs hg hr => by
  dsimp only at hs ⊢
  unfold Blk at *
  rw [hg.block b (Array.getElem?_eq_some_iff.1 hs).1 (fun e => by
    obtain ⟨_, o, ho, hc⟩ := hr b e.symm
    rw [ho] at hs; cases hs; cases hc)]
  exact hs
/-- The numbers that have come, in a bare call. -/
def outF (f : Nat → Int) (pre : List Nat) (j : Nat) : Int := if j = 0 ∨ j ∈ pre then f j else 0
theorem outF_all (f : Nat → Int) (h : 0 ≤ f 0 ∧ f 0 ≤ 7) (j : Nat) : outF f (ownL (f 0)) j = bareF f j := by unfold outF bareF; rw [if_pos h]
/-- What lies there while they are put into the bare call. -/
theorem ownL_lt {k : Int} {j : Nat} (h : j ∈ ownL k) : j < 5 := by
  unfold ownL at h
  split at h
  · simp at h; omega
  · split at h
    · simp at h; omega
    · split at h
      · simp at h; omega
      · simp at h
theorem ownL_pos {k : Int} {j : Nat} (h : j ∈ ownL k) : 0 < j := by
  unfold ownL at h
  split at h
  · simp at h; omega
  · split at h
    · simp at h; omega
    · split at h
      · simp at h; omega
      · simp at h
theorem ownL_len (k : Int) : (ownL k).length ≤ 4 := by
  unfold ownL
  repeat' split
  all_goals simp
theorem opa_at (f : Nat → Int) (j : Nat) (h : j < 5) : (#[.int .i64 (f 0), .int .i64 (f 1), .int .i64 (f 2), .int .i64 (f 3), .int .i64 (f 4)] : Array Value)[j]? = some (.int .i64 (f j)) := by
  match j, h with
  | 0, _ => rfl
  | 1, _ => rfl
  | 2, _ => rfl
  | 3, _ => rfl
  | 4, _ => rfl
theorem opa_set (f : Nat → Int) (pre : List Nat) (j : Nat) (h : j < 5) (h0 : 0 < j) : (#[.int .i64 ((outF f pre) 0), .int .i64 ((outF f pre) 1), .int .i64 ((outF f pre) 2), .int .i64 ((outF f pre) 3), .int .i64 ((outF f pre) 4)] : Array Value).setIfInBounds j (.int .i64 (f j)) = #[.int .i64 ((outF f (pre ++ [j])) 0), .int .i64 ((outF f (pre ++ [j])) 1), .int .i64 ((outF f (pre ++ [j])) 2), .int .i64 ((outF f (pre ++ [j])) 3), .int .i64 ((outF f (pre ++ [j])) 4)] := by
  have e : ∀ i, i ≠ j → outF f pre i = outF f (pre ++ [j]) i := fun i hi => by unfold outF; simp [hi]
  have e' : f j = outF f (pre ++ [j]) j := by unfold outF; simp
  match j, h, h0 with
  | 1, _, _ => rw [e', e 0 (by decide), e 2 (by decide), e 3 (by decide), e 4 (by decide)]; rfl
  | 2, _, _ => rw [e', e 0 (by decide), e 1 (by decide), e 3 (by decide), e 4 (by decide)]; rfl
  | 3, _, _ => rw [e', e 0 (by decide), e 1 (by decide), e 2 (by decide), e 4 (by decide)]; rfl
  | 4, _, _ => rw [e', e 0 (by decide), e 1 (by decide), e 2 (by decide), e 3 (by decide)]; rfl
theorem blk_ne {W : World} {b b' : Nat} {cs cs' : Array Value} {t t' : TypeId} (h : Blk W b cs t) (h' : Blk W b' cs' t') (ht : t ≠ t') : b ≠ b' := fun e => by
  subst e
  have := (show W.heap[b]? = _ from h).symm.trans h'
  simp at this
  exact ht this.2
theorem blk_chg1 {W W' : World} {b b' : Nat} {cs : Array Value} {t : TypeId} (h : Blk W b cs t) (hc : Chg (· = b') W W') (hn : b ≠ b') : Blk W' b cs t := (hc.block b h.lt (fun e => hn e)).trans h
theorem _root_.Go.Open.Chg.drew1 {S : Nat → Prop} {W W' : World} (h : Chg S W.drew W') : Chg S W W' := ⟨h.os, h.tape, h.output, h.size, h.block⟩
theorem kp_b {n₀ : Nat} {w : World} (hn : n₀ ≤ w.heap.size) : ∀ (W : World) (l : Nat) (o o' : Obj), w.heap.size ≤ l → W.heap[l]? = some o → o.isCells = false → o.isWalk = false → Below n₀ W (W.putObj l o') := fun W l o o' hl ho hc hw => belowK_b (w := w) hn W l o o' hl ho hc hw
theorem _root_.Go.Open.blk_at {w : World} {cs : Array Value} {E k : Nat} (h : k = w.heap.size) : Blk (w.alloc (.cells cs E)) k cs E := h ▸ Blk.new w cs E
theorem _root_.Go.Open.Blk.al {w : World} {b : Nat} {cs : Array Value} {E : TypeId} (h : Blk w b cs E) (o : Obj) : Blk (w.alloc o) b cs E := h.ext ((Below.refl _ _).alloc (Nat.le_refl _) _)
theorem _root_.Go.Row.allocs5 (w : World) (a b c d e : Obj) : Ext w (((((w.alloc a).alloc b).alloc c).alloc d).alloc e) :=
  ((((((Below.refl _ _).alloc (Nat.le_refl _) _).alloc (by simp) _).alloc (by simp; omega) _).alloc (by simp; omega) _).alloc (by simp; omega) _)
theorem blk_not_row {W : World} {b : Nat} {cs : Array Value} {t e : TypeId} (h : Blk W b cs t) (hte : t ≠ e) {base size k : Nat} {v : Value} {xs : List Value} (hr : W.ownsRow base e size v k xs) : some b ≠ v.ownBlock := by
  rcases hr.2 with ⟨rfl, _⟩ | ⟨g, cap, cur, rfl, _, hgb, _⟩
  · simp [Value.ownBlock]
  · intro e'
    obtain rfl : b = g := by simpa [Value.ownBlock] using e'
    have := (show W.heap[b]? = _ from h).symm.trans hgb
    simp at this
    exact hte this.2
theorem keepsTy_row {W W' : World} {E e : TypeId} {base size k : Nat} {v : Value} {xs : List Value} (h : W.ownsRow base e size v k xs) (he : e ≠ E) (hg : W.grownBy W' v.ownBlock) : KeepsTy E W W' := keepsTy_grown hg (fun j hj cs f hc => by
  rcases h.2 with ⟨rfl, _⟩ | ⟨g, cap, cur, rfl, _, hgb, _⟩
  · simp [Value.ownBlock] at hj
  · obtain rfl : g = j := by simpa [Value.ownBlock] using hj
    have := hgb.symm.trans hc
    simp at this
    exact he this.2.1)
theorem blk_put {W : World} {b D : Nat} {cs : Array Value} {t : TypeId} {o : Obj} (h : Blk W b cs t) (hne : b ≠ D) : Blk (W.putObj D o) b cs t := by
  unfold Blk at *
  rw [World.putObj_heap_other hne]
  exact h
theorem results_struct1 {P : Program} {fn : Func} {p : Tmp} {ty : TypeId} (h : fn.results = #[.cell p ty]) {tmps : Array Value} {k : Nat} {c : Array Value} {W : World}
    (hp : tmps.getD p undef = .pointer (some ⟨k, 0, none⟩)) (hB : Blk W k c ty)
    (hd : (match P.underlying ty with | some (.struct _) | some (.array _ _) => true | _ => false) = true) (hi : (P.info? ty).map (·.size) = some c.size) :
    (results fn tmps).run P W = .ok (.agg c) W := by
  simp only [results, h]
  simp [Sem.run_bind, Result.andThen]
  rw [show tmps[p]?.getD undef = .pointer (some ⟨k, 0, none⟩) by simpa using hp]
  simp only [asAddr, Sem.run_pure]
  cases hu : P.underlying ty with
  | none => simp [hu] at hd
  | some d =>
  rw [run_loadVar_row W k ty ty c (0, 0) d hB hu (by rw [hu] at hd; cases d <;> first | rfl | exact hd) hi]
theorem blk_grown {W W' : World} {b : Nat} {cs : Array Value} {t : TypeId} {row : Option Nat} (h : Blk W b cs t) (hg : W.grownBy W' row) (hne : some b ≠ row) : Blk W' b cs t := (hg.block b h.lt hne).trans h
theorem blk_other {W : World} {b B : Nat} {cs : Array Value} {t : TypeId} (h : Blk W b cs t) (hne : b ≠ B) (i : Nat) (u : Value) : Blk (W.setCell ⟨B, i, none⟩ u) b cs t := by
  unfold Blk at *
  rw [Below.heap_setCell _ _ _ _ (show b ≠ B from hne)]; exact h

end Go.Proofs.Ytdfbfcglacalmaa.Prg
end

section
namespace Go.Proofs.Ytdfbfcglacalmaa.Prg
open Go.RowKit Go.Shelf Go.Seg Go.Open Go.Lib

def sameO (x y : Nat → Int) : Bool := x 0 == y 0 && (x 1 == y 1 && (x 2 == y 2 && (x 3 == y 3 && x 4 == y 4)))
theorem eql_op (x y : Nat → Int) (W : World) : (binOp .eql 39 (.agg (#[.int .i64 (x 0), .int .i64 (x 1), .int .i64 (x 2), .int .i64 (x 3), .int .i64 (x 4)])) (.agg (#[.int .i64 (y 0), .int .i64 (y 1), .int .i64 (y 2), .int .i64 (y 3), .int .i64 (y 4)]))).run Try.prog W = .ok (.bool (sameO x y)) W := by
  unfold sameO
  by_cases h0 : x 0 = y 0 <;> by_cases h1 : x 1 = y 1 <;> by_cases h2 : x 2 = y 2 <;> by_cases h3 : x 3 = y 3 <;> by_cases h4 : x 4 = y 4 <;> go_simp
/-- Is a call right? -/
def rightB (f : Nat → Int) : Bool := decide (0 ≤ f 0 ∧ f 0 ≤ 7) && sameO (bareF f) f
end Go.Proofs.Ytdfbfcglacalmaa.Prg
end

section
namespace Go.Proofs.Ytdfbfcglacalmaa.Prg
open Go.RowKit Go.Shelf Go.Seg Go.Open Go.Lib

def five (k a b c d : Int) : Nat → Int
  | 0 => k
  | 1 => a
  | 2 => b
  | 3 => c
  | _ => d
theorem bare_five (f : Nat → Int) (j : Nat) (h : j < 5) : bareF (five (f 0) (f 1) (f 2) (f 3) (f 4)) j = bareF f j := by
  unfold bareF
  match j, h with
  | 0, _ => rfl
  | 1, _ => rfl
  | 2, _ => rfl
  | 3, _ => rfl
  | 4, _ => rfl
set_option maxHeartbeats 2000000 in
theorem rBare5 (k a b c d : Int) (w : World) : Calls Try.prog 38 #[.agg #[.int .i64 k, .int .i64 a, .int .i64 b, .int .i64 c, .int .i64 d]] w fun e w' => e = .returned (.agg #[.int .i64 ((bareF (five k a b c d)) 0), .int .i64 ((bareF (five k a b c d)) 1), .int .i64 ((bareF (five k a b c d)) 2), .int .i64 ((bareF (five k a b c d)) 3), .int .i64 ((bareF (five k a b c d)) 4)]) ∧ Ext w w' := by
  have hE : ∀ cs cs', Ext w ((w.alloc (.cells cs 39)).alloc (.cells cs' 39)) := fun cs cs' => ((Below.refl _ _).alloc (Nat.le_refl _) _).alloc (by simp) _
  have HE := Lib.hid hE
  clear hE
  have hst := fun W cs (h : cs.size = 5) (h1 : cs.all (·.oneCell') = true) => Go.run_storeCells_new (P := Try.prog) W 39 #[.int .i64 0, .int .i64 0, .int .i64 0, .int .i64 0, .int .i64 0] cs (by rw [h]; kernel_rfl) (by rw [h]; rfl) h1
  have HS := Lib.hid hst
  clear hst
  by_cases h1 : k = 1
  · subst h1
    have e : bareF (five 1 a b c d) 0 = 1 ∧ bareF (five 1 a b c d) 1 = a ∧ bareF (five 1 a b c d) 2 = 0 ∧ bareF (five 1 a b c d) 3 = 0 ∧ bareF (five 1 a b c d) 4 = 0 := ⟨rfl, rfl, rfl, rfl, rfl⟩
    rw [e.1, e.2.1, e.2.2.1, e.2.2.2.1, e.2.2.2.2]
    clear e
    have hst := HS.out (w.alloc (.cells #[.int .i64 1, .int .i64 a, .int .i64 b, .int .i64 c, .int .i64 d] 39)) #[.int .i64 1, .int .i64 a, .int .i64 0, .int .i64 0, .int .i64 0] rfl (by simp [Value.oneCell'])
    go_enter Try.func38, Try.ntmps38
    go_wp2_with fail
    refine bodyPost_ret (results_struct1 (k := w.heap.size + 1) rfl rfl (blk_at (by simp)) (by kernel_rfl) (by kernel_rfl)) rfl ?_
    exact ⟨rfl, HE.out _ _⟩
  by_cases h3 : k = 3
  · subst h3
    have e : bareF (five 3 a b c d) 0 = 3 ∧ bareF (five 3 a b c d) 1 = a ∧ bareF (five 3 a b c d) 2 = 0 ∧ bareF (five 3 a b c d) 3 = 0 ∧ bareF (five 3 a b c d) 4 = 0 := ⟨rfl, rfl, rfl, rfl, rfl⟩
    rw [e.1, e.2.1, e.2.2.1, e.2.2.2.1, e.2.2.2.2]
    clear e
    have hst := HS.out (w.alloc (.cells #[.int .i64 3, .int .i64 a, .int .i64 b, .int .i64 c, .int .i64 d] 39)) #[.int .i64 3, .int .i64 a, .int .i64 0, .int .i64 0, .int .i64 0] rfl (by simp [Value.oneCell'])
    go_enter Try.func38, Try.ntmps38
    go_wp2_with fail
    refine bodyPost_ret (results_struct1 (k := w.heap.size + 1) rfl rfl (blk_at (by simp)) (by kernel_rfl) (by kernel_rfl)) rfl ?_
    exact ⟨rfl, HE.out _ _⟩
  by_cases h2 : k = 2
  · subst h2
    have e : bareF (five 2 a b c d) 0 = 2 ∧ bareF (five 2 a b c d) 1 = a ∧ bareF (five 2 a b c d) 2 = b ∧ bareF (five 2 a b c d) 3 = c ∧ bareF (five 2 a b c d) 4 = d := ⟨rfl, rfl, rfl, rfl, rfl⟩
    rw [e.1, e.2.1, e.2.2.1, e.2.2.2.1, e.2.2.2.2]
    clear e
    have hst := HS.out (w.alloc (.cells #[.int .i64 2, .int .i64 a, .int .i64 b, .int .i64 c, .int .i64 d] 39)) #[.int .i64 2, .int .i64 a, .int .i64 b, .int .i64 c, .int .i64 d] rfl (by simp [Value.oneCell'])
    go_enter Try.func38, Try.ntmps38
    go_wp2_with fail
    refine bodyPost_ret (results_struct1 (k := w.heap.size + 1) rfl rfl (blk_at (by simp)) (by kernel_rfl) (by kernel_rfl)) rfl ?_
    exact ⟨rfl, HE.out _ _⟩
  by_cases h4 : k = 4
  · subst h4
    have e : bareF (five 4 a b c d) 0 = 4 ∧ bareF (five 4 a b c d) 1 = 0 ∧ bareF (five 4 a b c d) 2 = 0 ∧ bareF (five 4 a b c d) 3 = 0 ∧ bareF (five 4 a b c d) 4 = 0 := ⟨rfl, rfl, rfl, rfl, rfl⟩
    rw [e.1, e.2.1, e.2.2.1, e.2.2.2.1, e.2.2.2.2]
    clear e
    have hst := HS.out (w.alloc (.cells #[.int .i64 4, .int .i64 a, .int .i64 b, .int .i64 c, .int .i64 d] 39)) #[.int .i64 4, .int .i64 0, .int .i64 0, .int .i64 0, .int .i64 0] rfl (by simp [Value.oneCell'])
    go_enter Try.func38, Try.ntmps38
    go_wp2_with fail
    refine bodyPost_ret (results_struct1 (k := w.heap.size + 1) rfl rfl (blk_at (by simp)) (by kernel_rfl) (by kernel_rfl)) rfl ?_
    exact ⟨rfl, HE.out _ _⟩
  by_cases h5 : k = 5
  · subst h5
    have e : bareF (five 5 a b c d) 0 = 5 ∧ bareF (five 5 a b c d) 1 = 0 ∧ bareF (five 5 a b c d) 2 = 0 ∧ bareF (five 5 a b c d) 3 = 0 ∧ bareF (five 5 a b c d) 4 = 0 := ⟨rfl, rfl, rfl, rfl, rfl⟩
    rw [e.1, e.2.1, e.2.2.1, e.2.2.2.1, e.2.2.2.2]
    clear e
    have hst := HS.out (w.alloc (.cells #[.int .i64 5, .int .i64 a, .int .i64 b, .int .i64 c, .int .i64 d] 39)) #[.int .i64 5, .int .i64 0, .int .i64 0, .int .i64 0, .int .i64 0] rfl (by simp [Value.oneCell'])
    go_enter Try.func38, Try.ntmps38
    go_wp2_with fail
    refine bodyPost_ret (results_struct1 (k := w.heap.size + 1) rfl rfl (blk_at (by simp)) (by kernel_rfl) (by kernel_rfl)) rfl ?_
    exact ⟨rfl, HE.out _ _⟩
  by_cases h6 : k = 6
  · subst h6
    have e : bareF (five 6 a b c d) 0 = 6 ∧ bareF (five 6 a b c d) 1 = 0 ∧ bareF (five 6 a b c d) 2 = 0 ∧ bareF (five 6 a b c d) 3 = 0 ∧ bareF (five 6 a b c d) 4 = 0 := ⟨rfl, rfl, rfl, rfl, rfl⟩
    rw [e.1, e.2.1, e.2.2.1, e.2.2.2.1, e.2.2.2.2]
    clear e
    have hst := HS.out (w.alloc (.cells #[.int .i64 6, .int .i64 a, .int .i64 b, .int .i64 c, .int .i64 d] 39)) #[.int .i64 6, .int .i64 0, .int .i64 0, .int .i64 0, .int .i64 0] rfl (by simp [Value.oneCell'])
    go_enter Try.func38, Try.ntmps38
    go_wp2_with fail
    refine bodyPost_ret (results_struct1 (k := w.heap.size + 1) rfl rfl (blk_at (by simp)) (by kernel_rfl) (by kernel_rfl)) rfl ?_
    exact ⟨rfl, HE.out _ _⟩
  by_cases h7 : k = 7
  · subst h7
    have e : bareF (five 7 a b c d) 0 = 7 ∧ bareF (five 7 a b c d) 1 = 0 ∧ bareF (five 7 a b c d) 2 = 0 ∧ bareF (five 7 a b c d) 3 = c ∧ bareF (five 7 a b c d) 4 = 0 := ⟨rfl, rfl, rfl, rfl, rfl⟩
    rw [e.1, e.2.1, e.2.2.1, e.2.2.2.1, e.2.2.2.2]
    clear e
    have hst := HS.out (w.alloc (.cells #[.int .i64 7, .int .i64 a, .int .i64 b, .int .i64 c, .int .i64 d] 39)) #[.int .i64 7, .int .i64 0, .int .i64 0, .int .i64 c, .int .i64 0] rfl (by simp [Value.oneCell'])
    go_enter Try.func38, Try.ntmps38
    go_wp2_with fail
    refine bodyPost_ret (results_struct1 (k := w.heap.size + 1) rfl rfl (blk_at (by simp)) (by kernel_rfl) (by kernel_rfl)) rfl ?_
    exact ⟨rfl, HE.out _ _⟩
  have e : ∀ j, bareF (five k a b c d) j = 0 := fun j => by
    unfold bareF ownL
    show (if 0 ≤ k ∧ k ≤ 7 then (if j = 0 ∨ j ∈ (if k = 1 ∨ k = 3 then [1] else if k = 2 then [1, 2, 3, 4] else if k = 7 then [3] else []) then five k a b c d j else 0) else 0) = 0
    rw [if_neg (show ¬ (k = 1 ∨ k = 3) by omega), if_neg h2, if_neg h7]
    split
    · split
      · rename_i h8 h9
        obtain rfl : j = 0 := by simpa using h9
        show k = 0
        omega
      · rfl
    · rfl
  rw [e 0, e 1, e 2, e 3, e 4]
  clear e
  have d1 : (k == 1) = false := by simpa using h1
  have d3 : (k == 3) = false := by simpa using h3
  have d2 : (k == 2) = false := by simpa using h2
  have d4 : (k == 4) = false := by simpa using h4
  have d5 : (k == 5) = false := by simpa using h5
  have d6 : (k == 6) = false := by simpa using h6
  have d7 : (k == 7) = false := by simpa using h7
  clear h1 h2 h3 h4 h5 h6 h7
  have hst := HS.out (w.alloc (.cells #[.int .i64 k, .int .i64 a, .int .i64 b, .int .i64 c, .int .i64 d] 39)) #[.int .i64 0, .int .i64 0, .int .i64 0, .int .i64 0, .int .i64 0] rfl (by simp [Value.oneCell'])
  go_enter Try.func38, Try.ntmps38
  go_wp2_with fail
  refine bodyPost_ret (results_struct1 (k := w.heap.size + 1) rfl rfl (blk_at (by simp)) (by kernel_rfl) (by kernel_rfl)) rfl ?_
  exact ⟨rfl, HE.out _ _⟩
theorem rBare (f : Nat → Int) (w : World) : Calls Try.prog 38 #[.agg #[.int .i64 (f 0), .int .i64 (f 1), .int .i64 (f 2), .int .i64 (f 3), .int .i64 (f 4)]] w fun e w' => e = .returned (.agg #[.int .i64 ((bareF f) 0), .int .i64 ((bareF f) 1), .int .i64 ((bareF f) 2), .int .i64 ((bareF f) 3), .int .i64 ((bareF f) 4)]) ∧ Ext w w' := by
  have h := rBare5 (f 0) (f 1) (f 2) (f 3) (f 4) w
  rw [bare_five f 0 (by decide), bare_five f 1 (by decide), bare_five f 2 (by decide), bare_five f 3 (by decide), bare_five f 4 (by decide)] at h
  exact h
/-- The document's and the program's agree. -/
theorem rRight (f : Nat → Int) (w : World) : Calls Try.prog 27 #[.agg #[.int .i64 (f 0), .int .i64 (f 1), .int .i64 (f 2), .int .i64 (f 3), .int .i64 (f 4)]] w fun e w' => e = .returned (.bool (rightB f)) ∧ Ext w w' := by
  have hB : Blk (w.alloc (.cells (#[.int .i64 (f 0), .int .i64 (f 1), .int .i64 (f 2), .int .i64 (f 3), .int .i64 (f 4)]) 39)) w.heap.size (#[.int .i64 (f 0), .int .i64 (f 1), .int .i64 (f 2), .int .i64 (f 3), .int .i64 (f 4)]) 39 := Blk.new _ _ _
  have hE : Ext w (w.alloc (.cells (#[.int .i64 (f 0), .int .i64 (f 1), .int .i64 (f 2), .int .i64 (f 3), .int .i64 (f 4)]) 39)) := (Below.refl _ _).alloc (Nat.le_refl _) _
  have HB := Lib.hid (And.intro hB hE)
  clear hB hE
  unfold rightB
  by_cases h0 : 0 ≤ f 0
  · by_cases h7 : f 0 ≤ 7
    · rw [decide_eq_true (show 0 ≤ f 0 ∧ f 0 ≤ 7 from ⟨h0, h7⟩), Bool.true_and]
      have d0 : decide (0 ≤ f 0) = true := decide_eq_true h0
      have d7 : decide (f 0 ≤ 7) = true := decide_eq_true h7
      clear h0 h7
      go_enter Try.func27, Try.ntmps27
      go_wp2_with fail
      obtain ⟨W0, hW0⟩ : ∃ W, w.alloc (.cells (#[.int .i64 (f 0), .int .i64 (f 1), .int .i64 (f 2), .int .i64 (f 3), .int .i64 (f 4)]) 39) = W := ⟨_, rfl⟩
      rw [hW0] at HB ⊢
      clear hW0
      refine wp_region_segs 15 [([10, 1, 1, 3], false), ([0, 3], false), ([2], false)] (by kernel_rfl) (by kernel_rfl) ?_
      apply segs_cons
      · intro W hW
        have hc : ∀ i, W.cell? ⟨w.heap.size, i, none⟩ = (#[.int .i64 (f 0), .int .i64 (f 1), .int .i64 (f 2), .int .i64 (f 3), .int .i64 (f 4)] : Array Value)[i]? := fun i => ((HB.out.1.ext (Ext.drew _)).ext hW).cells i
        simp only [runsT, runsF, rep, pick]
        go_wp2_with fail
        exact ⟨rfl, rfl⟩
      simp only [runsT, runsF, rep, left]
      go_wp2_with fail
      refine (rBare f _).mono ?_
      rintro e w1 ⟨rfl, hE1⟩
      have HE1 := Lib.hid hE1
      clear hE1
      go_wp2_with fail
      refine ⟨fun _ => HE1.out, ?_⟩
      apply segs_cons
      · intro W hW
        exact ⟨rfl, rfl⟩
      simp only [runsT, runsF, rep, left]
      go_wp2_with fail
      all_goals (
        refine ⟨fun _ => Ext.refl _, ?_⟩
        apply segs_cons
        · intro W hW
          simp only [runsT, runsF, rep, pick]
          go_wp2_with fail
          exact ⟨rfl, rfl⟩
        simp only [runsT, runsF, rep, left]
        go_wp2_with fail
        go_ret
        exact ⟨by simp [sameO, *], HB.out.2.trans (Ext.trans (Ext.drew _) HE1.out)⟩)
    · rw [decide_eq_false (show ¬ (0 ≤ f 0 ∧ f 0 ≤ 7) from fun h => h7 h.2), Bool.false_and]
      have d0 : decide (0 ≤ f 0) = true := decide_eq_true h0
      have d7 : decide (f 0 ≤ 7) = false := decide_eq_false h7
      clear h0 h7
      go_enter Try.func27, Try.ntmps27
      go_wp2_with fail
      obtain ⟨W0, hW0⟩ : ∃ W, w.alloc (.cells (#[.int .i64 (f 0), .int .i64 (f 1), .int .i64 (f 2), .int .i64 (f 3), .int .i64 (f 4)]) 39) = W := ⟨_, rfl⟩
      rw [hW0] at HB ⊢
      clear hW0
      refine wp_region_segs 15 [([10, 1, 1, 3], false), ([0, 3], false), ([2], false)] (by kernel_rfl) (by kernel_rfl) ?_
      apply segs_cons
      · intro W hW
        have hc : ∀ i, W.cell? ⟨w.heap.size, i, none⟩ = (#[.int .i64 (f 0), .int .i64 (f 1), .int .i64 (f 2), .int .i64 (f 3), .int .i64 (f 4)] : Array Value)[i]? := fun i => ((HB.out.1.ext (Ext.drew _)).ext hW).cells i
        simp only [runsT, runsF, rep, pick]
        go_wp2_with fail
        exact ⟨rfl, rfl⟩
      simp only [runsT, runsF, rep, left]
      go_wp2_with fail
      refine ⟨fun _ => Ext.refl _, ?_⟩
      apply segs_cons
      · intro W hW
        exact ⟨rfl, rfl⟩
      simp only [runsT, runsF, rep, left]
      go_wp2_with fail
      refine ⟨fun _ => Ext.refl _, ?_⟩
      apply segs_cons
      · intro W hW
        simp only [runsT, runsF, rep, pick]
        go_wp2_with fail
        exact ⟨rfl, rfl⟩
      simp only [runsT, runsF, rep, left]
      go_wp2_with fail
      go_ret
      exact ⟨rfl, HB.out.2.trans (Ext.drew _)⟩
  · rw [decide_eq_false (show ¬ (0 ≤ f 0 ∧ f 0 ≤ 7) from fun h => h0 h.1), Bool.false_and]
    have d0 : decide (0 ≤ f 0) = false := decide_eq_false h0
    clear h0
    go_enter Try.func27, Try.ntmps27
    go_wp2_with fail
    obtain ⟨W0, hW0⟩ : ∃ W, w.alloc (.cells (#[.int .i64 (f 0), .int .i64 (f 1), .int .i64 (f 2), .int .i64 (f 3), .int .i64 (f 4)]) 39) = W := ⟨_, rfl⟩
    rw [hW0] at HB ⊢
    clear hW0
    refine wp_region_segs 15 [([10, 1, 1, 3], false), ([0, 3], false), ([2], false)] (by kernel_rfl) (by kernel_rfl) ?_
    apply segs_cons
    · intro W hW
      have hc : ∀ i, W.cell? ⟨w.heap.size, i, none⟩ = (#[.int .i64 (f 0), .int .i64 (f 1), .int .i64 (f 2), .int .i64 (f 3), .int .i64 (f 4)] : Array Value)[i]? := fun i => ((HB.out.1.ext (Ext.drew _)).ext hW).cells i
      simp only [runsT, runsF, rep, pick]
      go_wp2_with fail
      exact ⟨rfl, rfl⟩
    simp only [runsT, runsF, rep, left]
    go_wp2_with fail
    refine ⟨fun _ => Ext.refl _, ?_⟩
    apply segs_cons
    · intro W hW
      exact ⟨rfl, rfl⟩
    simp only [runsT, runsF, rep, left]
    go_wp2_with fail
    refine ⟨fun _ => Ext.refl _, ?_⟩
    apply segs_cons
    · intro W hW
      simp only [runsT, runsF, rep, pick]
      go_wp2_with fail
      exact ⟨rfl, rfl⟩
    simp only [runsT, runsF, rep, left]
    go_wp2_with fail
    go_ret
    exact ⟨rfl, HB.out.2.trans (Ext.drew _)⟩
end Go.Proofs.Ytdfbfcglacalmaa.Prg
end

section
namespace Go.Proofs.Ytdfbfcglacalmaa.Hs
open Go.RowKit Go.Seg Go.Open Go.Lib Go.Arr Go.Stab Go.Row

/-- A slice of calls that is read. -/
structure VC (w : World) (a : Option Addr) (n b off : Nat) (T : List C) : Prop where
  len : T.length = n
  ad : 0 < n → a = some ⟨b, off, none⟩
  cells : ∀ W, Ext w W → ∀ i (h : i < T.length), ∀ j, j < 13 → W.cell? ⟨b, off + i * 13 + j, none⟩ = (enc T[i])[j]?
theorem VC.ext {w w' : World} {a : Option Addr} {len b off : Nat} {T : List C} (h : VC w a len b off T) (e : Ext w w') : VC w' a len b off T := ⟨h.len, h.ad, fun W hW => h.cells W (e.trans hW)⟩
theorem loadE' {P : Program} {W : World} {b o n : Nat} {x : List Value} (hx : x.length = n) (hc : ∀ j, j < n → W.cell? ⟨b, o + j, none⟩ = x[j]?) : (loadCellsFrom ⟨b, o, none⟩ 0 n #[]).run P W = .ok x.toArray W := by
  subst hx
  have := run_loadCells_list (P := P) W ⟨b, o, none⟩ x (fun j v hv => by
    have hadd : (⟨b, o, none⟩ : Addr).add j = ⟨b, o + j, none⟩ := by unfold Addr.add; split <;> simp_all
    have hj : j < x.length := (List.getElem?_eq_some_iff.1 hv).1
    rw [hadd, hc j hj]
    exact hv)
  simpa [loadCells] using this
/-- One of them. -/
structure At1 (w : World) (b o : Nat) (x : C) : Prop where
  ld : ∀ W, Ext w W → (Instr.loadAt 41 (.pointer (some ⟨b, o, none⟩))).run Try.prog W = .ok (CV x) W
  cl : ∀ W, Ext w W → ∀ j v, (enc x)[j]? = some v → W.cell? ⟨b, o + j, none⟩ = some v
theorem VC.at1 {w : World} {a : Option Addr} {len b off : Nat} {T : List C} (h : VC w a len b off T) (S R : List C) (x : C) (e : T = S ++ x :: R) (i : Nat) (hi : i = S.length) : At1 w b (off + i * 13) x := by
  subst hi
  have hl : S.length < T.length := by rw [e]; simp
  have h2 : T[S.length] = x := by subst e; simp
  have hc := fun W hW => h.cells W hW S.length hl
  rw [h2] at hc
  refine ⟨fun W hW => run_loadA (agg_ct W) (size_ct W) (loadE' (enc_len x) (hc W hW)), fun W hW j v hj => ?_⟩
  have hj' : j < 13 := (List.getElem?_eq_some_iff.1 hj).1
  rw [hc W hW j hj', hj]
theorem VC.get {w : World} {a : Option Addr} {len b off : Nat} {T : List C} (h : VC w a len b off T) {i : Nat} (hi : i < len) : ∃ S x R, T = S ++ x :: R ∧ S.length = i ∧ At1 w b (off + i * 13) x := by
  obtain ⟨S, x, R, e, hS⟩ := split_at T i (by rw [h.len]; exact hi)
  exact ⟨S, x, R, e, hS, h.at1 S R x e i hS.symm⟩
theorem VC.take {w : World} {a : Option Addr} {len b off : Nat} {T : List C} (h : VC w a len b off T) {i : Nat} (hi : i ≤ len) : VC w a i b off (T.take i) := by
  refine ⟨by rw [List.length_take, h.len]; omega, fun h0 => h.ad (by omega), fun W hW k hk j hj => ?_⟩
  have hk' : k < T.length := by rw [List.length_take] at hk; omega
  rw [List.getElem_take]
  exact h.cells W hW k hk' j hj
theorem VC.drop {w : World} {a : Option Addr} {len b off : Nat} {T : List C} (h : VC w a len b off T) {i : Nat} : VC w (some ⟨b, off + i * 13, none⟩) (len - i) b (off + i * 13) (T.drop i) := by
  refine ⟨by rw [List.length_drop, h.len], fun _ => rfl, fun W hW k hk j hj => ?_⟩
  have hk' : i + k < T.length := by rw [List.length_drop] at hk; omega
  rw [List.getElem_drop]
  have := h.cells W hW (i + k) hk' j hj
  rw [Nat.add_mul, ← Nat.add_assoc] at this
  exact this
/-- A call in a block of its own. -/
theorem at1_blk {w : World} {b : Nat} {x : C} (h : Blk w b (enc x).toArray 41) : At1 w b 0 x := by
  refine ⟨fun W hW => run_loadA (agg_ct W) (size_ct W) (struct_load (h.ext hW) 13 rfl), fun W hW j v hj => ?_⟩
  rw [Nat.zero_add]
  exact Blk.cell (h.ext hW) (by simpa using hj)

def ahead (x y : C) : Bool := decide (0 ≤ x.en) && decide (x.en < y.bgn)
def timed (x : C) : Bool := if x.bgn < 0 then false else if x.at_ < 0 then decide (x.en < 0) else decide (x.bgn ≤ x.at_) && (decide (x.en < 0) || decide (x.at_ ≤ x.en))
def alike (x y : C) : Bool := x.id == y.id || (decide (0 ≤ x.at_) && x.at_ == y.at_)
def apart (x y : C) : Bool := !alike x y && (x.cl != y.cl || (ahead x y || ahead y x))

theorem ext_alloc (w : World) (o : Obj) : Ext w (w.alloc o) := (Below.refl _ _).alloc (Nat.le_refl _) _
theorem two_boxes (w : World) (x y : C) : (Blk ((w.alloc (.cells (enc x).toArray 41)).alloc (.cells (enc y).toArray 41)) w.heap.size (enc x).toArray 41 ∧ Blk ((w.alloc (.cells (enc x).toArray 41)).alloc (.cells (enc y).toArray 41)) (w.heap.size + 1) (enc y).toArray 41) ∧ Ext w ((w.alloc (.cells (enc x).toArray 41)).alloc (.cells (enc y).toArray 41)) :=
  ⟨⟨(Blk.new _ _ _).al _, blk_at (by simp)⟩, (ext_alloc _ _).trans (ext_alloc _ _)⟩
theorem one_box (w : World) (x : C) : Blk (w.alloc (.cells (enc x).toArray 41)) w.heap.size (enc x).toArray 41 ∧ Ext w (w.alloc (.cells (enc x).toArray 41)) := ⟨Blk.new _ _ _, ext_alloc _ _⟩
theorem ahead_any (x y : C) (w : World) : Calls Try.prog 34 #[CV x, CV y] w fun e w' => e = .returned (.bool (ahead x y)) ∧ Ext w w' := by
  have HB := Lib.hid (two_boxes w x y)
  have p5 : ((w.alloc (.cells #[.int .i64 x.cl, .int .i64 x.id, .int .i64 x.k, .int .i64 x.a, .int .i64 x.b, .int .i64 x.c, .int .i64 x.d, .int .i64 x.bgn, .int .i64 x.at_, .int .i64 x.en, .int .i64 x.tick, .bool x.ok, .int .i64 x.val] 41)).alloc (.cells #[.int .i64 y.cl, .int .i64 y.id, .int .i64 y.k, .int .i64 y.a, .int .i64 y.b, .int .i64 y.c, .int .i64 y.d, .int .i64 y.bgn, .int .i64 y.at_, .int .i64 y.en, .int .i64 y.tick, .bool y.ok, .int .i64 y.val] 41)).cell? ⟨w.heap.size, 9, none⟩ = some (.int .i64 x.en) := Blk.cell (i := 9) HB.out.1.1 rfl
  have q3 : ((w.alloc (.cells #[.int .i64 x.cl, .int .i64 x.id, .int .i64 x.k, .int .i64 x.a, .int .i64 x.b, .int .i64 x.c, .int .i64 x.d, .int .i64 x.bgn, .int .i64 x.at_, .int .i64 x.en, .int .i64 x.tick, .bool x.ok, .int .i64 x.val] 41)).alloc (.cells #[.int .i64 y.cl, .int .i64 y.id, .int .i64 y.k, .int .i64 y.a, .int .i64 y.b, .int .i64 y.c, .int .i64 y.d, .int .i64 y.bgn, .int .i64 y.at_, .int .i64 y.en, .int .i64 y.tick, .bool y.ok, .int .i64 y.val] 41)).cell? ⟨w.heap.size + 1, 7, none⟩ = some (.int .i64 y.bgn) := Blk.cell (i := 7) HB.out.1.2 rfl
  unfold CV enc ahead
  by_cases h1 : 0 ≤ x.en
  · have d1 : decide (0 ≤ x.en) = true := decide_eq_true h1
    rw [d1, Bool.true_and]
    clear h1
    go_enter Try.func34, Try.ntmps34
    go_wp2_with fail
    go_ret
    exact ⟨rfl, HB.out.2⟩
  · have d1 : decide (0 ≤ x.en) = false := decide_eq_false h1
    rw [d1, Bool.false_and]
    clear h1
    go_enter Try.func34, Try.ntmps34
    go_wp2_with fail
    go_ret
    exact ⟨rfl, HB.out.2⟩
theorem rAhead_any (x y : C) (w : World) : Calls Try.prog 25 #[CV x, CV y] w fun e w' => e = .returned (.bool (ahead x y)) ∧ Ext w w' := by
  have HB := Lib.hid (two_boxes w x y)
  have p5 : ((w.alloc (.cells #[.int .i64 x.cl, .int .i64 x.id, .int .i64 x.k, .int .i64 x.a, .int .i64 x.b, .int .i64 x.c, .int .i64 x.d, .int .i64 x.bgn, .int .i64 x.at_, .int .i64 x.en, .int .i64 x.tick, .bool x.ok, .int .i64 x.val] 41)).alloc (.cells #[.int .i64 y.cl, .int .i64 y.id, .int .i64 y.k, .int .i64 y.a, .int .i64 y.b, .int .i64 y.c, .int .i64 y.d, .int .i64 y.bgn, .int .i64 y.at_, .int .i64 y.en, .int .i64 y.tick, .bool y.ok, .int .i64 y.val] 41)).cell? ⟨w.heap.size, 9, none⟩ = some (.int .i64 x.en) := Blk.cell (i := 9) HB.out.1.1 rfl
  have q3 : ((w.alloc (.cells #[.int .i64 x.cl, .int .i64 x.id, .int .i64 x.k, .int .i64 x.a, .int .i64 x.b, .int .i64 x.c, .int .i64 x.d, .int .i64 x.bgn, .int .i64 x.at_, .int .i64 x.en, .int .i64 x.tick, .bool x.ok, .int .i64 x.val] 41)).alloc (.cells #[.int .i64 y.cl, .int .i64 y.id, .int .i64 y.k, .int .i64 y.a, .int .i64 y.b, .int .i64 y.c, .int .i64 y.d, .int .i64 y.bgn, .int .i64 y.at_, .int .i64 y.en, .int .i64 y.tick, .bool y.ok, .int .i64 y.val] 41)).cell? ⟨w.heap.size + 1, 7, none⟩ = some (.int .i64 y.bgn) := Blk.cell (i := 7) HB.out.1.2 rfl
  unfold CV enc ahead
  by_cases h1 : 0 ≤ x.en
  · have d1 : decide (0 ≤ x.en) = true := decide_eq_true h1
    rw [d1, Bool.true_and]
    clear h1
    go_enter Try.func25, Try.ntmps25
    go_wp2_with fail
    go_ret
    exact ⟨rfl, HB.out.2⟩
  · have d1 : decide (0 ≤ x.en) = false := decide_eq_false h1
    rw [d1, Bool.false_and]
    clear h1
    go_enter Try.func25, Try.ntmps25
    go_wp2_with fail
    go_ret
    exact ⟨rfl, HB.out.2⟩

end Go.Proofs.Ytdfbfcglacalmaa.Hs
end

section
namespace Go.Proofs.Ytdfbfcglacalmaa.Hs
open Go.RowKit Go.Seg Go.Open Go.Lib Go.Arr Go.Stab Go.Row

def opR (x : C) : Bool := Prg.rightB (Prg.five x.k x.a x.b x.c x.d)
def OV (x : C) : Value := .agg #[.int .i64 x.k, .int .i64 x.a, .int .i64 x.b, .int .i64 x.c, .int .i64 x.d]
theorem rOpR_any (x : C) (w : World) : Calls Try.prog 27 #[OV x] w fun e w' => e = .returned (.bool (opR x)) ∧ Ext w w' := Prg.rRight (Prg.five x.k x.a x.b x.c x.d) w
theorem agg_op (w : World) : (isAgg 39).run Try.prog w = .ok true w := by kernel_rfl
theorem size_op (w : World) : (sizeOf 39).run Try.prog w = .ok 5 w := by kernel_rfl
/-- A call's Op, loaded whole. -/
theorem At1.op {w : World} {b o : Nat} {x : C} (h : At1 w b o x) (W : World) (hW : Ext w W) : (Instr.loadAt 39 (.pointer (some ⟨b, o + 2, none⟩))).run Try.prog W = .ok (OV x) W := by
  refine run_loadA (agg_op W) (size_op W) (loadE' (x := [.int .i64 x.k, .int .i64 x.a, .int .i64 x.b, .int .i64 x.c, .int .i64 x.d]) rfl (fun j hj => ?_))
  have h2 := h.cl W hW (2 + j)
  match j, hj with
  | 0, _ => exact h2 _ rfl
  | 1, _ => exact h2 _ rfl
  | 2, _ => exact h2 _ rfl
  | 3, _ => exact h2 _ rfl
  | 4, _ => exact h2 _ rfl
/-- A call laid into a new block. -/
def ZC : Array Value := #[.int .i64 0, .int .i64 0, .int .i64 0, .int .i64 0, .int .i64 0, .int .i64 0, .int .i64 0, .int .i64 0, .int .i64 0, .int .i64 0, .int .i64 0, .bool false, .int .i64 0]
theorem st_new (W : World) (x : C) : (Instr.storeAt 41 (.pointer (some ⟨W.heap.size, 0, none⟩)) (CV x)).run Try.prog (W.alloc (.cells ZC 41)) = .ok () (W.alloc (.cells (enc x).toArray 41)) :=
  run_storeA (size_ct _) rfl (run_storeCells_new (P := Try.prog) W 41 ZC (enc x).toArray (by kernel_rfl) rfl (by simp [enc, Value.oneCell']))
/-- What a right history asks of each call. -/
def Good (S : List C) (x : C) : Prop := opR x = true ∧ timed x = true ∧ S.any (fun d => !apart x d) = false
def RightP (T : List C) : Prop := ∀ S x R, T = S ++ x :: R → Good S x
theorem split_uniq {α : Type} {S S' R R' : List α} {x x' : α} (h : S ++ x :: R = S' ++ x' :: R') (hl : S.length = S'.length) : S = S' ∧ x = x' ∧ R = R' := by
  obtain ⟨h1, h2⟩ := List.append_inj h hl
  injection h2 with h3 h4
  exact ⟨h1, h3, h4⟩
end Go.Proofs.Ytdfbfcglacalmaa.Hs
end

section
namespace Go.Proofs.Ytdfbfcglacalmaa.Hs
open Go.RowKit Go.Seg Go.Open Go.Lib Go.Arr Go.Stab Go.Row

def cint (a b : Int) : Int := if a < b then -1 else if b < a then 1 else 0

theorem nan_any (a : Int) (w : World) : Calls Try.prog 57 #[.int .i64 a] w fun e w' => e = .returned (.bool false) ∧ w = w' := by
  go_enter Try.func57, Try.ntmps57
  go_wp2
  go_ret
  exact ⟨rfl, rfl⟩
theorem cmp_any (a b : Int) (w : World) : Calls Try.prog 45 #[.int .i64 a, .int .i64 b] w fun e w' => e = .returned (.int .i64 (cint a b)) ∧ w = w' := by
  go_enter Try.func45, Try.ntmps45
  go_wp2_with (go_at_call 57; refine (nan_any _ _).mono ?_; rintro e w' ⟨rfl, rfl⟩)
  all_goals
    go_ret
    refine ⟨?_, rfl⟩
    unfold cint
    first
      | (rw [if_pos (by omega)]; rfl)
      | (rw [if_neg (by omega), if_pos (by omega)]; rfl)
      | (rw [if_neg (by omega), if_neg (by omega)]; rfl)
theorem cint_lt (a b : Int) : cint a b < 0 ↔ a < b := by
  unfold cint
  split
  · omega
  · split <;> omega
/-- The comparison of two by a number of each. -/
def BV (k : Nat) : Value := .func (.func k) #[] #[]
def ByOk (k : Nat) (key : C → Int) : Prop := ∀ (W : World) (x : C), Calls Try.prog k #[CV x] W fun e w' => e = .returned (.int .i64 (key x)) ∧ Ext W w'
/-- Rows of calls of one's own. -/
def RC : Row.Ty Try.prog := ⟨22, 41, .agg ZC, 13, 104, Try.underlying22, by kernel_rfl, rfl, by decide, by decide⟩
/-- Those that are asked for, each with its place. -/
def sel (p : C → Bool) (T : List C) : List (C × Nat) := T.zipIdx.filter fun q => p q.1
theorem sel_snoc (p : C → Bool) (S : List C) (x : C) : sel p (S ++ [x]) = sel p S ++ if p x then [(x, S.length)] else [] := by
  unfold sel
  rw [List.zipIdx_append, List.filter_append]
  congr 1
  cases h : p x <;> simp [h]
theorem sel_yes {p : C → Bool} (S : List C) (x : C) (h : p x = true) : sel p (S ++ [x]) = sel p S ++ [(x, S.length)] := by rw [sel_snoc, h]; rfl
theorem sel_no {p : C → Bool} (S : List C) (x : C) (h : p x = false) : sel p (S ++ [x]) = sel p S := by rw [sel_snoc, h]; simp
theorem sel_tags (p : C → Bool) (T : List C) : TagsUp (sel p T) := by
  refine List.Pairwise.filter _ ?_
  rw [List.pairwise_iff_getElem]
  intro i j hi hj hij
  simp
  exact hij
theorem sel_map (p : C → Bool) (T : List C) : (sel p T).map Prod.fst = T.filter p := by
  unfold sel
  have h := List.filter_map (p := p) (f := Prod.fst) (l := T.zipIdx)
  rw [List.zipIdx_map_fst] at h
  exact h.symm
theorem sel_len (p : C → Bool) (T : List C) : (sel p T).length ≤ T.length := by
  unfold sel
  exact Nat.le_trans (List.length_filter_le _ _) (by simp)
theorem row_at {w : World} {B b n cap : Nat} {L : List (C × Nat)} (h : RowG RC enc w B (.slice (some ⟨b, 0, none⟩) n cap) (L.map Prod.fst)) : AtC w b L ∧ B ≤ b ∧ b < w.heap.size := by
  obtain ⟨h1, h2⟩ := h
  rcases h2 with ⟨h3, _⟩ | ⟨g, cap', cur, h3, h4, h5, h6, h7, h8, h9⟩
  · cases h3
  · simp only [Value.slice.injEq, Option.some.injEq, Addr.mk.injEq] at h3
    obtain ⟨⟨rfl, -, -⟩, -, rfl⟩ := h3
    rw [List.length_map] at h6 h9
    refine ⟨⟨cur, h5, ?_, ?_⟩, h4, (Array.getElem?_eq_some_iff.1 h5).1⟩
    · rw [h8]; exact Nat.mul_le_mul_right _ h6
    · rw [show (13 : Nat) = RC.size from rfl, h9, List.flatMap_map]
      rfl
theorem at_vc {w : World} {b : Nat} {L : List (C × Nat)} (h : AtC w b L) : VC w (some ⟨b, 0, none⟩) L.length b 0 (L.map Prod.fst) := by
  refine ⟨List.length_map _, fun _ => rfl, fun W hW i hi j hj => ?_⟩
  have hi' : i < L.length := by rw [List.length_map] at hi; exact hi
  have := At.cell encT_len (h.ext hW) i hi' j hj
  rw [Nat.zero_add, this, List.getElem_map]
  rfl

end Go.Proofs.Ytdfbfcglacalmaa.Hs
end

section
namespace Go.Proofs.Ytdfbfcglacalmaa.Hs
open Go.RowKit Go.Seg Go.Open Go.Lib Go.Arr Go.Stab Go.Row

/-- What a sorted choice of calls comes to. -/
def Told (T : List C) (p : C → Bool) (key : C → Int) (w : World) (e : Ending) (w' : World) : Prop := (∃ (a' : Option Addr) (n cap' b' : Nat) (L : List (C × Nat)), e = .returned (.slice a' n cap') ∧ n ≤ cap' ∧ n ≤ 60 ∧ VC w' a' n b' 0 (L.map Prod.fst) ∧ Done key (sel p T) L) ∧ Ext w w'
/-- How many pairs are swapped. -/
def swaps : List C → Nat
  | [] => 0
  | x :: R => R.countP (fun y => ahead y x) + swaps R
set_option maxRecDepth 100000 in
set_option maxHeartbeats 4000000 in
theorem Swaps_any (T : List C) (a : Option Addr) (len cap b off : Nat) (w : World) (hV : VC w a len b off T) (hl : len ≤ 60) (hc : len ≤ cap) :
    Calls Try.prog 23 #[.slice a len cap] w fun e w' => e = .returned (.int .i64 (swaps T)) ∧ Ext w w' := by
  have HV := Lib.hid hV
  clear hV
  go_enter Try.func23, Try.ntmps23
  go_wp2_with fail
  go_loopg [2, 9] len (fun g u s wr => ∃ (i m : Nat) (S R : List C), u = .int .i64 m ∧ s = .int .i64 i ∧ i ≤ len ∧ m ≤ 60 * i ∧ Hid (T = S ++ R ∧ S.length = i ∧ m + swaps R = swaps T ∧ Ext w wr) ∧ len - i ≤ g)
  case atStart => exact ⟨0, 0, [], T, rfl, rfl, Nat.zero_le _, Nat.zero_le _, Lib.hid ⟨rfl, rfl, by simp, Ext.refl _⟩, Nat.le_refl _⟩
  case round =>
    obtain ⟨i, m, S, R, rfl, rfl, hi, hm, HR, hg⟩ := hrel
    by_cases hil : i < len
    · have d0 : decide (i < len) = true := decide_eq_true hil
      obtain rfl := HV.out.ad (by omega)
      obtain ⟨x, R', rfl⟩ : ∃ x R', R = x :: R' := by
        cases R with
        | nil => have h1 := HR.out; have h2 := HV.out.len; rw [h1.1] at h2; simp at h2; omega
        | cons x R' => exact ⟨x, R', rfl⟩
      have hx := HV.out.at1 S R' x HR.out.1 i HR.out.2.1.symm
      have l1 := hx.ld wr HR.out.2.2.2
      have s1 := st_new wr x
      have HB := Lib.hid (one_box wr x)
      obtain ⟨w2, hw2⟩ : ∃ w2, w2 = wr.alloc (.cells (enc x).toArray 41) := ⟨_, rfl⟩
      rw [← hw2] at s1
      have HA := Lib.hid (show At1 w2 wr.heap.size 0 x by rw [hw2]; exact at1_blk HB.out.1)
      have HE2 := Lib.hid (show Ext wr w2 by rw [hw2]; exact HB.out.2)
      unfold ZC at s1
      have HD := Lib.hid (show VC w2 (some ⟨b, off + (i + 1) * 13, none⟩) (len - (i + 1)) b (off + (i + 1) * 13) R' by
        have h := (HV.out.ext (HR.out.2.2.2.trans HE2.out)).drop (i := i + 1)
        rw [HR.out.1, show i + 1 = (S ++ [x]).length by rw [List.length_append, HR.out.2.1]; rfl, show S ++ x :: R' = (S ++ [x]) ++ R' by simp, List.drop_left] at h
        rw [show (S ++ [x]).length = i + 1 by rw [List.length_append, HR.out.2.1]; rfl] at h
        exact h)
      have HLR := Lib.hid (show R'.length = len - (i + 1) from HD.out.len)
      have bi : i + 1 ≤ cap := by omega
      have bi0 : (0 : Int) ≤ (i : Int) + 1 := by omega
      have ei : ((i : Int) + 1).toNat = i + 1 := by omega
      clear hx HB hw2
      by_cases hcap : cap = i + 1
      · have hz : len - (i + 1) = 0 := by omega
        subst hcap
        have HRN := Lib.hid (show R' = [] from List.eq_nil_of_length_eq_zero (by rw [HLR.out]; exact hz))
        go_wp2_with (first | refine Arr.wpList_ldA rfl _ _ rfl _ l1 ?_ | refine Arr.wpList_stA rfl _ _ _ rfl rfl s1 ?_)
        go_loopg [2, 19] 0 (fun g u s wr2 => u = .int .i64 m ∧ s = .int .i64 0 ∧ wr2 = w2)
        case atStart => exact ⟨rfl, rfl, rfl⟩
        case round =>
          obtain ⟨rfl, rfl, rfl⟩ := hrel
          go_wp2_with fail
          go_roundg (len - (i + 1))
          case measure => omega
          case rel =>
            obtain ⟨q1, q2, q3, q4⟩ := HR.out
            refine ⟨i + 1, m, S ++ [x], R', rfl, by go_num, by omega, by omega, Lib.hid ⟨by rw [q1]; simp, by rw [List.length_append, q2]; rfl, ?_, q4.trans HE2.out⟩, Nat.le_refl _⟩
            rw [← q3, HRN.out]
            simp [swaps]
      · have hcl : i + 1 < cap := by omega
        obtain ⟨r, hr⟩ : ∃ r, len - (i + 1) = r := ⟨_, rfl⟩
        rw [hr] at HD HLR
        have br : r ≤ 60 := by omega
        have bm : m + r ≤ 60 * (i + 1) := by omega
        have HRr := Lib.hid hr
        go_wp2_with (first | refine Arr.wpList_ldA rfl _ _ rfl _ l1 ?_ | refine Arr.wpList_stA rfl _ _ _ rfl rfl s1 ?_)
        clear hr l1 s1
        go_loopg [2, 19] r (fun g u s wr2 => ∃ (j m2 : Nat) (S2 R2 : List C), u = .int .i64 m2 ∧ s = .int .i64 j ∧ j ≤ r ∧ m2 ≤ m + j ∧ Hid (R' = S2 ++ R2 ∧ S2.length = j ∧ m2 = m + S2.countP (fun y => ahead y x) ∧ Ext w2 wr2) ∧ r - j ≤ g)
        case atStart => exact ⟨0, m, [], R', rfl, rfl, Nat.zero_le _, by omega, Lib.hid ⟨rfl, rfl, rfl, Ext.refl _⟩, Nat.le_refl _⟩
        case round =>
          obtain ⟨j, m2, S2, R2, rfl, rfl, hj, hm2, HJ, hg2⟩ := hrel
          by_cases hjr : j < r
          · have d1 : decide (j < r) = true := decide_eq_true hjr
            obtain ⟨y, R3, rfl⟩ : ∃ y R3, R2 = y :: R3 := by
              cases R2 with
              | nil => have h1 := HJ.out; have h2 := HLR.out; rw [h1.1] at h2; simp at h2; omega
              | cons y R3 => exact ⟨y, R3, rfl⟩
            have hy := HD.out.at1 S2 R3 y HJ.out.1 j HJ.out.2.1.symm
            have l1 := hy.ld wr HJ.out.2.2.2
            have s1 := st_new wr y
            have HB := Lib.hid (one_box wr y)
            obtain ⟨w3, hw3⟩ : ∃ w3, w3 = wr.alloc (.cells (enc y).toArray 41) := ⟨_, rfl⟩
            rw [← hw3] at s1
            have HE3 := Lib.hid (show Ext wr w3 by rw [hw3]; exact HB.out.2)
            have l2 := (show At1 w3 wr.heap.size 0 y by rw [hw3]; exact at1_blk HB.out.1).ld w3 (Ext.refl _)
            have l3 := HA.out.ld w3 (HJ.out.2.2.2.trans HE3.out)
            unfold ZC at s1
            clear hy HB hw3
            go_wp2_with (first | refine Arr.wpList_ldA rfl _ _ rfl _ l1 ?_ | refine Arr.wpList_stA rfl _ _ _ rfl rfl s1 ?_ | refine Arr.wpList_ldA rfl _ _ rfl _ l2 ?_ | refine Arr.wpList_ldA rfl _ _ rfl _ l3 ?_)
            refine (ahead_any y x _).mono ?_
            rintro e w4 ⟨rfl, hE4⟩
            have HE4 := Lib.hid (HJ.out.2.2.2.trans (HE3.out.trans hE4))
            clear hE4
            cases ha : ahead y x with
            | true =>
              have HAH := Lib.hid ha
              clear ha
              go_wp2_with fail
              go_roundg (r - (j + 1))
              case measure => omega
              case rel =>
                refine ⟨j + 1, m2 + 1, S2 ++ [y], R3, by go_num, by go_num, by omega, by omega, Lib.hid ⟨by rw [HJ.out.1]; simp, by rw [List.length_append, HJ.out.2.1]; rfl, ?_, HE4.out⟩, Nat.le_refl _⟩
                rw [List.countP_append, HJ.out.2.2.1, List.countP_cons, List.countP_nil]
                have := HAH.out
                rw [if_pos this]
                omega
            | false =>
              have HAH := Lib.hid ha
              clear ha
              go_wp2_with fail
              go_roundg (r - (j + 1))
              case measure => omega
              case rel =>
                refine ⟨j + 1, m2, S2 ++ [y], R3, rfl, by go_num, by omega, by omega, Lib.hid ⟨by rw [HJ.out.1]; simp, by rw [List.length_append, HJ.out.2.1]; rfl, ?_, HE4.out⟩, Nat.le_refl _⟩
                rw [List.countP_append, HJ.out.2.2.1, List.countP_cons, List.countP_nil]
                have := HAH.out
                rw [if_neg (by rw [this]; decide)]
                omega
          · obtain rfl : j = r := by omega
            have d1 : decide (j < j) = false := decide_eq_false (by omega)
            go_wp2_with fail
            go_roundg (len - (i + 1))
            case measure => omega
            case rel =>
              obtain ⟨q1, q2, q3, q4⟩ := HR.out
              obtain ⟨p1, p2, p3, p4⟩ := HJ.out
              refine ⟨i + 1, m2, S ++ [x], R', rfl, by go_num, by omega, by omega, Lib.hid ⟨by rw [q1]; simp, by rw [List.length_append, q2]; rfl, ?_, q4.trans (HE2.out.trans p4)⟩, Nat.le_refl _⟩
              have e2 : R2 = [] := by
                have h2 := HLR.out
                rw [p1, List.length_append] at h2
                exact List.eq_nil_of_length_eq_zero (by omega)
              rw [e2, List.append_nil] at p1
              rw [← q3, p3, ← p1]
              simp only [swaps]
              omega
    · obtain rfl : i = len := by omega
      have d0 : decide (i < i) = false := decide_eq_false (by omega)
      go_wp2_with fail
      go_ret
      have h := HR.out
      have e2 : R = [] := by
        have h2 := HV.out.len
        rw [h.1, List.length_append] at h2
        exact List.eq_nil_of_length_eq_zero (by omega)
      rw [e2] at h
      exact ⟨by rw [← h.2.2.1]; simp [swaps], h.2.2.2⟩
end Go.Proofs.Ytdfbfcglacalmaa.Hs
end
