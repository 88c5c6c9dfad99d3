/-
  A region that draws its order, walked in the order of the text, INSIDE THE WIDE FENCE: Seg's walk, rule for rule (the laws of Derived.OrdersIn and Derived.OrdersHeld in place of the plain ones): so a call of a yield is walked, too. No program in sight; no condition.
  A region that draws its order, inside the wide fence, by segments that begin anew: the looks of a segment are waited for by all that has not come up yet: so they look at the world as it is, and of a call nothing is asked. No program in sight; no condition.
  A range over a function in a caller, where the frame behind the assignment is found by the walk. No program in sight; no condition.
  Iterators that range over others themselves: what they owe is asked of invariants on cells alone; a caller's range over such a one. No program in sight; no condition.
  The ranked tree's All: what it hands to a yield, in order: for every loop body that keeps what lay below.
  The ranked tree's All: what it hands to a yield, in order: for every loop body that keeps what lay below.
  An index of ends: the function that along hands back goes through the rows of the buckets, in order, as long as these may be told: for every loop body that keeps what lay below. No condition.
-/
import Derived.Test.YtdfbfcglacalmaaGreatM1
import Derived.OrdersIn
import Derived.OrdersHeld
import Derived.TacticsIn
import Derived.RangeFuncFrom
import Derived.RangeFuncNested
import Derived.RangeFuncBound
import Derived.RangeFuncCalls
import Derived.RangeFuncLeaves
import Derived.Shelf.Abstract
import Derived.Shelf.RegionOpen
import Derived.WalkKit
import Derived.OwnWalkIn
import Derived.TacticsInMore
import Derived.LoopNIn
import Derived.LoopIn
import Derived.Test.YtdfbfcglacalmaaGreatM6
import Derived.Test.YtdfbfcglacalmaaGreatM7
import Derived.Test.YtdfbfcglacalmaaGreatM5
section
namespace Go.Seg
open Go.RowKit
section
variable {P : Program} {ops : Array Oper} {Q : Exit → Act → World → Prop} {md : Region.Mode} {n n₀ d : Nat} {S : World → Prop} {kind : Program → Oper → Bool}

theorem YieldsIf.wpOpInW {i : Nat} {o : Oper} {v : Value} {a : Act} (hi : ops[i]? = some o) (hy : YieldsIf P ops S o v a)
    {K : Act → World → Prop} {w : World} (hS : S w) (h : K (a.put o.dst v) w) : wpOpIn Fence.wide d P ops Q i K a w := by
  unfold Go.wpOpIn
  simp only [hi]
  rcases hy with ⟨hw, hv⟩ | ⟨hw, rfl⟩
  · simp only [hw, if_true]
    refine ⟨fun _ _ => trivial, ?_⟩
    show Oper.uponIn _ _ _ _ _ _ _ ((execOp a.eval o).run P w)
    rw [hv w hS]
    exact h
  · simp only [hw, Bool.false_eq_true, if_false]; exact ⟨fun _ _ => trivial, h⟩

theorem wpOpIn_putIf {j : Nat} {oi oj : Oper} {v : Value} (hj : ops[j]? = some oj) (hap : oi.apart ops oj = true)
    (hsi : ∀ cs b, oi.op ≠ .select cs b) (hsj : ∀ cs b, oj.op ≠ .select cs b)
    (hQ : ∀ c a w, Q (.panic c) (a.put oi.dst v) w → Q (.panic c) a w) {K : Act → World → Prop} {a : Act} {w : World}
    (hy : YieldsIf P ops S oi v a) (h : wpOpIn Fence.wide d P ops Q j K (a.put oi.dst v) w) :
    wpOpIn Fence.wide d P ops Q j (fun a' w' => YieldsIf P ops S oi v a' ∧ K (a'.put oi.dst v) w') a w := by
  obtain ⟨h1, h2, h3⟩ := Oper.apart_spec hap
  have keep : ∀ (a : Act), YieldsIf P ops S oi v a → ∀ u, YieldsIf P ops S oi v (a.put oj.dst u) := fun a hy u =>
    hy.of_same (execOp_put oi hsi a oj.dst u h3) (wanted_put oi a oj.dst u h3)
  have keepD : ∀ x, YieldsIf P ops S oi v { a with defers := x :: a.defers } := fun x => hy.of_same rfl rfl
  unfold wpOpIn at *
  simp only [hj] at *
  rw [wanted_put oj a oi.dst v h1] at h
  split
  · rename_i hw
    simp only [hw, if_true] at h
    refine ⟨fun _ _ => trivial, ?_⟩
    have h := h.2
    change Oper.uponIn _ _ _ _ _ _ _ ((execOp (a.put oi.dst v).eval oj).run P w) at h
    change Oper.uponIn _ _ _ _ _ _ _ ((execOp a.eval oj).run P w)
    rw [execOp_put oj hsj a oi.dst v h1] at h
    generalize (execOp a.eval oj).run P w = r at *
    cases r with
    | ok x w' =>
      cases x <;> simp only [Oper.uponIn] at h ⊢
      case value u => exact ⟨keep a hy u, by rw [← Act.put_comm a v u h2]; exact h⟩
      case skip => exact ⟨keep a hy _, by rw [← Act.put_comm a v undef h2]; exact h⟩
      case defer x =>
        refine ⟨keep _ (keepD x) _, ?_⟩
        rw [← Act.put_comm _ v undef h2, ← Act.put_defers]
        exact h
      case enter f args =>
        refine ⟨h.1, CallsIn.mono h.2 fun e w'' he => ?_⟩
        cases e with
        | returned u => exact ⟨keep a hy u, by rw [← Act.put_comm a v u h2]; exact he⟩
        | panicked c => exact hQ _ _ _ he
        | outgrown => exact he
      case row row args => exact ⟨h.1, RowsIn.mono h.2 fun u w'' he => ⟨keep a hy u, by rw [← Act.put_comm a v u h2]; exact he⟩⟩
      case round l f tmps asg bd =>
        refine ⟨h.1, RoundIn.mono h.2 fun e w'' he => ?_⟩
        cases e with
        | returned u => exact ⟨keep a hy u, by rw [← Act.put_comm a v u h2]; exact he⟩
        | panicked c => exact hQ _ _ _ he
        | outgrown => exact he
    | halt x w' =>
      cases x <;> simp only [Oper.uponIn] at h ⊢
      case panic u => exact hQ _ _ _ h
  · rename_i hw
    simp only [hw] at h
    exact ⟨fun _ _ => trivial, keep a hy _, by rw [← Act.put_comm a v undef h2]; exact h.2⟩

/-- Where one call ends, what lay below n₀ being left. -/
def FEndB (n₀ : Nat) (bar : Bool) (w : World) (K : Act → World → Prop) : Exit → Act → World → Prop
  | .normal, a', w' => (bar = false → Below n₀ w w') ∧ K a' w'
  | _, _, _ => False

/-- THE WALK, inside the wide fence: as Segs; the calls by the fence's rules. -/
def SegsI (n₀ d : Nat) (P : Program) (ops : Array Oper) (Q : Exit → Act → World → Prop) : List (List Bool × Bool) → List Oper → Act → World → Prop
  | [], _, a, w => Q .normal a w
  | (m, bar) :: ms, l, a, w => ∃ aE, (∀ W, Below n₀ w W → wpList P ops (QEnd aE W) (pick m l) a W) ∧
      match left m l with
      | [] => Q .normal aE w
      | o :: l' => wpListIn Fence.wide d P ops (FEndB n₀ bar w (SegsI n₀ d P ops Q ms l')) [o] aE w

/-- Whatever order is picked; each of the first n operations leaves the old blocks. -/
def wpAnyTI (d : Nat) (P : Program) (md : Region.Mode) (ops : Array Oper) (Q : Exit → Act → World → Prop) (n : Nat) (C : World → Prop) : Nat → Array Bool → Act → World → Prop
  | 0, listed, a, w => Region.ready md ops listed = [] ∧ Q .normal a w
  | fuel + 1, listed, a, w =>
    (Region.ready md ops listed = [] → Q .normal a w) ∧
    ∀ i ∈ Region.ready md ops listed, wpOpIn Fence.wide d P ops Q i (fun a' w' => (i < n → C w') ∧ wpAnyTI d P md ops Q n C fuel (listed.setIfInBounds i true) a' w') a w


theorem wpAnyIn_of_T {C : World → Prop} : ∀ (fuel : Nat) (listed : Array Bool) (a : Act) (w : World), wpAnyTI d P md ops Q n C fuel listed a w → wpAnyIn Fence.wide d P md ops Q fuel listed a w
  | 0, _, _, _, h => h
  | fuel + 1, _, _, _, h => ⟨h.1, fun i hi => wpOpIn_mono (fun a' w' h' => wpAnyIn_of_T fuel _ a' w' h'.2) (h.2 i hi)⟩

theorem wpAnyTI_mono {C C' : World → Prop} (hC : ∀ w, C w → C' w) : ∀ (fuel : Nat) (listed : Array Bool) (a : Act) (w : World), wpAnyTI d P md ops Q n C fuel listed a w → wpAnyTI d P md ops Q n C' fuel listed a w
  | 0, _, _, _, h => h
  | fuel + 1, _, _, _, h => ⟨h.1, fun i hi => wpOpIn_mono (fun a' w' h' => ⟨fun hn => hC _ (h'.1 hn), wpAnyTI_mono hC fuel _ a' w' h'.2⟩) (h.2 i hi)⟩

/-- Once the first n are over the class matters no more. -/
theorem wpAnyTI_late {C C' : World → Prop} : ∀ (fuel : Nat) (listed : Array Bool) (a : Act) (w : World), (∀ j, j < n → listed.getD j true = true) → wpAnyTI d P md ops Q n C fuel listed a w → wpAnyTI d P md ops Q n C' fuel listed a w
  | 0, _, _, _, _, h => h
  | fuel + 1, listed, _, _, hl, h => by
    refine ⟨h.1, fun i hi => wpOpIn_mono (fun a' w' h' => ⟨fun hn => ?_, wpAnyTI_late fuel _ a' w' (fun j hj => ?_) h'.2⟩) (h.2 i hi)⟩
    · have h1 := (mem_ready.1 hi).1
      rw [hl i hn] at h1
      cases h1
    · by_cases hij : i = j
      · subst hij
        rcases Nat.lt_or_ge i listed.size with h2 | h2 <;> simp [h2]
      · rw [getD_set_ne true hij]; exact hl j hj

/-- A looking operation of the first n that may come up now may be taken first. -/
theorem wpAnyTI_first {C : World → Prop} {i : Nat} {oi : Oper} {v : Value} (hi : ops[i]? = some oi) (hsel : ∀ (j : Nat) (o : Oper) cs b, ops[j]? = some o → o.op ≠ .select cs b)
    (hQ : ∀ c a w, Q (.panic c) (a.put oi.dst v) w → Q (.panic c) a w)
    (htail : ∀ (j : Nat) (o : Oper), ops[j]? = some o → n ≤ j → anc md ops 4 j i = true) :
    ∀ (fuel : Nat) (listed : Array Bool) (a : Act) (w : World), Closed md ops listed →
      (∀ j oj, ops[j]? = some oj → j ≠ i → listed.getD j true = false → (∀ e ∈ oj.after, Region.binds md e = true → e.on ≠ i) → oi.apart ops oj = true) →
      i ∈ Region.ready md ops listed → YieldsIf P ops C oi v a → C w →
      wpAnyTI d P md ops Q n C fuel (listed.setIfInBounds i true) (a.put oi.dst v) w → wpAnyTI d P md ops Q n C (fuel + 1) listed a w := by
  intro fuel
  induction fuel with
  | zero =>
    intro listed a w _ _ hr hy hC H
    refine ⟨fun h => (by rw [h] at hr; cases hr), fun j hj => ?_⟩
    by_cases hji : j = i
    · subst hji; exact YieldsIf.wpOpInW hi hy hC ⟨fun _ => hC, H⟩
    · have := ready_mono hj hji
      rw [H.1] at this
      cases this
  | succ fuel ih =>
    intro listed a w hcl hfree hr hy hC H
    refine ⟨fun h => (by rw [h] at hr; cases hr), fun j hj => ?_⟩
    by_cases hji : j = i
    · subst hji; exact YieldsIf.wpOpInW hi hy hC ⟨fun _ => hC, H⟩
    · have h1 := H.2 j (ready_mono hj hji)
      obtain ⟨hjun, oj, hoj, hall⟩ := mem_ready.1 hj
      have hun : listed.getD i false ≠ true := fun h1 => by
        have h0 := (mem_ready.1 hr).1
        rcases Nat.lt_or_ge i listed.size with h' | h'
        · simp [h'] at h0 h1; rw [h0] at h1; cases h1
        · simp [Array.getElem?_eq_none h'] at h1
      have hjn : j < n := by
        rcases Nat.lt_or_ge j n with h | h
        · exact h
        · exact absurd (anc_listed hcl 4 j i oj hoj hall (htail j oj hoj h)) hun
      have hnot : ∀ e ∈ oj.after, Region.binds md e = true → e.on ≠ i := fun e he hb heq => hun (heq ▸ hall e he hb)
      have h2 := wpOpIn_putIf hoj (hfree j oj hoj hji hjun hnot) (fun cs b => hsel i oi cs b hi) (fun cs b => hsel j oj cs b hoj) hQ hy h1
      have hfree' : ∀ k ok, ops[k]? = some ok → k ≠ i → (listed.setIfInBounds j true).getD k true = false →
          (∀ e ∈ ok.after, Region.binds md e = true → e.on ≠ i) → oi.apart ops ok = true := fun k ok hk hki hun hno => by
        refine hfree k ok hk hki ?_ hno
        by_cases hjk : j = k
        · subst hjk; exact hjun
        · rw [getD_set_ne true hjk] at hun; exact hun
      refine wpOpIn_mono (fun a' w' h3 => ⟨h3.2.1, ih (listed.setIfInBounds j true) a' w' (hcl.set hj) hfree' (ready_mono hr (Ne.symm hji)) h3.1 (h3.2.1 hjn) ?_⟩) h2
      rw [Array.setIfInBounds_comm _ _ hji]
      exact h3.2.2

theorem uponIn_mono2 {F : Fence} {o : Oper} {a : Act} {K K' : Act → World → Prop} {Q Q' : Exit → Act → World → Prop} (hK : ∀ a' w', a'.tmps.size = a.tmps.size → K a' w' → K' a' w') (hQ : ∀ e a w, e ≠ .normal → Q e a w → Q' e a w) {r : Result Next}
    (h : o.uponIn F d P a K Q r) : o.uponIn F d P a K' Q' r := by
  have hl : LetsOut Q → LetsOut Q' := fun ⟨a, w, h⟩ => ⟨a, w, hQ _ _ _ (by simp) h⟩
  cases r with
  | ok x w' =>
    cases x <;> simp only [Oper.uponIn] at h ⊢
    case value v => exact hK _ _ Act.put_size h
    case skip => exact hK _ _ Act.put_size h
    case defer x => exact hK _ _ Act.put_size h
    case enter f args =>
      refine ⟨h.1, CallsIn.mono h.2 fun e w'' he => ?_⟩
      cases e with
      | returned v => exact hK _ _ Act.put_size he
      | panicked c => exact hQ _ _ _ (by simp) he
      | outgrown => exact hl he
    case row row args => exact ⟨h.1, RowsIn.mono h.2 fun v w'' he => hK _ _ Act.put_size he⟩
    case round l f tmps asg bd =>
      refine ⟨h.1, RoundIn.mono h.2 fun e w'' he => ?_⟩
      cases e with
      | returned v => exact hK _ _ Act.put_size he
      | panicked c => exact hQ _ _ _ (by simp) he
      | outgrown => exact hl he
  | halt x w' =>
    cases x <;> simp only [Oper.uponIn] at h ⊢
    case panic v => exact hQ _ _ _ (by simp) h

theorem wpOpIn_of_one {i : Nat} {o : Oper} (hi : ops[i]? = some o) {bar : Bool} {w : World} {K K' : Act → World → Prop} {a : Act} (hK : ∀ a' w', a'.tmps.size = a.tmps.size → (bar = false → Below n₀ w w') → K a' w' → K' a' w')
    (h : wpListIn Fence.wide d P ops (FEndB n₀ bar w K) [o] a w) : wpOpIn Fence.wide d P ops Q i K' a w := by
  unfold wpOpIn
  simp only [hi]
  unfold wpListIn at h
  split
  · rename_i hw
    simp only [hw, if_true] at h
    exact ⟨h.1, uponIn_mono2 (fun a' w' hs hk => hK a' w' hs hk.1 hk.2) (fun e a w he hq => by cases e <;> first | exact absurd rfl he | exact hq.elim) h.2⟩
  · rename_i hw
    simp only [hw] at h
    exact ⟨h.1, hK _ _ Act.put_size h.2.1 h.2.2⟩

theorem wpAnyTI_quiets (hkind : ∀ o, kind P o = true → Quiet P o) (hs : Region.noSelect ops = true) (hQ : ∀ c a a' w, Q (.panic c) a w → Q (.panic c) a' w) (htail : okTail md ops n = true) {C : World → Prop} {aE : Act} {w : World} (hC : C w) (get : Nat → Oper) :
    ∀ (q : List Nat) (listed : Array Bool) (a : Act) (fuel : Nat), Closed md ops listed → (∀ i ∈ q, ops[i]? = some (get i)) → okQuiet P kind md ops n q listed = true → dstsOk ops a.tmps.size = true →
      (∀ W, C W → wpList P ops (QEnd aE W) (q.map get) a W) → (aE.tmps.size = a.tmps.size → Closed md ops (mark listed q) → wpAnyTI d P md ops Q n C fuel (mark listed q) aE w) → wpAnyTI d P md ops Q n C (fuel + q.length) listed a w
  | [], listed, a, fuel, hcl, _, _, _, hw, hk => by
    obtain ⟨h1, _⟩ := hw w hC
    subst h1
    exact hk rfl hcl
  | i :: q, listed, a, fuel, hcl, hget, hok, hd, hw, hk => by
    have hi := hget i (by simp)
    simp only [okQuiet, hi, Bool.and_eq_true, decide_eq_true_eq] at hok
    obtain ⟨⟨⟨⟨h1, h2⟩, h3⟩, h4, h5⟩, h6⟩ := hok
    cases hdst : (get i).dst with
    | none => rw [hdst] at h5; cases h5
    | some d =>
      rw [hdst] at h5
      have h5' : q.all (fun j => match ops[j]? with | some x => x.dst != some d | none => false) = true := h5
      rw [List.all_eq_true] at h5'
      have hquiet : ∀ (q : List Nat) (listed : Array Bool), (∀ i ∈ q, ops[i]? = some (get i)) → okQuiet P kind md ops n q listed = true → ∀ x ∈ q.map get, Quiet P x := by
        intro q
        induction q with
        | nil => intro _ _ _ x hx; cases hx
        | cons j q ih =>
          intro listed hg hok x hx
          simp only [okQuiet, hg j (by simp), Bool.and_eq_true] at hok
          rcases List.mem_cons.1 hx with rfl | hx
          · exact hkind _ hok.1.2.1
          · exact ih _ (fun k hk => hg k (by simp [hk])) hok.2 x hx
      have hgq : ∀ j ∈ q, ops[j]? = some (get j) := fun j hj => hget j (by simp [hj])
      obtain ⟨v, hy, hrest⟩ := quiet_head (C := C) (aE := aE) (l := q.map get) (a := a) (fun x hx => by
        rcases List.mem_cons.1 hx with rfl | hx
        · exact hkind _ h4
        · exact hquiet q _ hgq h6 x hx) hdst (dstsOk_spec hd hi hdst) (fun x hx => by
        obtain ⟨j, hj, rfl⟩ := List.mem_map.1 hx
        have := h5' j hj
        rw [hgq j hj] at this
        simpa using this) hw
      rw [List.length_cons, ← Nat.add_assoc]
      refine wpAnyTI_first hi (Region.noSelect_spec hs) (fun c a w h => hQ _ _ _ _ h) (fun j o ho hj => okTail_spec htail h3 j o ho hj) _ listed a w hcl (Region.free_spec hi h2) (by simpa using h1) hy hC ?_
      exact wpAnyTI_quiets hkind hs hQ htail hC get q _ _ fuel (hcl.set (by simpa using h1)) hgq h6 (by rw [Act.put_size]; exact hd) hrest (fun he => hk (by rw [he, Act.put_size]))

theorem wpAnyTI_of_segs (hkind : ∀ o, kind P o = true → Quiet P o) (hs : Region.noSelect ops = true) (hQ : ∀ e a a' w, e ≠ .normal → Q e a w → Q e a' w) (htail : okTail md ops n = true) (get : Nat → Oper) :
    ∀ (plan : List (List Bool × Bool)) (l : List Nat) (listed : Array Bool) (a : Act) (w : World), Closed md ops listed → (∀ i ∈ l, ops[i]? = some (get i)) → okPlan P kind md ops n plan l listed = true → dstsOk ops a.tmps.size = true →
      SegsI n₀ d P ops Q plan (l.map get) a w → wpAnyTI d P md ops Q n (Below n₀ w) l.length listed a w
  | [], l, listed, a, w, _, _, hok, _, h => by
    simp only [okPlan, Bool.and_eq_true, List.isEmpty_iff] at hok
    obtain ⟨rfl, hr⟩ := hok
    exact ⟨hr, h⟩
  | (m, bar) :: ms, l, listed, a, w, hcl, hget, hok, hd, h => by
    simp only [okPlan, Bool.and_eq_true] at hok
    obtain ⟨hq, hrest⟩ := hok
    obtain ⟨aE, hw, hk⟩ := h
    rw [pick_map] at hw
    rw [← pick_left_length m l, Nat.add_comm]
    refine wpAnyTI_quiets hkind hs (fun c a a' w h => hQ _ _ _ _ (by simp) h) htail (C := Below n₀ w) (aE := aE) (Below.refl n₀ w) get _ _ _ _ hcl (fun i hi => hget i (pick_mem _ _ _ hi)) hq hd hw fun hsz hcl2 => ?_
    rw [left_map] at hk
    cases hl : left m l with
    | nil =>
      rw [hl] at hk hrest
      simp only [Bool.and_eq_true, List.isEmpty_iff] at hrest
      exact ⟨hrest.2, hk⟩
    | cons f l' =>
      rw [hl] at hk hrest
      simp only [Bool.and_eq_true, beq_iff_eq] at hrest
      obtain ⟨⟨hr, hb⟩, hok'⟩ := hrest
      have hgl : ∀ i ∈ left m l, ops[i]? = some (get i) := fun i hi => hget i (left_mem _ _ _ hi)
      rw [hl] at hgl
      have hf := hgl f (by simp)
      refine ⟨fun h0 => (by rw [hr] at h0; cases h0), fun i hi => ?_⟩
      rw [hr] at hi
      obtain rfl : i = f := by simpa using hi
      refine wpOpIn_of_one (K := SegsI n₀ d P ops Q ms (l'.map get)) hf (fun a' w' hs' he hk' => ?_) hk
      have ih := wpAnyTI_of_segs hkind hs hQ htail get ms l' _ a' w' (hcl2.set (by rw [hr]; simp)) (fun j hj => hgl j (by simp [hj])) hok' (by rw [hs', hsz]; exact hd) hk'
      cases bar with
      | false =>
        simp only [Bool.false_eq_true, if_false, decide_eq_true_eq] at hb
        exact ⟨fun _ => he rfl, wpAnyTI_mono (fun W hW => (he rfl).trans hW) _ _ _ _ ih⟩
      | true =>
        simp only [if_true, Bool.and_eq_true, decide_eq_true_eq, List.all_eq_true, List.mem_range] at hb
        refine ⟨fun h => (by omega), wpAnyTI_late _ _ _ _ (fun j hj => ?_) ih⟩
        have h1 := hb.1 j hj
        have hij : i ≠ j := by omega
        rw [getD_set_ne true hij]; exact h1



end
theorem segsI_cons {n₀ d : Nat} {P : Program} {ops : Array Oper} {Q : Exit → Act → World → Prop} {r : List Nat} {bar : Bool} {ms : List (List Nat × Bool)} {l : List Oper} {a aE : Act} {w : World} (h1 : ∀ W, Below n₀ w W → wpList P ops (QEnd aE W) (pick (runsT r) l) a W)
    (h2 : match left (runsT r) l with | [] => Q .normal aE w | o :: l' => wpListIn Fence.wide d P ops (FEndB n₀ bar w (SegsI n₀ d P ops Q (planOf ms) l')) [o] aE w) : SegsI n₀ d P ops Q (planOf ((r, bar) :: ms)) l a w := ⟨aE, h1, h2⟩
theorem segsI_nil {n₀ d : Nat} {P : Program} {ops : Array Oper} {Q : Exit → Act → World → Prop} {l : List Oper} {a : Act} {w : World} (h : Q .normal a w) : SegsI n₀ d P ops Q (planOf []) l a w := h
theorem wpIn_region_segs {P : Program} {n₀ d id : Nat} {l : List Oper} {Q : Exit → Act → World → Prop} {a : Act} {w : World} (n : Nat) (plan : List (List Nat × Bool)) (hm : P.follows .mixedOrders = true)
    (hB : okRegion P l.toArray n (planOf plan) a.tmps.size = true) (h : SegsI n₀ d P l.toArray Q (planOf plan) l a w.drew) : (Code.region id l.toArray true).wpIn Fence.wide d P Q a w := by
  simp only [okRegion, Bool.and_eq_true] at hB
  obtain ⟨⟨⟨h1, h2⟩, h3⟩, h4⟩ := hB
  refine wpIn_mono (Q := NP Q) ?_ (fun e a w h => by cases e <;> first | exact h | exact h.elim)
  refine wpIn_region_any hm (wpAnyIn_of_T (n := n) (C := Below n₀ w.drew) _ _ _ _ ?_)
  have hl : (List.range l.toArray.size).map (fun i => l.toArray.getD i default) = l := by
    apply List.ext_getElem
    · simp
    · intro i h1 h2
      simp at h1
      simp [h1]
  have key : ∀ (plan : List (List Bool × Bool)) (l' : List Oper) (a : Act) (w : World), SegsI n₀ d P l.toArray Q plan l' a w → SegsI n₀ d P l.toArray (NP Q) plan l' a w := by
    intro plan
    induction plan with
    | nil => intro l' a w h; exact h
    | cons s plan ih =>
      obtain ⟨m, bar⟩ := s
      intro l' a w h
      obtain ⟨aE, h1, h2⟩ := h
      refine ⟨aE, h1, ?_⟩
      cases hl : left m l' with
      | nil => rw [hl] at h2; exact h2
      | cons o l'' =>
        rw [hl] at h2
        dsimp only at h2 ⊢
        have : FEndB n₀ bar w (SegsI n₀ d P l.toArray Q plan l'') = FEndB n₀ bar w (SegsI n₀ d P l.toArray Q plan l'') := rfl
        unfold wpListIn at h2 ⊢
        split
        · rename_i hw
          simp only [hw, if_true] at h2
          exact ⟨h2.1, uponIn_mono2 (fun a' w' _ hk => ⟨hk.1, ih _ _ _ hk.2⟩) (fun e a w he hq => by cases e <;> first | exact absurd rfl he | exact hq.elim) h2.2⟩
        · rename_i hw
          simp only [hw] at h2
          exact ⟨h2.1, h2.2.1, ih _ _ _ h2.2.2⟩
  have := wpAnyTI_of_segs (P := P) (ops := l.toArray) (md := .any) (Q := NP Q) (n := n) (kind := kind) kind_quiet h1 (fun e a a' w he hq => by cases e <;> first | exact absurd rfl he | exact hq.elim) h2 (fun i => l.toArray.getD i default) (planOf plan) (List.range l.toArray.size) _ a w.drew
    (fun j o ho hl => by
      have h' : (Array.replicate l.toArray.size false).getD j false = false := by simp [Array.getD]
      rw [h'] at hl
      cases hl) (fun i hi => by
      have hi' : i < l.length := by simpa using hi
      simp [hi']) h4 h3 (by rw [hl]; exact key (planOf plan) l a _ h)
  simpa using this
end Go.Seg
end

section
namespace Go.Seg
open Go.RowKit
section
variable {P : Program} {ops : Array Oper} {Q : Exit → Act → World → Prop} {md : Region.Mode} {n n₀ d : Nat} {kind : Program → Oper → Bool}

theorem wpAnyTI_of_late {C : World → Prop} : ∀ (fuel : Nat) (listed : Array Bool) (a : Act) (w : World), (∀ j, j < n → listed.getD j true = true) → wpAnyIn Fence.wide d P md ops Q fuel listed a w → wpAnyTI d P md ops Q n C fuel listed a w
  | 0, _, _, _, _, h => h
  | fuel + 1, listed, _, _, hl, h => by
    refine ⟨h.1, fun i hi => wpOpIn_mono (fun a' w' h' => ⟨fun hn => ?_, wpAnyTI_of_late fuel _ a' w' (fun j hj => ?_) h'⟩) (h.2 i hi)⟩
    · have h1 := (mem_ready.1 hi).1
      rw [hl i hn] at h1
      cases h1
    · by_cases hij : i = j
      · subst hij
        rcases Nat.lt_or_ge i listed.size with h2 | h2 <;> simp [h2]
      · rw [getD_set_ne true hij]; exact hl j hj

/-- Where one call ends. -/
def FEndJ (K : Act → World → Prop) : Exit → Act → World → Prop
  | .normal, a', w' => K a' w'
  | _, _, _ => False

def SegsJ (d : Nat) (P : Program) (ops : Array Oper) (Q : Exit → Act → World → Prop) : List (List Bool × Nat) → List Oper → Act → World → Prop
  | [], _, a, w => Q .normal a w
  | (m, _) :: ms, l, a, w => ∃ aE, wpList P ops (QEnd aE w) (pick m l) a w ∧
      match left m l with
      | [] => Q .normal aE w
      | o :: l' => wpListIn Fence.wide d P ops (FEndJ (SegsJ d P ops Q ms l')) [o] aE w

theorem wpOpIn_of_oneJ {i : Nat} {o : Oper} (hi : ops[i]? = some o) {w : World} {K K' : Act → World → Prop} {a : Act} (hK : ∀ a' w', a'.tmps.size = a.tmps.size → K a' w' → K' a' w')
    (h : wpListIn Fence.wide d P ops (FEndJ K) [o] a w) : wpOpIn Fence.wide d P ops Q i K' a w := by
  unfold wpOpIn
  simp only [hi]
  unfold wpListIn at h
  split
  · rename_i hw
    simp only [hw, if_true] at h
    exact ⟨h.1, uponIn_mono2 (fun a' w' hs hk => hK a' w' hs hk) (fun e a w he hq => by cases e <;> first | exact absurd rfl he | exact hq.elim) h.2⟩
  · rename_i hw
    simp only [hw] at h
    exact ⟨h.1, hK _ _ Act.put_size h.2⟩

/-- A looking operation of the first n that may come up now may be taken first. -/
theorem wpAnyTJ_first {C : World → Prop} {i : Nat} {oi : Oper} {v : Value} (hi : ops[i]? = some oi) (hsel : ∀ (j : Nat) (o : Oper) cs b, ops[j]? = some o → o.op ≠ .select cs b)
    (hQ : ∀ c a w, Q (.panic c) (a.put oi.dst v) w → Q (.panic c) a w)
    (htail : ∀ (j : Nat) (o : Oper), ops[j]? = some o → n ≤ j → anc md ops 12 j i = true) :
    ∀ (fuel : Nat) (listed : Array Bool) (a : Act) (w : World), Closed md ops listed →
      (∀ j oj, ops[j]? = some oj → j ≠ i → listed.getD j true = false → (∀ e ∈ oj.after, Region.binds md e = true → e.on ≠ i) → oi.apart ops oj = true) →
      i ∈ Region.ready md ops listed → YieldsIf P ops C oi v a → C w →
      wpAnyTI d P md ops Q n C fuel (listed.setIfInBounds i true) (a.put oi.dst v) w → wpAnyTI d P md ops Q n C (fuel + 1) listed a w := by
  intro fuel
  induction fuel with
  | zero =>
    intro listed a w _ _ hr hy hC H
    refine ⟨fun h => (by rw [h] at hr; cases hr), fun j hj => ?_⟩
    by_cases hji : j = i
    · subst hji; exact YieldsIf.wpOpInW hi hy hC ⟨fun _ => hC, H⟩
    · have := ready_mono hj hji
      rw [H.1] at this
      cases this
  | succ fuel ih =>
    intro listed a w hcl hfree hr hy hC H
    refine ⟨fun h => (by rw [h] at hr; cases hr), fun j hj => ?_⟩
    by_cases hji : j = i
    · subst hji; exact YieldsIf.wpOpInW hi hy hC ⟨fun _ => hC, H⟩
    · have h1 := H.2 j (ready_mono hj hji)
      obtain ⟨hjun, oj, hoj, hall⟩ := mem_ready.1 hj
      have hun : listed.getD i false ≠ true := fun h1 => by
        have h0 := (mem_ready.1 hr).1
        rcases Nat.lt_or_ge i listed.size with h' | h'
        · simp [h'] at h0 h1; rw [h0] at h1; cases h1
        · simp [Array.getElem?_eq_none h'] at h1
      have hjn : j < n := by
        rcases Nat.lt_or_ge j n with h | h
        · exact h
        · exact absurd (anc_listed hcl 12 j i oj hoj hall (htail j oj hoj h)) hun
      have hnot : ∀ e ∈ oj.after, Region.binds md e = true → e.on ≠ i := fun e he hb heq => hun (heq ▸ hall e he hb)
      have h2 := wpOpIn_putIf hoj (hfree j oj hoj hji hjun hnot) (fun cs b => hsel i oi cs b hi) (fun cs b => hsel j oj cs b hoj) hQ hy h1
      have hfree' : ∀ k ok, ops[k]? = some ok → k ≠ i → (listed.setIfInBounds j true).getD k true = false →
          (∀ e ∈ ok.after, Region.binds md e = true → e.on ≠ i) → oi.apart ops ok = true := fun k ok hk hki hun hno => by
        refine hfree k ok hk hki ?_ hno
        by_cases hjk : j = k
        · subst hjk; exact hjun
        · rw [getD_set_ne true hjk] at hun; exact hun
      refine wpOpIn_mono (fun a' w' h3 => ⟨h3.2.1, ih (listed.setIfInBounds j true) a' w' (hcl.set hj) hfree' (ready_mono hr (Ne.symm hji)) h3.1 (h3.2.1 hjn) ?_⟩) h2
      rw [Array.setIfInBounds_comm _ _ hji]
      exact h3.2.2

theorem wpAnyTJ_quiets (hkind : ∀ o, kind P o = true → Quiet P o) (hs : Region.noSelect ops = true) (hQ : ∀ c a a' w, Q (.panic c) a w → Q (.panic c) a' w) {C : World → Prop} {aE : Act} {w : World} (hC : C w) (get : Nat → Oper) :
    ∀ (q : List Nat) (listed : Array Bool) (a : Act) (fuel : Nat), Closed md ops listed → (∀ i ∈ q, ops[i]? = some (get i)) → (∀ i ∈ q, ∀ (j : Nat) (o : Oper), ops[j]? = some o → n ≤ j → anc md ops 12 j i = true) → okQuiet P kind md ops n q listed = true → dstsOk ops a.tmps.size = true →
      (∀ W, C W → wpList P ops (QEnd aE W) (q.map get) a W) → (aE.tmps.size = a.tmps.size → Closed md ops (mark listed q) → wpAnyTI d P md ops Q n C fuel (mark listed q) aE w) → wpAnyTI d P md ops Q n C (fuel + q.length) listed a w
  | [], listed, a, fuel, hcl, _, _, _, _, hw, hk => by
    obtain ⟨h1, _⟩ := hw w hC
    subst h1
    exact hk rfl hcl
  | i :: q, listed, a, fuel, hcl, hget, htail, hok, hd, hw, hk => by
    have hi := hget i (by simp)
    simp only [okQuiet, hi, Bool.and_eq_true, decide_eq_true_eq] at hok
    obtain ⟨⟨⟨⟨h1, h2⟩, h3⟩, h4, h5⟩, h6⟩ := hok
    cases hdst : (get i).dst with
    | none => rw [hdst] at h5; cases h5
    | some d =>
      rw [hdst] at h5
      have h5' : q.all (fun j => match ops[j]? with | some x => x.dst != some d | none => false) = true := h5
      rw [List.all_eq_true] at h5'
      have hquiet : ∀ (q : List Nat) (listed : Array Bool), (∀ i ∈ q, ops[i]? = some (get i)) → okQuiet P kind md ops n q listed = true → ∀ x ∈ q.map get, Quiet P x := by
        intro q
        induction q with
        | nil => intro _ _ _ x hx; cases hx
        | cons j q ih =>
          intro listed hg hok x hx
          simp only [okQuiet, hg j (by simp), Bool.and_eq_true] at hok
          rcases List.mem_cons.1 hx with rfl | hx
          · exact hkind _ hok.1.2.1
          · exact ih _ (fun k hk => hg k (by simp [hk])) hok.2 x hx
      have hgq : ∀ j ∈ q, ops[j]? = some (get j) := fun j hj => hget j (by simp [hj])
      obtain ⟨v, hy, hrest⟩ := quiet_head (C := C) (aE := aE) (l := q.map get) (a := a) (fun x hx => by
        rcases List.mem_cons.1 hx with rfl | hx
        · exact hkind _ h4
        · exact hquiet q _ hgq h6 x hx) hdst (dstsOk_spec hd hi hdst) (fun x hx => by
        obtain ⟨j, hj, rfl⟩ := List.mem_map.1 hx
        have := h5' j hj
        rw [hgq j hj] at this
        simpa using this) hw
      rw [List.length_cons, ← Nat.add_assoc]
      refine wpAnyTJ_first hi (Region.noSelect_spec hs) (fun c a w h => hQ _ _ _ _ h) (fun j o ho hj => htail i (by simp) j o ho hj) _ listed a w hcl (Region.free_spec hi h2) (by simpa using h1) hy hC ?_
      exact wpAnyTJ_quiets hkind hs hQ hC get q _ _ fuel (hcl.set (by simpa using h1)) hgq (fun k hk => htail k (by simp [hk])) h6 (by rw [Act.put_size]; exact hd) hrest (fun he => hk (by rw [he, Act.put_size]))


def okPlanJ (P : Program) (kind : Program → Oper → Bool) (md : Region.Mode) (ops : Array Oper) : List (List Bool × Nat) → List Nat → Array Bool → Bool
  | [], l, listed => l.isEmpty && (Region.ready md ops listed).isEmpty
  | (m, n) :: ms, l, listed =>
    okQuiet P kind md ops n (pick m l) listed && (pick m l).all (fun i => (List.range ops.size).all (fun j => decide (j < n) || anc md ops 12 j i)) &&
    match left m l with
    | [] => ms.isEmpty && (Region.ready md ops (mark listed (pick m l))).isEmpty
    | f :: l' => Region.ready md ops (mark listed (pick m l)) == [f] && (List.range n).all (fun j => (mark listed (pick m l)).getD j true) && okPlanJ P kind md ops ms l' ((mark listed (pick m l)).setIfInBounds f true)

theorem wpAnyIn_of_segsJ (hkind : ∀ o, kind P o = true → Quiet P o) (hs : Region.noSelect ops = true) (hQ : ∀ e a a' w, e ≠ .normal → Q e a w → Q e a' w) (get : Nat → Oper) :
    ∀ (plan : List (List Bool × Nat)) (l : List Nat) (listed : Array Bool) (a : Act) (w : World), Closed md ops listed → (∀ i ∈ l, ops[i]? = some (get i)) → okPlanJ P kind md ops plan l listed = true → dstsOk ops a.tmps.size = true →
      SegsJ d P ops Q plan (l.map get) a w → wpAnyIn Fence.wide d P md ops Q l.length listed a w
  | [], l, listed, a, w, _, _, hok, _, h => by
    simp only [okPlanJ, Bool.and_eq_true, List.isEmpty_iff] at hok
    obtain ⟨rfl, hr⟩ := hok
    exact ⟨hr, h⟩
  | (m, n) :: ms, l, listed, a, w, hcl, hget, hok, hd, h => by
    simp only [okPlanJ, Bool.and_eq_true] at hok
    obtain ⟨⟨hq, ht⟩, hrest⟩ := hok
    simp only [List.all_eq_true, List.mem_range, Bool.or_eq_true, decide_eq_true_eq] at ht
    obtain ⟨aE, hw, hk⟩ := h
    rw [pick_map] at hw
    rw [← pick_left_length m l, Nat.add_comm]
    refine wpAnyIn_of_T (n := n) (C := (· = w)) _ _ _ _ ?_
    refine wpAnyTJ_quiets hkind hs (fun c a a' w h => hQ _ _ _ _ (by simp) h) (C := (· = w)) (aE := aE) rfl get _ _ _ _ hcl (fun i hi => hget i (pick_mem _ _ _ hi))
      (fun i hi j o ho hj => (ht i hi j (Array.getElem?_eq_some_iff.1 ho).1).resolve_left (by omega)) hq hd (fun W hW => by subst hW; exact hw) fun hsz hcl2 => ?_
    rw [left_map] at hk
    cases hl : left m l with
    | nil =>
      rw [hl] at hk hrest
      simp only [Bool.and_eq_true, List.isEmpty_iff] at hrest
      exact ⟨hrest.2, hk⟩
    | cons f l' =>
      rw [hl] at hk hrest
      simp only [Bool.and_eq_true, beq_iff_eq] at hrest
      obtain ⟨⟨hr, hb⟩, hok'⟩ := hrest
      have hgl : ∀ i ∈ left m l, ops[i]? = some (get i) := fun i hi => hget i (left_mem _ _ _ hi)
      rw [hl] at hgl
      have hf := hgl f (by simp)
      refine wpAnyTI_of_late _ _ _ _ (fun j hj => ?_) ?_
      · rw [List.all_eq_true] at hb; exact hb j (List.mem_range.2 hj)
      refine ⟨fun h0 => (by rw [hr] at h0; cases h0), fun i hi => ?_⟩
      rw [hr] at hi
      obtain rfl : i = f := by simpa using hi
      refine wpOpIn_of_oneJ (K := SegsJ d P ops Q ms (l'.map get)) hf (fun a' w' hs' hk' => ?_) hk
      exact wpAnyIn_of_segsJ hkind hs hQ get ms l' _ a' w' (hcl2.set (by rw [hr]; simp)) (fun j hj => hgl j (by simp [hj])) hok' (by rw [hs', hsz]; exact hd) hk'
end

def planJ : List (List Nat × Nat) → List (List Bool × Nat)
  | [] => []
  | (r, n) :: l => (runsT r, n) :: planJ l
theorem segsJ_cons {d n : Nat} {P : Program} {ops : Array Oper} {Q : Exit → Act → World → Prop} {r : List Nat} {ms : List (List Nat × Nat)} {l : List Oper} {a aE : Act} {w : World} (h1 : wpList P ops (QEnd aE w) (pick (runsT r) l) a w)
    (h2 : match left (runsT r) l with | [] => Q .normal aE w | o :: l' => wpListIn Fence.wide d P ops (FEndJ (SegsJ d P ops Q (planJ ms) l')) [o] aE w) : SegsJ d P ops Q (planJ ((r, n) :: ms)) l a w := ⟨aE, h1, h2⟩
theorem segsJ_nil {d : Nat} {P : Program} {ops : Array Oper} {Q : Exit → Act → World → Prop} {l : List Oper} {a : Act} {w : World} (h : Q .normal a w) : SegsJ d P ops Q (planJ []) l a w := h
def okRegionJ (P : Program) (ops : Array Oper) (plan : List (List Bool × Nat)) (size : Nat) : Bool :=
  Region.noSelect ops && dstsOk ops size && okPlanJ P kind .any ops plan (List.range ops.size) (Array.replicate ops.size false)

theorem wpIn_region_segsJ {P : Program} {d id : Nat} {l : List Oper} {Q : Exit → Act → World → Prop} {a : Act} {w : World} (plan : List (List Nat × Nat)) (hm : P.follows .mixedOrders = true)
    (hB : okRegionJ P l.toArray (planJ plan) a.tmps.size = true) (h : SegsJ d P l.toArray Q (planJ plan) l a w.drew) : (Code.region id l.toArray true).wpIn Fence.wide d P Q a w := by
  simp only [okRegionJ, Bool.and_eq_true] at hB
  obtain ⟨⟨h1, h3⟩, h4⟩ := hB
  refine wpIn_mono (Q := NP Q) ?_ (fun e a w h => by cases e <;> first | exact h | exact h.elim)
  refine wpIn_region_any hm ?_
  have hl : (List.range l.toArray.size).map (fun i => l.toArray.getD i default) = l := by
    apply List.ext_getElem
    · simp
    · intro i h1 h2
      simp at h1
      simp [h1]
  have key : ∀ (plan : List (List Bool × Nat)) (l' : List Oper) (a : Act) (w : World), SegsJ d P l.toArray Q plan l' a w → SegsJ d P l.toArray (NP Q) plan l' a w := by
    intro plan
    induction plan with
    | nil => intro l' a w h; exact h
    | cons s plan ih =>
      obtain ⟨m, n⟩ := s
      intro l' a w h
      obtain ⟨aE, h1, h2⟩ := h
      refine ⟨aE, h1, ?_⟩
      cases hl : left m l' with
      | nil => rw [hl] at h2; exact h2
      | cons o l'' =>
        rw [hl] at h2
        dsimp only at h2 ⊢
        unfold wpListIn at h2 ⊢
        split
        · rename_i hw
          simp only [hw, if_true] at h2
          exact ⟨h2.1, uponIn_mono2 (fun a' w' _ hk => ih _ _ _ hk) (fun e a w he hq => by cases e <;> first | exact absurd rfl he | exact hq.elim) h2.2⟩
        · rename_i hw
          simp only [hw] at h2
          exact ⟨h2.1, ih _ _ _ h2.2⟩
  have := wpAnyIn_of_segsJ (d := d) (P := P) (ops := l.toArray) (md := .any) (Q := NP Q) (kind := kind) kind_quiet h1 (fun e a a' w he hq => by cases e <;> first | exact absurd rfl he | exact hq.elim) (fun i => l.toArray.getD i default) (planJ plan) (List.range l.toArray.size) _ a w.drew
    (fun j o ho hl => by
      have h' : (Array.replicate l.toArray.size false).getD j false = false := by simp [Array.getD]
      rw [h'] at hl
      cases hl) (fun i hi => by
      have hi' : i < l.length := by simpa using hi
      simp [hi']) h4 h3 (by rw [hl]; exact key (planJ plan) l a _ h)
  simpa using this
end Go.Seg
end

section
namespace Go
open Go.RowKit
variable {P : Program} {F : Fence} {n : Nat}
theorem wpIn_rangeFunc_ownX {α : Type} {g : Operand} {ps : Array Tmp} {assign body : Code} {Q : Exit → Act → World → Prop} {a : Act} {w : World}
    (hro : F.round = none) (h1 : 1 ≤ n) {gf : Nat} {lb : Array Value} (hg : a.eval g = .func (.func gf) #[] lb) (hFg : F.fn gf) (eg : ∀ args w, (callFunc gf args).run P w = .ok (.enter gf args) w)
    {encs : α → Array Value} {Kp : World → World → Prop} {S Sp : List α → Prop} {N : Nat} {w0 : World} (hseq : SeqStopsK F (n - 1) P gf lb encs Kp S Sp N w0)
    (hKt : ∀ {A B C : World}, Kp A B → Kp B C → Kp A C) (hKb : ∀ (W : World) (l : Nat) (o o' : Obj), w.heap.size ≤ l → W.heap[l]? = some o → o.isCells = false → o.isWalk = false → Kp W (W.putObj l o')) (hb0 : Below w0.heap.size w0 w) (hps : ∀ x, (encs x).size = ps.size)
    (I : List α → World → Prop) (Ix : Code → List α → World → Prop) (hI : OwnFrom w.heap.size I) (hIx : ∀ c, OwnFrom w.heap.size (Ix c)) (h0 : I [] w)
    (hab : ∃ a₁ : α → Act, (∀ (l : Nat) (x : α) (W : World) (K : Act → World → Prop), K (a₁ x) W →
      assign.wpIn (F.inRound l) (n - 1 - 1) P (Exit.then K (fun _ _ _ => False)) { tmps := (ps.zip (encs x)).foldl (fun t (p, v) => t.setIfInBounds p v) a.tmps, defers := [] } W) ∧
      (∀ (l : Nat) (pre : List α) (x : α) (W : World), I pre W → pre.length < N → body.wpIn (F.inRound l) (n - 1 - 1) P (ownPostK Kp I Ix (pre ++ [x]) W) (a₁ x) W))
    (hdone : ∀ (D : Nat) (xs : List α) (W : World), w.heap.size ≤ D → S xs → I xs W → W.heap[D]? = some (.deferred (some [])) → Q .normal { a with defers := { target := .collected D, args := #[] } :: a.defers } W)
    (hstop : ∀ (D : Nat) (c : Code) (pre : List α) (W : World), w.heap.size ≤ D → Sp pre → Ix c pre W → W.heap[D]? = some (.deferred (some [])) → c.wpIn F n P Q { a with defers := { target := .collected D, args := #[] } :: a.defers } W) :
    (Code.rangeFunc g ps assign body).wpIn F n P Q a w := by
  obtain ⟨a₁, h2, h3⟩ := hab
  exact wpIn_rangeFunc_ownF hro h1 hg hFg eg hseq hKt hKb hb0 hps I Ix hI hIx h0 a₁ h2 h3 hdone hstop
end Go
end

section
namespace Go
open Go.RowKit
variable {P : Program} {n : Nat}

/-- An iterator goes through rows (S) or is stopped in their midst (Sp); beside what it hands on it may lay blocks of its own, and turn those of them that are no cells. -/
def SeqN {α : Type} (F : Fence) (n : Nat) (P : Program) (g : Nat) (lb : Array Value) (encs : α → Array Value) (Kp : World → World → Prop) (S Sp : List α → Prop) (w : World) : Prop :=
  ∀ (l : Nat) (J Jx : List α → World → Prop) (W : World), Below w.heap.size w W → OwnFrom W.heap.size J → OwnFrom W.heap.size Jx →
    (∀ pre x W1, J pre W1 → Sp (pre ++ [x]) → YieldAt F (n - 1) P l (encs x) W1 fun e W' => KeepsFrom W.heap.size W1 W' ∧
      ((e = .returned (.bool true) ∧ J (pre ++ [x]) W' ∧ Kp W1 W') ∨ (e = .returned (.bool false) ∧ Jx (pre ++ [x]) W'))) →
    J [] W →
    CallsIn F n P g (#[.func (.yield l) #[] #[]] ++ lb) W fun e W' => (∃ v, e = .returned v) ∧ ((∃ xs, S xs ∧ J xs W') ∨ (∃ pre, Sp pre ∧ Jx pre W'))

theorem OwnFrom.later {β : Type} {B B' : Nat} {I : β → World → Prop} (h : OwnFrom B I) (hB : B ≤ B') : OwnFrom B' I :=
  fun s W W' row hs hg hr => h s W W' row hs hg (fun r e => ⟨Nat.le_trans hB (hr r e).1, (hr r e).2⟩)
/-- What lies below a place abides whatever is done at or behind it. -/
theorem ownFrom_block {β : Type} {B k : Nat} (hk : k < B) (o : Obj) : OwnFrom B (fun (_ : β) W => W.heap[k]? = some o) := fun _ W W' row hs hg hr => by
  dsimp only at hs ⊢
  rw [hg.block k (Array.getElem?_eq_some_iff.1 hs).1 (fun e => by have := (hr k e.symm).1; omega)]
  exact hs

theorem wpIn_range_N {α : Type} {g : Operand} {ps : Array Tmp} {assign body : Code} {Q : Exit → Act → World → Prop} {a : Act} {w : World} {gf : Nat} {lb : Array Value}
    (hg : a.eval g = .func (.func gf) #[] lb) (eg : ∀ args w, (callFunc gf args).run P w = .ok (.enter gf args) w)
    {encs : α → Array Value} {Kp : World → World → Prop} {S Sp : List α → Prop} {w0 : World} (hseq : SeqN Fence.wide (n - 1) P gf lb encs Kp S Sp w0)
    (hKt : ∀ {A B C : World}, Kp A B → Kp B C → Kp A C) (hKb : ∀ (W : World) (l : Nat) (o o' : Obj), w.heap.size ≤ l → W.heap[l]? = some o → o.isCells = false → o.isWalk = false → Kp W (W.putObj l o')) (hb0 : Below w0.heap.size w0 w) (hps : ∀ x, (encs x).size = ps.size)
    (I : List α → World → Prop) (Ix : Code → List α → World → Prop) (hI : OwnFrom w.heap.size I) (hIx : ∀ c, OwnFrom w.heap.size (Ix c)) (h0 : I [] w)
    (hab : ∃ a₁ : α → Act, (∀ (l : Nat) (x : α) (W : World) (K : Act → World → Prop), K (a₁ x) W →
      assign.wpIn (Fence.wide.inRound l) (n - 1 - 1) P (Exit.then K (fun _ _ _ => False)) { tmps := (ps.zip (encs x)).foldl (fun t (p, v) => t.setIfInBounds p v) a.tmps, defers := [] } W) ∧
      (∀ (l : Nat) (pre : List α) (x : α) (W : World), w.heap.size ≤ l → (∃ r, W.heap[l]? = some (.loop r)) → I pre W → Sp (pre ++ [x]) → body.wpIn (Fence.wide.inRound l) (n - 1 - 1) P (ownPostG w.heap.size Kp I Ix (pre ++ [x]) W) (a₁ x) W))
    (hdone : ∀ (D : Nat) (xs : List α) (W : World), w.heap.size ≤ D → S xs → I xs W → W.heap[D]? = some (.deferred (some [])) → Q .normal { a with defers := { target := .collected D, args := #[] } :: a.defers } W)
    (hstop : ∀ (D : Nat) (c : Code) (pre : List α) (W : World), w.heap.size ≤ D → Sp pre → Ix c pre W → W.heap[D]? = some (.deferred (some [])) → c.wpIn Fence.wide n P Q { a with defers := { target := .collected D, args := #[] } :: a.defers } W) :
    (Code.rangeFunc g ps assign body).wpIn Fence.wide n P Q a w := by
  obtain ⟨a₁, hassign, hbody⟩ := hab
  refine wpIn_rangeFunc (fun fn hfn => ?_)
  -- the loop's record, by its state and what is pending
  let R : LoopState → Option Code → Obj := fun st pe => .loop { state := st, pending := pe, fn := fn, tmps := a.tmps, params := ps, assign := assign, body := body, defers := w.heap.size }
  have hRc : ∀ st pe, (R st pe).isCells = false := fun _ _ => rfl
  obtain ⟨W1, hW1⟩ : ∃ W1, (w.alloc (.deferred (some []))).alloc (R .ready none) = W1 := ⟨_, rfl⟩
  have hz : W1.heap.size = w.heap.size + 2 := by rw [← hW1]; simp
  have hL1 : W1.heap[w.heap.size + 1]? = some (R .ready none) := by
    rw [← hW1]
    have := World.alloc_heap_new (w.alloc (.deferred (some []))) (R .ready none)
    rwa [World.size_alloc] at this
  have hD1 : W1.heap[w.heap.size]? = some (.deferred (some [])) := by
    rw [← hW1]
    exact (Below.heap_alloc _ _ _ (by simp)).trans (World.alloc_heap_new w _)
  have hw1 : Below w.heap.size w W1 := by rw [← hW1]; exact ((Below.refl _ w).alloc (Nat.le_refl _) _).alloc (by simp) _
  have hI1 : I [] W1 := by rw [← hW1]; exact hI.alloc _ (hI.alloc _ h0)
  refine ⟨w.heap.size + 1, [{ target := .collected w.heap.size, args := #[] }], W1, { target := .fn (.func gf) lb, args := #[.func (.yield (w.heap.size + 1)) #[] #[]] }, W1, gf,
    #[.func (.yield (w.heap.size + 1)) #[] #[]] ++ lb, W1, ?_, ?_, fun _ _ => trivial, ?_, fun h => (by simp [Fence.wide] at h), ?_⟩
  · rw [← hW1]; exact run_enterLoop_outer _ _ _ _ _
  · simp only [resolve, hg]
    simp [go_sem]
  · simp [invoke, go_sem, eg]
  · have hlD : w.heap.size < W1.heap.size := by omega
    have hlL : w.heap.size + 1 < W1.heap.size := by omega
    have call := hseq (w.heap.size + 1) (fun pre W => I pre W ∧ W.heap[w.heap.size + 1]? = some (R .ready none) ∧ W.heap[w.heap.size]? = some (.deferred (some [])))
      (fun pre W => ∃ c, Ix c pre W ∧ W.heap[w.heap.size + 1]? = some (R .done (some c)) ∧ W.heap[w.heap.size]? = some (.deferred (some []))) W1 (hb0.trans (hw1.mono hb0.size))
      ((hI.later (by omega)).and ((ownFrom_block hlL _).and (ownFrom_block hlD _)))
      (fun s A B row hs hg' hr => by
        obtain ⟨c, hc, h1, h2⟩ := hs
        exact ⟨c, (hIx c).later (by omega) s A B row hc hg' hr, ownFrom_block (β := List α) hlL _ s A B row h1 hg' hr, ownFrom_block (β := List α) hlD _ s A B row h2 hg' hr⟩)
      ?_ ⟨hI1, hL1, hD1⟩
    · refine call.mono ?_
      rintro e W2 ⟨⟨v, rfl⟩, hend⟩
      rcases hend with ⟨xs, hS, hi, hl, hk⟩ | ⟨pre, hSp, c, hi, hl, hk⟩
      · refine ⟨none, _, run_endLoop (P := P) hl (by simp), hdone _ xs _ (Nat.le_refl _) hS (hI.putObj _ hi (by omega) hl (hRc _ _)) ?_⟩
        rw [World.putObj_heap_other (by omega)]
        exact hk
      · refine ⟨some c, _, run_endLoop (P := P) hl (by simp), hstop _ c pre _ (Nat.le_refl _) hSp ((hIx c).putObj _ hi (by omega) hl (hRc _ _)) ?_⟩
        rw [World.putObj_heap_other (by omega)]
        exact hk
    · rintro pre x W ⟨hi, hl, hk⟩ hlen
      have hlt : w.heap.size + 1 < W.heap.size := (Array.getElem?_eq_some_iff.1 hl).1
      refine ⟨fn, _, assign, body, run_yield hl (hps x), roundIn_of_wpIn hfn (hassign _ x W _ ?_)⟩
      refine ⟨_, run_beginRound hl rfl, ?_⟩
      obtain ⟨Wb, hWb⟩ : ∃ Wb, W.putObj (w.heap.size + 1) (R .busy none) = Wb := ⟨_, rfl⟩
      have hlb : Wb.heap[w.heap.size + 1]? = some (R .busy none) := by rw [← hWb]; exact World.putObj_heap_same hlt
      have hkb : Wb.heap[w.heap.size]? = some (.deferred (some [])) := by rw [← hWb, World.putObj_heap_other (by omega)]; exact hk
      have hib : I pre Wb := by rw [← hWb]; exact hI.putObj _ hi (by omega) hl (hRc _ _)
      have hKW : Kp W Wb := by rw [← hWb]; exact hKb _ _ _ _ (by omega) hl rfl rfl
      have keep : ∀ (W3 : World) (o : Obj), KeepsFrom w.heap.size Wb W3 → KeepsFrom W1.heap.size W (W3.putObj (w.heap.size + 1) o) := fun W3 o h3 => by
        have hs : W.heap.size = Wb.heap.size := by rw [← hWb]; simp
        refine ⟨by have := h3.size; simp; omega, fun k o' hk1 hko ho => ?_⟩
        rw [World.putObj_heap_other (by omega)]
        refine h3.same k o' (by omega) ?_ ho
        rw [← hWb, World.putObj_heap_other (by omega)]
        exact hko
      have stop : ∀ (c : Code) (a3 : Act) (W3 : World), KeepsFrom w.heap.size Wb W3 → Ix c (pre ++ [x]) W3 → ∃ u W4, (Instr.endRound (w.heap.size + 1) (some c)).run P W3 = .ok u W4 ∧ u = .bool false ∧ KeepsFrom W1.heap.size W W4 ∧ (∃ c, Ix c (pre ++ [x]) W4 ∧ W4.heap[w.heap.size + 1]? = some (R .done (some c)) ∧ W4.heap[w.heap.size]? = some (.deferred (some []))) := fun c _ W3 h3 hx => by
        have hl3 := h3.same _ _ (by omega) hlb (hRc _ _)
        refine ⟨_, _, run_endRound (P := P) (some c) hl3, rfl, keep W3 _ h3, c, (hIx c).putObj _ hx (by omega) hl3 (hRc _ _), World.putObj_heap_same (Array.getElem?_eq_some_iff.1 hl3).1, ?_⟩
        rw [World.putObj_heap_other (by omega)]
        exact h3.same _ _ (Nat.le_refl _) hkb rfl
      show body.wpIn _ _ P _ _ (W.putObj (w.heap.size + 1) (R .busy none))
      rw [hWb]
      refine wpIn_mono (hbody _ pre x Wb (by omega) ⟨_, hlb⟩ hib hlen) ?_
      rintro e a3 W3 hp
      cases e with
      | normal =>
        obtain ⟨h3, hk3, hi3⟩ := hp
        have hl3 := h3.same _ _ (by omega) hlb (hRc _ _)
        refine ⟨_, _, run_endRound (P := P) none hl3, keep W3 _ h3, .inl ⟨rfl, ⟨hI.putObj _ hi3 (by omega) hl3 (hRc _ _), World.putObj_heap_same (Array.getElem?_eq_some_iff.1 hl3).1, ?_⟩, hKt hKW (hKt hk3 (hKb _ _ _ _ (by omega) hl3 rfl rfl))⟩⟩
        rw [World.putObj_heap_other (by omega)]
        exact h3.same _ _ (Nat.le_refl _) hkb rfl
      | ret =>
        obtain ⟨u, W4, h4, rfl, hkf, hx⟩ := stop _ a3 W3 hp.1 hp.2
        exact ⟨_, _, h4, hkf, .inr ⟨rfl, hx⟩⟩
      | exit id =>
        obtain ⟨u, W4, h4, rfl, hkf, hx⟩ := stop _ a3 W3 hp.1 hp.2
        exact ⟨_, _, h4, hkf, .inr ⟨rfl, hx⟩⟩
      | goto t =>
        obtain ⟨u, W4, h4, rfl, hkf, hx⟩ := stop _ a3 W3 hp.1 hp.2
        exact ⟨_, _, h4, hkf, .inr ⟨rfl, hx⟩⟩
      | panic ch => exact hp.elim
      | outgrown => exact hp.elim

/-- A loop whose variable is a struct: it is laid in a block of its own ahead of each round. -/
theorem wpIn_range_NB {α : Type} {g : Operand} {ps : Array Tmp} {assign body : Code} {Q : Exit → Act → World → Prop} {a : Act} {w : World} {gf : Nat} {lb : Array Value}
    (hg : a.eval g = .func (.func gf) #[] lb) (eg : ∀ args w, (callFunc gf args).run P w = .ok (.enter gf args) w)
    {encs : α → Array Value} {Kp : World → World → Prop} {S Sp : List α → Prop} {w0 : World} (hseq : SeqN Fence.wide (n - 1) P gf lb encs Kp S Sp w0)
    (hKt : ∀ {A B C : World}, Kp A B → Kp B C → Kp A C) (hKa : ∀ (W : World) (o : Obj), w.heap.size ≤ W.heap.size → Kp W (W.alloc o)) (hKb : ∀ (W : World) (l : Nat) (o o' : Obj), w.heap.size ≤ l → W.heap[l]? = some o → o.isCells = false → o.isWalk = false → Kp W (W.putObj l o')) (hb0 : Below w0.heap.size w0 w) (hps : ∀ x, (encs x).size = ps.size) (ob : α → Obj)
    (I : List α → World → Prop) (Ix : Code → List α → World → Prop) (hI : OwnFrom w.heap.size I) (hIx : ∀ c, OwnFrom w.heap.size (Ix c)) (h0 : I [] w)
    (hab : ∃ a₁ : α → Nat → Act, (∀ (l : Nat) (x : α) (W : World) (K : Act → World → Prop), (∀ k, W.heap.size = k → K (a₁ x k) (W.alloc (ob x))) →
      assign.wpIn (Fence.wide.inRound l) (n - 1 - 1) P (Exit.then K (fun _ _ _ => False)) { tmps := (ps.zip (encs x)).foldl (fun t (p, v) => t.setIfInBounds p v) a.tmps, defers := [] } W) ∧
      (∀ (l k : Nat) (pre : List α) (x : α) (W : World), w.heap.size ≤ l → (∃ r, W.heap[l]? = some (.loop r)) → w.heap.size ≤ k → W.heap[k]? = some (ob x) → I pre W → Sp (pre ++ [x]) → body.wpIn (Fence.wide.inRound l) (n - 1 - 1) P (ownPostG w.heap.size Kp I Ix (pre ++ [x]) W) (a₁ x k) W))
    (hdone : ∀ (D : Nat) (xs : List α) (W : World), w.heap.size ≤ D → S xs → I xs W → W.heap[D]? = some (.deferred (some [])) → Q .normal { a with defers := { target := .collected D, args := #[] } :: a.defers } W)
    (hstop : ∀ (D : Nat) (c : Code) (pre : List α) (W : World), w.heap.size ≤ D → Sp pre → Ix c pre W → W.heap[D]? = some (.deferred (some [])) → c.wpIn Fence.wide n P Q { a with defers := { target := .collected D, args := #[] } :: a.defers } W) :
    (Code.rangeFunc g ps assign body).wpIn Fence.wide n P Q a w := by
  obtain ⟨a₁, hassign, hbody⟩ := hab
  refine wpIn_rangeFunc (fun fn hfn => ?_)
  -- the loop's record, by its state and what is pending
  let R : LoopState → Option Code → Obj := fun st pe => .loop { state := st, pending := pe, fn := fn, tmps := a.tmps, params := ps, assign := assign, body := body, defers := w.heap.size }
  have hRc : ∀ st pe, (R st pe).isCells = false := fun _ _ => rfl
  obtain ⟨W1, hW1⟩ : ∃ W1, (w.alloc (.deferred (some []))).alloc (R .ready none) = W1 := ⟨_, rfl⟩
  have hz : W1.heap.size = w.heap.size + 2 := by rw [← hW1]; simp
  have hL1 : W1.heap[w.heap.size + 1]? = some (R .ready none) := by
    rw [← hW1]
    have := World.alloc_heap_new (w.alloc (.deferred (some []))) (R .ready none)
    rwa [World.size_alloc] at this
  have hD1 : W1.heap[w.heap.size]? = some (.deferred (some [])) := by
    rw [← hW1]
    exact (Below.heap_alloc _ _ _ (by simp)).trans (World.alloc_heap_new w _)
  have hw1 : Below w.heap.size w W1 := by rw [← hW1]; exact ((Below.refl _ w).alloc (Nat.le_refl _) _).alloc (by simp) _
  have hI1 : I [] W1 := by rw [← hW1]; exact hI.alloc _ (hI.alloc _ h0)
  refine ⟨w.heap.size + 1, [{ target := .collected w.heap.size, args := #[] }], W1, { target := .fn (.func gf) lb, args := #[.func (.yield (w.heap.size + 1)) #[] #[]] }, W1, gf,
    #[.func (.yield (w.heap.size + 1)) #[] #[]] ++ lb, W1, ?_, ?_, fun _ _ => trivial, ?_, fun h => (by simp [Fence.wide] at h), ?_⟩
  · rw [← hW1]; exact run_enterLoop_outer _ _ _ _ _
  · simp only [resolve, hg]
    simp [go_sem]
  · simp [invoke, go_sem, eg]
  · have hlD : w.heap.size < W1.heap.size := by omega
    have hlL : w.heap.size + 1 < W1.heap.size := by omega
    have call := hseq (w.heap.size + 1) (fun pre W => I pre W ∧ W.heap[w.heap.size + 1]? = some (R .ready none) ∧ W.heap[w.heap.size]? = some (.deferred (some [])))
      (fun pre W => ∃ c, Ix c pre W ∧ W.heap[w.heap.size + 1]? = some (R .done (some c)) ∧ W.heap[w.heap.size]? = some (.deferred (some []))) W1 (hb0.trans (hw1.mono hb0.size))
      ((hI.later (by omega)).and ((ownFrom_block hlL _).and (ownFrom_block hlD _)))
      (fun s A B row hs hg' hr => by
        obtain ⟨c, hc, h1, h2⟩ := hs
        exact ⟨c, (hIx c).later (by omega) s A B row hc hg' hr, ownFrom_block (β := List α) hlL _ s A B row h1 hg' hr, ownFrom_block (β := List α) hlD _ s A B row h2 hg' hr⟩)
      ?_ ⟨hI1, hL1, hD1⟩
    · refine call.mono ?_
      rintro e W2 ⟨⟨v, rfl⟩, hend⟩
      rcases hend with ⟨xs, hS, hi, hl, hk⟩ | ⟨pre, hSp, c, hi, hl, hk⟩
      · refine ⟨none, _, run_endLoop (P := P) hl (by simp), hdone _ xs _ (Nat.le_refl _) hS (hI.putObj _ hi (by omega) hl (hRc _ _)) ?_⟩
        rw [World.putObj_heap_other (by omega)]
        exact hk
      · refine ⟨some c, _, run_endLoop (P := P) hl (by simp), hstop _ c pre _ (Nat.le_refl _) hSp ((hIx c).putObj _ hi (by omega) hl (hRc _ _)) ?_⟩
        rw [World.putObj_heap_other (by omega)]
        exact hk
    · rintro pre x W0 ⟨hi0, hl0, hk0⟩ hlen
      have hlt0 : w.heap.size + 1 < W0.heap.size := (Array.getElem?_eq_some_iff.1 hl0).1
      refine ⟨fn, _, assign, body, run_yield hl0 (hps x), roundIn_of_wpIn hfn (hassign _ x W0 _ fun k0 hk0' => ?_)⟩
      subst hk0'
      obtain ⟨W, hW⟩ : ∃ W, W0.alloc (ob x) = W := ⟨_, rfl⟩
      have hl : W.heap[w.heap.size + 1]? = some (R .ready none) := by rw [← hW]; exact (Below.heap_alloc _ _ _ hlt0).trans hl0
      have hk : W.heap[w.heap.size]? = some (.deferred (some [])) := by rw [← hW]; exact (Below.heap_alloc _ _ _ (by omega)).trans hk0
      have hi : I pre W := by rw [← hW]; exact hI.alloc _ hi0
      have hob : W.heap[W0.heap.size]? = some (ob x) := by rw [← hW]; exact World.alloc_heap_new W0 _
      have hKa0 : Kp W0 W := by rw [← hW]; exact hKa _ _ (by omega)
      have hsz : W0.heap.size ≤ W.heap.size := by rw [← hW]; simp
      have hold : ∀ (k : Nat) (o : Obj), W0.heap[k]? = some o → W.heap[k]? = some o := fun k o h => by rw [← hW]; exact (Below.heap_alloc _ _ _ (Array.getElem?_eq_some_iff.1 h).1).trans h
      rw [hW]
      have hlt : w.heap.size + 1 < W.heap.size := (Array.getElem?_eq_some_iff.1 hl).1
      refine ⟨_, run_beginRound hl rfl, ?_⟩
      obtain ⟨Wb, hWb⟩ : ∃ Wb, W.putObj (w.heap.size + 1) (R .busy none) = Wb := ⟨_, rfl⟩
      have hlb : Wb.heap[w.heap.size + 1]? = some (R .busy none) := by rw [← hWb]; exact World.putObj_heap_same hlt
      have hkb : Wb.heap[w.heap.size]? = some (.deferred (some [])) := by rw [← hWb, World.putObj_heap_other (by omega)]; exact hk
      have hobb : Wb.heap[W0.heap.size]? = some (ob x) := by rw [← hWb, World.putObj_heap_other (by omega)]; exact hob
      have hib : I pre Wb := by rw [← hWb]; exact hI.putObj _ hi (by omega) hl (hRc _ _)
      have hKW : Kp W0 Wb := hKt hKa0 (by rw [← hWb]; exact hKb _ _ _ _ (by omega) hl rfl rfl)
      have keep : ∀ (W3 : World) (o : Obj), KeepsFrom w.heap.size Wb W3 → KeepsFrom W1.heap.size W0 (W3.putObj (w.heap.size + 1) o) := fun W3 o h3 => by
        have hs : W.heap.size = Wb.heap.size := by rw [← hWb]; simp
        refine ⟨by have := h3.size; simp; omega, fun k o' hk1 hko ho => ?_⟩
        rw [World.putObj_heap_other (by omega)]
        refine h3.same k o' (by omega) ?_ ho
        rw [← hWb, World.putObj_heap_other (by omega)]
        exact hold _ _ hko
      have stop : ∀ (c : Code) (a3 : Act) (W3 : World), KeepsFrom w.heap.size Wb W3 → Ix c (pre ++ [x]) W3 → ∃ u W4, (Instr.endRound (w.heap.size + 1) (some c)).run P W3 = .ok u W4 ∧ u = .bool false ∧ KeepsFrom W1.heap.size W0 W4 ∧ (∃ c, Ix c (pre ++ [x]) W4 ∧ W4.heap[w.heap.size + 1]? = some (R .done (some c)) ∧ W4.heap[w.heap.size]? = some (.deferred (some []))) := fun c _ W3 h3 hx => by
        have hl3 := h3.same _ _ (by omega) hlb (hRc _ _)
        refine ⟨_, _, run_endRound (P := P) (some c) hl3, rfl, keep W3 _ h3, c, (hIx c).putObj _ hx (by omega) hl3 (hRc _ _), World.putObj_heap_same (Array.getElem?_eq_some_iff.1 hl3).1, ?_⟩
        rw [World.putObj_heap_other (by omega)]
        exact h3.same _ _ (Nat.le_refl _) hkb rfl
      show body.wpIn _ _ P _ _ (W.putObj (w.heap.size + 1) (R .busy none))
      rw [hWb]
      refine wpIn_mono (hbody _ _ pre x Wb (by omega) ⟨_, hlb⟩ (by omega) hobb hib hlen) ?_
      rintro e a3 W3 hp
      cases e with
      | normal =>
        obtain ⟨h3, hk3, hi3⟩ := hp
        have hl3 := h3.same _ _ (by omega) hlb (hRc _ _)
        refine ⟨_, _, run_endRound (P := P) none hl3, keep W3 _ h3, .inl ⟨rfl, ⟨hI.putObj _ hi3 (by omega) hl3 (hRc _ _), World.putObj_heap_same (Array.getElem?_eq_some_iff.1 hl3).1, ?_⟩, hKt hKW (hKt hk3 (hKb _ _ _ _ (by omega) hl3 rfl rfl))⟩⟩
        rw [World.putObj_heap_other (by omega)]
        exact h3.same _ _ (Nat.le_refl _) hkb rfl
      | ret =>
        obtain ⟨u, W4, h4, rfl, hkf, hx⟩ := stop _ a3 W3 hp.1 hp.2
        exact ⟨_, _, h4, hkf, .inr ⟨rfl, hx⟩⟩
      | exit id =>
        obtain ⟨u, W4, h4, rfl, hkf, hx⟩ := stop _ a3 W3 hp.1 hp.2
        exact ⟨_, _, h4, hkf, .inr ⟨rfl, hx⟩⟩
      | goto t =>
        obtain ⟨u, W4, h4, rfl, hkf, hx⟩ := stop _ a3 W3 hp.1 hp.2
        exact ⟨_, _, h4, hkf, .inr ⟨rfl, hx⟩⟩
      | panic ch => exact hp.elim
      | outgrown => exact hp.elim

/-- The same, in a round of loop l₀. -/
theorem wpIn_range_NN {α : Type} {g : Operand} {ps : Array Tmp} {assign body : Code} {Q : Exit → Act → World → Prop} {a : Act} {w : World} {gf : Nat} {lb : Array Value} {l₀ : Nat} {r₀ : Loop} (hl₀ : w.heap[l₀]? = some (.loop r₀))
    (hg : a.eval g = .func (.func gf) #[] lb) (eg : ∀ args w, (callFunc gf args).run P w = .ok (.enter gf args) w)
    {encs : α → Array Value} {Kp : World → World → Prop} {S Sp : List α → Prop} {w0 : World} (hseq : SeqN Fence.wide (n - 1) P gf lb encs Kp S Sp w0)
    (hKt : ∀ {A B C : World}, Kp A B → Kp B C → Kp A C) (hKb : ∀ (W : World) (l : Nat) (o o' : Obj), w.heap.size ≤ l → W.heap[l]? = some o → o.isCells = false → o.isWalk = false → Kp W (W.putObj l o')) (hb0 : Below w0.heap.size w0 w) (hps : ∀ x, (encs x).size = ps.size)
    (I : List α → World → Prop) (Ix : Code → List α → World → Prop) (hI : OwnFrom w.heap.size I) (hIx : ∀ c, OwnFrom w.heap.size (Ix c)) (h0 : I [] w)
    (hab : ∃ a₁ : α → Act, (∀ (l : Nat) (x : α) (W : World) (K : Act → World → Prop), K (a₁ x) W →
      assign.wpIn (Fence.wide.inRound l) (n - 1 - 1) P (Exit.then K (fun _ _ _ => False)) { tmps := (ps.zip (encs x)).foldl (fun t (p, v) => t.setIfInBounds p v) a.tmps, defers := [] } W) ∧
      (∀ (l : Nat) (pre : List α) (x : α) (W : World), w.heap.size ≤ l → (∃ r, W.heap[l]? = some (.loop r)) → I pre W → Sp (pre ++ [x]) → body.wpIn (Fence.wide.inRound l) (n - 1 - 1) P (ownPostG w.heap.size Kp I Ix (pre ++ [x]) W) (a₁ x) W))
    (hdone : ∀ (xs : List α) (W : World), S xs → I xs W → Q .normal a W)
    (hstop : ∀ (c : Code) (pre : List α) (W : World), Sp pre → Ix c pre W → c.wpIn (Fence.wide.inRound l₀) n P Q a W) :
    (Code.rangeFunc g ps assign body).wpIn (Fence.wide.inRound l₀) n P Q a w := by
  obtain ⟨a₁, hassign, hbody⟩ := hab
  refine wpIn_rangeFunc (fun fn hfn => ?_)
  let R : LoopState → Option Code → Obj := fun st pe => .loop { state := st, pending := pe, fn := fn, tmps := a.tmps, params := ps, assign := assign, body := body, defers := r₀.defers }
  have hRc : ∀ st pe, (R st pe).isCells = false := fun _ _ => rfl
  obtain ⟨W1, hW1⟩ : ∃ W1, w.alloc (R .ready none) = W1 := ⟨_, rfl⟩
  have hz : W1.heap.size = w.heap.size + 1 := by rw [← hW1]; simp
  have hL1 : W1.heap[w.heap.size]? = some (R .ready none) := by rw [← hW1]; exact World.alloc_heap_new w _
  have hw1 : Below w.heap.size w W1 := by rw [← hW1]; exact (Below.refl _ w).alloc (Nat.le_refl _) _
  have hI1 : I [] W1 := by rw [← hW1]; exact hI.alloc _ h0
  refine ⟨w.heap.size, [], W1, { target := .fn (.func gf) lb, args := #[.func (.yield w.heap.size) #[] #[]] }, W1, gf, #[.func (.yield w.heap.size) #[] #[]] ++ lb, W1, ?_, ?_, fun _ _ => trivial, ?_, fun h => (by simp [Fence.wide, Fence.inRound] at h), ?_⟩
  · rw [← hW1]; exact run_enterLoop_inner hl₀ _ _ _ _ _
  · simp only [resolve, hg]
    simp [go_sem]
  · simp [invoke, go_sem, eg]
  · have hlL : w.heap.size < W1.heap.size := by omega
    have call := hseq w.heap.size (fun pre W => I pre W ∧ W.heap[w.heap.size]? = some (R .ready none)) (fun pre W => ∃ c, Ix c pre W ∧ W.heap[w.heap.size]? = some (R .done (some c))) W1 (hb0.trans (hw1.mono hb0.size))
      ((hI.later (by omega)).and (ownFrom_block hlL _))
      (fun s A B row hs hg' hr => by
        obtain ⟨c, hc, h1⟩ := hs
        exact ⟨c, (hIx c).later (by omega) s A B row hc hg' hr, ownFrom_block (β := List α) hlL _ s A B row h1 hg' hr⟩)
      ?_ ⟨hI1, hL1⟩
    · refine (CallsIn.inRound l₀ call).mono ?_
      rintro e W2 ⟨⟨v, rfl⟩, hend⟩
      rcases hend with ⟨xs, hS, hi, hl⟩ | ⟨pre, hSp, c, hi, hl⟩
      · exact ⟨none, _, run_endLoop (P := P) hl (by simp), hdone xs _ hS (hI.putObj _ hi (Nat.le_refl _) hl (hRc _ _))⟩
      · exact ⟨some c, _, run_endLoop (P := P) hl (by simp), hstop c pre _ hSp ((hIx c).putObj _ hi (Nat.le_refl _) hl (hRc _ _))⟩
    · rintro pre x W ⟨hi, hl⟩ hlen
      have hlt : w.heap.size < W.heap.size := (Array.getElem?_eq_some_iff.1 hl).1
      refine ⟨fn, _, assign, body, run_yield hl (hps x), roundIn_of_wpIn hfn (hassign _ x W _ ?_)⟩
      refine ⟨_, run_beginRound hl rfl, ?_⟩
      obtain ⟨Wb, hWb⟩ : ∃ Wb, W.putObj w.heap.size (R .busy none) = Wb := ⟨_, rfl⟩
      have hlb : Wb.heap[w.heap.size]? = some (R .busy none) := by rw [← hWb]; exact World.putObj_heap_same hlt
      have hib : I pre Wb := by rw [← hWb]; exact hI.putObj _ hi (Nat.le_refl _) hl (hRc _ _)
      have hKW : Kp W Wb := by rw [← hWb]; exact hKb _ _ _ _ (Nat.le_refl _) hl rfl rfl
      have keep : ∀ (W3 : World) (o : Obj), KeepsFrom w.heap.size Wb W3 → KeepsFrom W1.heap.size W (W3.putObj w.heap.size o) := fun W3 o h3 => by
        have hs : W.heap.size = Wb.heap.size := by rw [← hWb]; simp
        refine ⟨by have := h3.size; simp; omega, fun k o' hk1 hko ho => ?_⟩
        rw [World.putObj_heap_other (by omega)]
        refine h3.same k o' (by omega) ?_ ho
        rw [← hWb, World.putObj_heap_other (by omega)]
        exact hko
      have stop : ∀ (c : Code) (W3 : World), KeepsFrom w.heap.size Wb W3 → Ix c (pre ++ [x]) W3 → ∃ u W4, (Instr.endRound w.heap.size (some c)).run P W3 = .ok u W4 ∧ u = .bool false ∧ KeepsFrom W1.heap.size W W4 ∧ (∃ c, Ix c (pre ++ [x]) W4 ∧ W4.heap[w.heap.size]? = some (R .done (some c))) := fun c W3 h3 hx => by
        have hl3 := h3.same _ _ (Nat.le_refl _) hlb (hRc _ _)
        exact ⟨_, _, run_endRound (P := P) (some c) hl3, rfl, keep W3 _ h3, c, (hIx c).putObj _ hx (Nat.le_refl _) hl3 (hRc _ _), World.putObj_heap_same (Array.getElem?_eq_some_iff.1 hl3).1⟩
      show body.wpIn _ _ P _ _ (W.putObj w.heap.size (R .busy none))
      rw [hWb]
      refine wpIn_mono (hbody _ pre x Wb (Nat.le_refl _) ⟨_, hlb⟩ hib hlen) ?_
      rintro e a3 W3 hp
      cases e with
      | normal =>
        obtain ⟨h3, hk3, hi3⟩ := hp
        have hl3 := h3.same _ _ (Nat.le_refl _) hlb (hRc _ _)
        exact ⟨_, _, run_endRound (P := P) none hl3, keep W3 _ h3, .inl ⟨rfl, ⟨hI.putObj _ hi3 (Nat.le_refl _) hl3 (hRc _ _), World.putObj_heap_same (Array.getElem?_eq_some_iff.1 hl3).1⟩, hKt hKW (hKt hk3 (hKb _ _ _ _ (Nat.le_refl _) hl3 rfl rfl))⟩⟩
      | ret =>
        obtain ⟨u, W4, h4, rfl, hkf, hx⟩ := stop _ W3 hp.1 hp.2
        exact ⟨_, _, h4, hkf, .inr ⟨rfl, hx⟩⟩
      | exit id =>
        obtain ⟨u, W4, h4, rfl, hkf, hx⟩ := stop _ W3 hp.1 hp.2
        exact ⟨_, _, h4, hkf, .inr ⟨rfl, hx⟩⟩
      | goto t =>
        obtain ⟨u, W4, h4, rfl, hkf, hx⟩ := stop _ W3 hp.1 hp.2
        exact ⟨_, _, h4, hkf, .inr ⟨rfl, hx⟩⟩
      | panic ch => exact hp.elim
      | outgrown => exact hp.elim
end Go
end

section
namespace Go.Proofs.YtdfbfcglacalmaaGreat.TrUI
open Go.RowKit Go.Shelf Go.Seg Go.Open Rk
attribute [local go_sem] Oper.semAt_some

theorem anyDepth {F : Fence} (hd : F.depth = none) {m : Nat} (m' : Nat) {P : Program} {l : Nat} {args : Array Value} {W : World} {R : Ending → World → Prop} (h : YieldAt F m P l args W R) : YieldAt F m' P l args W R := by
  obtain ⟨fn, tmps, assign, body, hy, hR⟩ := h
  exact ⟨fn, tmps, assign, body, hy, hR.1, fun c cs _ => hR.2 c cs (fun d h => by rw [hd] at h; cases h)⟩

/-- The tree lies there, in blocks below n₀. -/
def isB (n₀ : Nat) (w : World) : Option Addr → T Int Int → Prop
  | p, .nil => p = none
  | p, .node k v l r => ∃ b pl pr, p = some ⟨b, 0, none⟩ ∧ b < n₀ ∧ NodeAt w b k v pl pr (l.sz + r.sz + 1) (max l.dp r.dp + 1) ∧ isB n₀ w pl l ∧ isB n₀ w pr r
theorem isT.low {w : World} : ∀ {t : T Int Int} {p : Option Addr}, isT w p t → isB w.heap.size w p t
  | .nil, _, h => h
  | .node _ _ _ _, _, ⟨b, pl, pr, hp, hb, hl, hr⟩ => ⟨b, pl, pr, hp, Blk.lt hb, hb, hl.low, hr.low⟩
theorem blk_below {n₀ : Nat} {A B : World} {b : Nat} {cs : Array Value} {E : TypeId} (h : Below n₀ A B) (hb : b < n₀) (k : Blk A b cs E) : Blk B b cs E := by
  unfold Blk at *
  rw [h.block b hb]; exact k
theorem isB.below {n₀ : Nat} {A B : World} (h : Below n₀ A B) : ∀ {t : T Int Int} {p : Option Addr}, isB n₀ A p t → isB n₀ B p t
  | .nil, _, k => k
  | .node _ _ _ _, _, ⟨b, pl, pr, hp, hlt, hb, hl, hr⟩ => ⟨b, pl, pr, hp, hlt, blk_below h hlt hb, hl.below h, hr.below h⟩

theorem may_true (k : Int) (w : World) : Calls Tryz.prog 165 #[.int .u64 k] w fun e w' => e = .returned (.bool true) ∧ w = w' := by
  go_enter Tryz.func165, Tryz.ntmps165
  go_wp2_with fail
  go_ret
  exact ⟨rfl, rfl⟩

set_option maxRecDepth 100000 in
set_option maxHeartbeats 2000000 in
theorem walkT_in (l n₀ : Nat) (L0 : List (Int × Int)) (J Jx : List (Int × Int) → World → Prop) (hJd : ∀ s W, J s W → J s W.drew)
    (hY : ∀ m pre x W, J pre W → pre ++ [x] <+: L0 → YieldAt Fence.wide m Tryz.prog l #[.int .u64 x.1, .int .i64 x.2] W fun e W' =>
      (e = .returned (.bool true) ∧ J (pre ++ [x]) W' ∧ Below n₀ W W') ∨ (e = .returned (.bool false) ∧ Jx (pre ++ [x]) W')) (t : T Int Int) :
    ∀ (n : Nat) (p : Option Addr) (pre : List (Int × Int)) (W : World), isB n₀ W p t → J pre W → pre ++ t.toL <+: L0 →
      CallsIn Fence.wide n Tryz.prog 164 #[.pointer p, .func (.func 165) #[] #[], .func (.yield l) #[] #[]] W fun e W' =>
        (e = .returned (.bool true) ∧ J (pre ++ t.toL) W' ∧ Below n₀ W W') ∨ (e = .returned (.bool false) ∧ ∃ q, q <+: t.toL ∧ Jx (pre ++ q) W') := by
  induction t with
  | nil =>
    intro n p pre W ht hJ _
    obtain rfl : p = none := ht
    refine callsIn_wide.2 ?_
    go_enter Tryz.func164, Tryz.ntmps164
    go_wp2_with fail
    go_ret
    exact .inl ⟨rfl, by simpa [T.toL] using hJ, Below.refl _ _⟩
  | node xk xv tl tr ihl ihr =>
    intro n p pre W ht hJ hN
    obtain ⟨b, pl, pr, rfl, hlt, hb, hl, hr⟩ := ht
    simp only [T.toL] at hN
    have c0 := hb.c0
    have HB := Lib.hid hb
    have HL := Lib.hid hl
    have HR := Lib.hid hr
    have HJ := Lib.hid hJ
    have IHL := Lib.hid ihl
    have IHR := Lib.hid ihr
    have HY := Lib.hid hY
    clear hb hl hr hJ ihl ihr hY
    refine callsIn_wide.2 ?_
    go_enter Tryz.func164, Tryz.ntmps164
    go_wp2_with fail
    refine (may_true _ _).mono ?_
    rintro e w' ⟨rfl, rfl⟩
    go_wp2_with fail
    clear c0
    refine wpIn_wide (n := n).1 ?_
    refine wpIn_region_segsJ [([6, 23], 6), ([10, 12], 17), ([8, 3], 26), ([2], 29)] (by kernel_rfl) (by kernel_rfl) ?_
    apply segsJ_cons
    · have hb9 := blk_below ((Below.refl n₀ W).drew) hlt HB.out
      have c0 := NodeAt.c0 hb9
      have c1 := NodeAt.c1 hb9
      have c2 := NodeAt.c2 hb9
      have c3 := NodeAt.c3 hb9
      clear hb9
      simp only [runsT, runsF, rep, pick]
      go_wp2_with fail
      exact ⟨rfl, rfl⟩
    simp only [runsT, runsF, rep, left]
    have ih1 := IHL.out (n - 1) pl pre W.drew (HL.out.below ((Below.refl n₀ W).drew)) (hJd _ _ HJ.out) (List.IsPrefix.trans ⟨(xk, xv) :: tr.toL, by simp⟩ hN)
    gi_wp2
    refine ⟨trivial, fun h => (by simp [Fence.wide] at h), ?_⟩
    refine ih1.mono ?_
    clear ih1
    rintro e W1 (⟨rfl, hJ1, hb1⟩ | ⟨rfl, q, hq, hx1⟩)
    · (try dsimp only)
      apply_assumption
      change SegsJ _ _ _ _ _ _ _ _
      apply segsJ_cons
      · have hb9 := blk_below (((Below.refl n₀ W).drew).trans hb1) hlt HB.out
        have c0 := NodeAt.c0 hb9
        have c1 := NodeAt.c1 hb9
        have c2 := NodeAt.c2 hb9
        have c3 := NodeAt.c3 hb9
        clear hb9
        simp only [runsT, runsF, rep, pick]
        go_wp2_with fail
        exact ⟨rfl, rfl⟩
      simp only [runsT, runsF, rep, left]
      obtain ⟨fn, tmps, assign, body, hy, hR⟩ := HY.out (n - 1) (pre ++ tl.toL) (xk, xv) W1 hJ1 (List.IsPrefix.trans ⟨tr.toL, by simp⟩ hN)
      gi_wp2
      refine ⟨fun h => (by simp [Fence.wide] at h), ?_⟩
      refine hR.mono ?_
      clear hR
      rintro e W2 (⟨rfl, hJ2, hb2⟩ | ⟨rfl, hx2⟩)
      · (try dsimp only)
        apply_assumption
        change SegsJ _ _ _ _ _ _ _ _
        apply segsJ_cons
        · have hb9 := blk_below ((((Below.refl n₀ W).drew).trans hb1).trans hb2) hlt HB.out
          have c0 := NodeAt.c0 hb9
          have c1 := NodeAt.c1 hb9
          have c2 := NodeAt.c2 hb9
          have c3 := NodeAt.c3 hb9
          clear hb9
          simp only [runsT, runsF, rep, pick]
          go_wp2_with fail
          exact ⟨rfl, rfl⟩
        simp only [runsT, runsF, rep, left]
        have ih3 := IHR.out (n - 1) pr _ W2 (HR.out.below ((((Below.refl n₀ W).drew).trans hb1).trans hb2)) hJ2 (by simpa [List.append_assoc] using hN)
        gi_wp2
        refine ⟨trivial, fun h => (by simp [Fence.wide] at h), ?_⟩
        refine ih3.mono ?_
        clear ih3
        rintro e W3 (⟨rfl, hJ3, hb3⟩ | ⟨rfl, q, hq, hx3⟩)
        · (try dsimp only)
          apply_assumption
          change SegsJ _ _ _ _ _ _ _ _
          apply segsJ_cons
          · skip
            simp only [runsT, runsF, rep, pick]
            go_wp2_with fail
            exact ⟨rfl, rfl⟩
          simp only [runsT, runsF, rep, left]
          go_wp2_with fail
          go_ret
          exact .inl ⟨rfl, by simpa [T.toL, List.append_assoc] using hJ3, ((((Below.refl n₀ W).drew).trans hb1).trans hb2).trans hb3⟩
        · (try dsimp only)
          apply_assumption
          change SegsJ _ _ _ _ _ _ _ _
          apply segsJ_cons
          · skip
            simp only [runsT, runsF, rep, pick]
            go_wp2_with fail
            exact ⟨rfl, rfl⟩
          simp only [runsT, runsF, rep, left]
          go_wp2_with fail
          go_ret
          obtain ⟨r, hr'⟩ := hq
          exact .inr ⟨rfl, tl.toL ++ (xk, xv) :: q, ⟨r, by simp [T.toL, ← hr']⟩, by simpa [List.append_assoc] using hx3⟩
      · (try dsimp only)
        apply_assumption
        change SegsJ _ _ _ _ _ _ _ _
        apply segsJ_cons
        · skip
          simp only [runsT, runsF, rep, pick]
          go_wp2_with fail
          exact ⟨rfl, rfl⟩
        simp only [runsT, runsF, rep, left]
        gi_wp2
        refine ⟨(by first | exact trivial | (intro f h; cases h)), ?_⟩
        (try apply_assumption)
        change SegsJ _ _ _ _ _ _ _ _
        apply segsJ_cons
        · skip
          simp only [runsT, runsF, rep, pick]
          go_wp2_with fail
          exact ⟨rfl, rfl⟩
        simp only [runsT, runsF, rep, left]
        go_wp2_with fail
        go_ret
        exact .inr ⟨rfl, tl.toL ++ [(xk, xv)], ⟨tr.toL, by simp [T.toL]⟩, by simpa [List.append_assoc] using hx2⟩
    · (try dsimp only)
      apply_assumption
      change SegsJ _ _ _ _ _ _ _ _
      apply segsJ_cons
      · skip
        simp only [runsT, runsF, rep, pick]
        go_wp2_with fail
        exact ⟨rfl, rfl⟩
      simp only [runsT, runsF, rep, left]
      gi_wp2
      refine ⟨(by first | exact trivial | (intro f h; cases h)), ?_⟩
      (try apply_assumption)
      change SegsJ _ _ _ _ _ _ _ _
      apply segsJ_cons
      · skip
        simp only [runsT, runsF, rep, pick]
        go_wp2_with fail
        exact ⟨rfl, rfl⟩
      simp only [runsT, runsF, rep, left]
      gi_wp2
      refine ⟨(by first | exact trivial | (intro f h; cases h)), ?_⟩
      (try apply_assumption)
      change SegsJ _ _ _ _ _ _ _ _
      apply segsJ_cons
      · skip
        simp only [runsT, runsF, rep, pick]
        go_wp2_with fail
        exact ⟨rfl, rfl⟩
      simp only [runsT, runsF, rep, left]
      go_wp2_with fail
      go_ret
      exact .inr ⟨rfl, q, hq.trans (by simp [T.toL]), hx1⟩

/-- The tree, in blocks below n₀. -/
def isTreeB (n₀ : Nat) (w : World) (p : Option Addr) (t : T Int Int) : Prop := ∃ b root, p = some ⟨b, 0, none⟩ ∧ b < n₀ ∧ TreeAt w b root ∧ isB n₀ w root t
theorem isTree.low {w : World} {t : T Int Int} {p : Option Addr} : isTree w p t → isTreeB w.heap.size w p t := fun ⟨b, root, hp, hb, ht⟩ => ⟨b, root, hp, Blk.lt hb, hb, ht.low⟩
theorem isTreeB.below {n₀ : Nat} {A B : World} (h : Below n₀ A B) {t : T Int Int} {p : Option Addr} : isTreeB n₀ A p t → isTreeB n₀ B p t := fun ⟨b, root, hp, hl, hb, ht⟩ => ⟨b, root, hp, hl, blk_below h hl hb, ht.below h⟩

theorem All_any (p : Option Addr) (w : World) : Calls Tryz.prog 140 #[.pointer p] w fun e w' =>
    e = .returned (.func (.func 163) #[] #[.pointer (some ⟨w.heap.size, 0, none⟩)]) ∧ w' = w.alloc (.cells #[.pointer p] 120) := by
  go_enter Tryz.func140, Tryz.ntmps140
  go_wp2_with fail
  go_ret
  exact ⟨rfl, rfl⟩

set_option maxRecDepth 100000 in
set_option maxHeartbeats 1000000 in
theorem all1_in (n l Bt n₀ : Nat) (p : Option Addr) (t : T Int Int) (J Jx : List (Int × Int) → World → Prop) (hJd : ∀ s W, J s W → J s W.drew)
    (hY : ∀ pre x W, J pre W → pre ++ [x] <+: t.toL → YieldAt Fence.wide (n - 1) Tryz.prog l #[.int .u64 x.1, .int .i64 x.2] W fun e W' =>
      (e = .returned (.bool true) ∧ J (pre ++ [x]) W' ∧ Below n₀ W W') ∨ (e = .returned (.bool false) ∧ Jx (pre ++ [x]) W'))
    (W : World) (hBt : W.cell? ⟨Bt, 0, none⟩ = some (.pointer p)) (hT : isTreeB n₀ W p t) (h0 : J [] W) :
    CallsIn Fence.wide n Tryz.prog 163 #[.func (.yield l) #[] #[], .pointer (some ⟨Bt, 0, none⟩)] W fun e W' => (∃ v, e = .returned v) ∧
      ((∃ ys, ys = t.toL ∧ J ys W') ∨ (∃ pre, pre <+: t.toL ∧ Jx pre W')) := by
  obtain ⟨tb, root, rfl, hlt, hb, ht⟩ := hT
  have hp := callsIn_wide.1 (walkT_in l n₀ t.toL J Jx hJd (fun m pre x W hj hl => anyDepth rfl m (hY pre x W hj hl)) t 0 root [] W ht h0 (List.prefix_refl _))
  have t1 := hb.c1
  have HP := Lib.hid hp
  clear hp hb ht hY hJd
  refine callsIn_wide.2 ?_
  go_enter Tryz.func163, Tryz.ntmps163
  go_wp2_with fail
  refine HP.out.mono ?_
  rintro e W1 (⟨rfl, hJ1, _⟩ | ⟨rfl, q, hq, hx⟩)
  · go_wp2_with fail
    go_end0
    exact ⟨⟨_, rfl⟩, .inl ⟨_, rfl, by simpa using hJ1⟩⟩
  · go_wp2_with fail
    go_end0
    exact ⟨⟨_, rfl⟩, .inr ⟨q, hq, by simpa using hx⟩⟩

theorem grown_drew (W : World) : W.grownBy W.drew none := ⟨rfl, rfl, rfl, Nat.le_refl _, fun _ _ _ => rfl⟩

theorem YieldAt.mono' {F : Fence} {m : Nat} {P : Program} {l : Nat} {args : Array Value} {W : World} {R R' : Ending → World → Prop} (h : YieldAt F m P l args W R) (hr : ∀ e w', R e w' → R' e w') : YieldAt F m P l args W R' := by
  obtain ⟨fn, tmps, assign, body, hy, hR⟩ := h
  exact ⟨fn, tmps, assign, body, hy, hR.mono hr⟩
/-- What All hands back goes through the tree's keys and things, in order. -/
theorem all_N (n Bt n₀ : Nat) (Kp : World → World → Prop) (hKp : ∀ A B, Kp A B → Below n₀ A B) (p : Option Addr) (t : T Int Int) (w : World) (hBt : Bt < w.heap.size) (hn₀ : n₀ ≤ w.heap.size)
    (hc : w.cell? ⟨Bt, 0, none⟩ = some (.pointer p)) (hT : isTreeB n₀ w p t) :
    SeqN Fence.wide n Tryz.prog 163 #[.pointer (some ⟨Bt, 0, none⟩)] (fun x : Int × Int => #[Value.int .u64 x.1, Value.int .i64 x.2]) Kp (fun ys => ys = t.toL) (fun pre => pre <+: t.toL) w := fun l J Jx W hW hJ _ hY h0 =>
  all1_in n l Bt n₀ p t J Jx (fun s W h => hJ s W W.drew none h (grown_drew W) (fun r e => by cases e)) (fun pre x W hj hp => YieldAt.mono' (hY pre x W hj hp) (fun e w' h => h.2.elim (fun h => .inl ⟨h.1, h.2.1, hKp _ _ h.2.2⟩) .inr)) W ((hW.cell (p := ⟨Bt, 0, none⟩) hBt).trans hc) (hT.below (hW.mono hn₀)) h0
end Go.Proofs.YtdfbfcglacalmaaGreat.TrUI
end

section
namespace Go.Proofs.YtdfbfcglacalmaaGreat.TrBk
open Go.RowKit Go.Shelf Go.Seg Go.Open Rk
attribute [local go_sem] Oper.semAt_some

theorem anyDepth {F : Fence} (hd : F.depth = none) {m : Nat} (m' : Nat) {P : Program} {l : Nat} {args : Array Value} {W : World} {R : Ending → World → Prop} (h : YieldAt F m P l args W R) : YieldAt F m' P l args W R := by
  obtain ⟨fn, tmps, assign, body, hy, hR⟩ := h
  exact ⟨fn, tmps, assign, body, hy, hR.1, fun c cs _ => hR.2 c cs (fun d h => by rw [hd] at h; cases h)⟩

/-- The tree lies there, in blocks below n₀. -/
def isB (n₀ : Nat) (w : World) : Option Addr → T Int (Option Addr) → Prop
  | p, .nil => p = none
  | p, .node k v l r => ∃ b pl pr, p = some ⟨b, 0, none⟩ ∧ b < n₀ ∧ NodeAt w b k v pl pr (l.sz + r.sz + 1) (max l.dp r.dp + 1) ∧ isB n₀ w pl l ∧ isB n₀ w pr r
theorem isT.low {w : World} : ∀ {t : T Int (Option Addr)} {p : Option Addr}, isT w p t → isB w.heap.size w p t
  | .nil, _, h => h
  | .node _ _ _ _, _, ⟨b, pl, pr, hp, hb, hl, hr⟩ => ⟨b, pl, pr, hp, Blk.lt hb, hb, hl.low, hr.low⟩
theorem blk_below {n₀ : Nat} {A B : World} {b : Nat} {cs : Array Value} {E : TypeId} (h : Below n₀ A B) (hb : b < n₀) (k : Blk A b cs E) : Blk B b cs E := by
  unfold Blk at *
  rw [h.block b hb]; exact k
theorem isB.below {n₀ : Nat} {A B : World} (h : Below n₀ A B) : ∀ {t : T Int (Option Addr)} {p : Option Addr}, isB n₀ A p t → isB n₀ B p t
  | .nil, _, k => k
  | .node _ _ _ _, _, ⟨b, pl, pr, hp, hlt, hb, hl, hr⟩ => ⟨b, pl, pr, hp, hlt, blk_below h hlt hb, hl.below h, hr.below h⟩

theorem may_true (k : Int) (w : World) : Calls Tryz.prog 162 #[.int .i64 k] w fun e w' => e = .returned (.bool true) ∧ w = w' := by
  go_enter Tryz.func162, Tryz.ntmps162
  go_wp2_with fail
  go_ret
  exact ⟨rfl, rfl⟩

set_option maxRecDepth 100000 in
set_option maxHeartbeats 2000000 in
theorem walkT_in (l n₀ : Nat) (L0 : List (Int × Option Addr)) (J Jx : List (Int × Option Addr) → World → Prop) (hJd : ∀ s W, J s W → J s W.drew)
    (hY : ∀ m pre x W, J pre W → pre ++ [x] <+: L0 → YieldAt Fence.wide m Tryz.prog l #[.int .i64 x.1, .pointer x.2] W fun e W' =>
      (e = .returned (.bool true) ∧ J (pre ++ [x]) W' ∧ Below n₀ W W') ∨ (e = .returned (.bool false) ∧ Jx (pre ++ [x]) W')) (t : T Int (Option Addr)) :
    ∀ (n : Nat) (p : Option Addr) (pre : List (Int × Option Addr)) (W : World), isB n₀ W p t → J pre W → pre ++ t.toL <+: L0 →
      CallsIn Fence.wide n Tryz.prog 161 #[.pointer p, .func (.func 162) #[] #[], .func (.yield l) #[] #[]] W fun e W' =>
        (e = .returned (.bool true) ∧ J (pre ++ t.toL) W' ∧ Below n₀ W W') ∨ (e = .returned (.bool false) ∧ ∃ q, q <+: t.toL ∧ Jx (pre ++ q) W') := by
  induction t with
  | nil =>
    intro n p pre W ht hJ _
    obtain rfl : p = none := ht
    refine callsIn_wide.2 ?_
    go_enter Tryz.func161, Tryz.ntmps161
    go_wp2_with fail
    go_ret
    exact .inl ⟨rfl, by simpa [T.toL] using hJ, Below.refl _ _⟩
  | node xk xv tl tr ihl ihr =>
    intro n p pre W ht hJ hN
    obtain ⟨b, pl, pr, rfl, hlt, hb, hl, hr⟩ := ht
    simp only [T.toL] at hN
    have c0 := hb.c0
    have HB := Lib.hid hb
    have HL := Lib.hid hl
    have HR := Lib.hid hr
    have HJ := Lib.hid hJ
    have IHL := Lib.hid ihl
    have IHR := Lib.hid ihr
    have HY := Lib.hid hY
    clear hb hl hr hJ ihl ihr hY
    refine callsIn_wide.2 ?_
    go_enter Tryz.func161, Tryz.ntmps161
    go_wp2_with fail
    refine (may_true _ _).mono ?_
    rintro e w' ⟨rfl, rfl⟩
    go_wp2_with fail
    clear c0
    refine wpIn_wide (n := n).1 ?_
    refine wpIn_region_segsJ [([6, 23], 6), ([10, 12], 17), ([8, 3], 26), ([2], 29)] (by kernel_rfl) (by kernel_rfl) ?_
    apply segsJ_cons
    · have hb9 := blk_below ((Below.refl n₀ W).drew) hlt HB.out
      have c0 := NodeAt.c0 hb9
      have c1 := NodeAt.c1 hb9
      have c2 := NodeAt.c2 hb9
      have c3 := NodeAt.c3 hb9
      clear hb9
      simp only [runsT, runsF, rep, pick]
      go_wp2_with fail
      exact ⟨rfl, rfl⟩
    simp only [runsT, runsF, rep, left]
    have ih1 := IHL.out (n - 1) pl pre W.drew (HL.out.below ((Below.refl n₀ W).drew)) (hJd _ _ HJ.out) (List.IsPrefix.trans ⟨(xk, xv) :: tr.toL, by simp⟩ hN)
    gi_wp2
    refine ⟨trivial, fun h => (by simp [Fence.wide] at h), ?_⟩
    refine ih1.mono ?_
    clear ih1
    rintro e W1 (⟨rfl, hJ1, hb1⟩ | ⟨rfl, q, hq, hx1⟩)
    · (try dsimp only)
      apply_assumption
      change SegsJ _ _ _ _ _ _ _ _
      apply segsJ_cons
      · have hb9 := blk_below (((Below.refl n₀ W).drew).trans hb1) hlt HB.out
        have c0 := NodeAt.c0 hb9
        have c1 := NodeAt.c1 hb9
        have c2 := NodeAt.c2 hb9
        have c3 := NodeAt.c3 hb9
        clear hb9
        simp only [runsT, runsF, rep, pick]
        go_wp2_with fail
        exact ⟨rfl, rfl⟩
      simp only [runsT, runsF, rep, left]
      obtain ⟨fn, tmps, assign, body, hy, hR⟩ := HY.out (n - 1) (pre ++ tl.toL) (xk, xv) W1 hJ1 (List.IsPrefix.trans ⟨tr.toL, by simp⟩ hN)
      gi_wp2
      refine ⟨fun h => (by simp [Fence.wide] at h), ?_⟩
      refine hR.mono ?_
      clear hR
      rintro e W2 (⟨rfl, hJ2, hb2⟩ | ⟨rfl, hx2⟩)
      · (try dsimp only)
        apply_assumption
        change SegsJ _ _ _ _ _ _ _ _
        apply segsJ_cons
        · have hb9 := blk_below ((((Below.refl n₀ W).drew).trans hb1).trans hb2) hlt HB.out
          have c0 := NodeAt.c0 hb9
          have c1 := NodeAt.c1 hb9
          have c2 := NodeAt.c2 hb9
          have c3 := NodeAt.c3 hb9
          clear hb9
          simp only [runsT, runsF, rep, pick]
          go_wp2_with fail
          exact ⟨rfl, rfl⟩
        simp only [runsT, runsF, rep, left]
        have ih3 := IHR.out (n - 1) pr _ W2 (HR.out.below ((((Below.refl n₀ W).drew).trans hb1).trans hb2)) hJ2 (by simpa [List.append_assoc] using hN)
        gi_wp2
        refine ⟨trivial, fun h => (by simp [Fence.wide] at h), ?_⟩
        refine ih3.mono ?_
        clear ih3
        rintro e W3 (⟨rfl, hJ3, hb3⟩ | ⟨rfl, q, hq, hx3⟩)
        · (try dsimp only)
          apply_assumption
          change SegsJ _ _ _ _ _ _ _ _
          apply segsJ_cons
          · skip
            simp only [runsT, runsF, rep, pick]
            go_wp2_with fail
            exact ⟨rfl, rfl⟩
          simp only [runsT, runsF, rep, left]
          go_wp2_with fail
          go_ret
          exact .inl ⟨rfl, by simpa [T.toL, List.append_assoc] using hJ3, ((((Below.refl n₀ W).drew).trans hb1).trans hb2).trans hb3⟩
        · (try dsimp only)
          apply_assumption
          change SegsJ _ _ _ _ _ _ _ _
          apply segsJ_cons
          · skip
            simp only [runsT, runsF, rep, pick]
            go_wp2_with fail
            exact ⟨rfl, rfl⟩
          simp only [runsT, runsF, rep, left]
          go_wp2_with fail
          go_ret
          obtain ⟨r, hr'⟩ := hq
          exact .inr ⟨rfl, tl.toL ++ (xk, xv) :: q, ⟨r, by simp [T.toL, ← hr']⟩, by simpa [List.append_assoc] using hx3⟩
      · (try dsimp only)
        apply_assumption
        change SegsJ _ _ _ _ _ _ _ _
        apply segsJ_cons
        · skip
          simp only [runsT, runsF, rep, pick]
          go_wp2_with fail
          exact ⟨rfl, rfl⟩
        simp only [runsT, runsF, rep, left]
        gi_wp2
        refine ⟨(by first | exact trivial | (intro f h; cases h)), ?_⟩
        (try apply_assumption)
        change SegsJ _ _ _ _ _ _ _ _
        apply segsJ_cons
        · skip
          simp only [runsT, runsF, rep, pick]
          go_wp2_with fail
          exact ⟨rfl, rfl⟩
        simp only [runsT, runsF, rep, left]
        go_wp2_with fail
        go_ret
        exact .inr ⟨rfl, tl.toL ++ [(xk, xv)], ⟨tr.toL, by simp [T.toL]⟩, by simpa [List.append_assoc] using hx2⟩
    · (try dsimp only)
      apply_assumption
      change SegsJ _ _ _ _ _ _ _ _
      apply segsJ_cons
      · skip
        simp only [runsT, runsF, rep, pick]
        go_wp2_with fail
        exact ⟨rfl, rfl⟩
      simp only [runsT, runsF, rep, left]
      gi_wp2
      refine ⟨(by first | exact trivial | (intro f h; cases h)), ?_⟩
      (try apply_assumption)
      change SegsJ _ _ _ _ _ _ _ _
      apply segsJ_cons
      · skip
        simp only [runsT, runsF, rep, pick]
        go_wp2_with fail
        exact ⟨rfl, rfl⟩
      simp only [runsT, runsF, rep, left]
      gi_wp2
      refine ⟨(by first | exact trivial | (intro f h; cases h)), ?_⟩
      (try apply_assumption)
      change SegsJ _ _ _ _ _ _ _ _
      apply segsJ_cons
      · skip
        simp only [runsT, runsF, rep, pick]
        go_wp2_with fail
        exact ⟨rfl, rfl⟩
      simp only [runsT, runsF, rep, left]
      go_wp2_with fail
      go_ret
      exact .inr ⟨rfl, q, hq.trans (by simp [T.toL]), hx1⟩

/-- The tree, in blocks below n₀. -/
def isTreeB (n₀ : Nat) (w : World) (p : Option Addr) (t : T Int (Option Addr)) : Prop := ∃ b root, p = some ⟨b, 0, none⟩ ∧ b < n₀ ∧ TreeAt w b root ∧ isB n₀ w root t
theorem isTree.low {w : World} {t : T Int (Option Addr)} {p : Option Addr} : isTree w p t → isTreeB w.heap.size w p t := fun ⟨b, root, hp, hb, ht⟩ => ⟨b, root, hp, Blk.lt hb, hb, ht.low⟩
theorem isTreeB.below {n₀ : Nat} {A B : World} (h : Below n₀ A B) {t : T Int (Option Addr)} {p : Option Addr} : isTreeB n₀ A p t → isTreeB n₀ B p t := fun ⟨b, root, hp, hl, hb, ht⟩ => ⟨b, root, hp, hl, blk_below h hl hb, ht.below h⟩

theorem All_any (p : Option Addr) (w : World) : Calls Tryz.prog 139 #[.pointer p] w fun e w' =>
    e = .returned (.func (.func 160) #[] #[.pointer (some ⟨w.heap.size, 0, none⟩)]) ∧ w' = w.alloc (.cells #[.pointer p] 122) := by
  go_enter Tryz.func139, Tryz.ntmps139
  go_wp2_with fail
  go_ret
  exact ⟨rfl, rfl⟩

set_option maxRecDepth 100000 in
set_option maxHeartbeats 1000000 in
theorem all1_in (n l Bt n₀ : Nat) (p : Option Addr) (t : T Int (Option Addr)) (J Jx : List (Int × Option Addr) → World → Prop) (hJd : ∀ s W, J s W → J s W.drew)
    (hY : ∀ pre x W, J pre W → pre ++ [x] <+: t.toL → YieldAt Fence.wide (n - 1) Tryz.prog l #[.int .i64 x.1, .pointer x.2] W fun e W' =>
      (e = .returned (.bool true) ∧ J (pre ++ [x]) W' ∧ Below n₀ W W') ∨ (e = .returned (.bool false) ∧ Jx (pre ++ [x]) W'))
    (W : World) (hBt : W.cell? ⟨Bt, 0, none⟩ = some (.pointer p)) (hT : isTreeB n₀ W p t) (h0 : J [] W) :
    CallsIn Fence.wide n Tryz.prog 160 #[.func (.yield l) #[] #[], .pointer (some ⟨Bt, 0, none⟩)] W fun e W' => (∃ v, e = .returned v) ∧
      ((∃ ys, ys = t.toL ∧ J ys W') ∨ (∃ pre, pre <+: t.toL ∧ Jx pre W')) := by
  obtain ⟨tb, root, rfl, hlt, hb, ht⟩ := hT
  have hp := callsIn_wide.1 (walkT_in l n₀ t.toL J Jx hJd (fun m pre x W hj hl => anyDepth rfl m (hY pre x W hj hl)) t 0 root [] W ht h0 (List.prefix_refl _))
  have t1 := hb.c1
  have HP := Lib.hid hp
  clear hp hb ht hY hJd
  refine callsIn_wide.2 ?_
  go_enter Tryz.func160, Tryz.ntmps160
  go_wp2_with fail
  refine HP.out.mono ?_
  rintro e W1 (⟨rfl, hJ1, _⟩ | ⟨rfl, q, hq, hx⟩)
  · go_wp2_with fail
    go_end0
    exact ⟨⟨_, rfl⟩, .inl ⟨_, rfl, by simpa using hJ1⟩⟩
  · go_wp2_with fail
    go_end0
    exact ⟨⟨_, rfl⟩, .inr ⟨q, hq, by simpa using hx⟩⟩

theorem grown_drew (W : World) : W.grownBy W.drew none := ⟨rfl, rfl, rfl, Nat.le_refl _, fun _ _ _ => rfl⟩

theorem YieldAt.mono' {F : Fence} {m : Nat} {P : Program} {l : Nat} {args : Array Value} {W : World} {R R' : Ending → World → Prop} (h : YieldAt F m P l args W R) (hr : ∀ e w', R e w' → R' e w') : YieldAt F m P l args W R' := by
  obtain ⟨fn, tmps, assign, body, hy, hR⟩ := h
  exact ⟨fn, tmps, assign, body, hy, hR.mono hr⟩
/-- What All hands back goes through the tree's keys and things, in order. -/
theorem all_N (n Bt n₀ : Nat) (Kp : World → World → Prop) (hKp : ∀ A B, Kp A B → Below n₀ A B) (p : Option Addr) (t : T Int (Option Addr)) (w : World) (hBt : Bt < w.heap.size) (hn₀ : n₀ ≤ w.heap.size)
    (hc : w.cell? ⟨Bt, 0, none⟩ = some (.pointer p)) (hT : isTreeB n₀ w p t) :
    SeqN Fence.wide n Tryz.prog 160 #[.pointer (some ⟨Bt, 0, none⟩)] (fun x : Int × Option Addr => #[Value.int .i64 x.1, Value.pointer x.2]) Kp (fun ys => ys = t.toL) (fun pre => pre <+: t.toL) w := fun l J Jx W hW hJ _ hY h0 =>
  all1_in n l Bt n₀ p t J Jx (fun s W h => hJ s W W.drew none h (grown_drew W) (fun r e => by cases e)) (fun pre x W hj hp => YieldAt.mono' (hY pre x W hj hp) (fun e w' h => h.2.elim (fun h => .inl ⟨h.1, h.2.1, hKp _ _ h.2.2⟩) .inr)) W ((hW.cell (p := ⟨Bt, 0, none⟩) hBt).trans hc) (hT.below (hW.mono hn₀)) h0
end Go.Proofs.YtdfbfcglacalmaaGreat.TrBk
end

section
namespace Go.Proofs.YtdfbfcglacalmaaGreat.Exi
open Go.RowKit Go.Shelf Go.Seg Go.Open Go.Lib Rk Ex
attribute [local go_sem] Oper.semAt_some

/-- Blocks of a type lie as they lay. -/
def KeepsTy (E : TypeId) (W W' : World) : Prop := ∀ (k : Nat) (cs : Array Value) f, W.heap[k]? = some (.cells cs E f) → W'.heap[k]? = some (.cells cs E f)
/-- What a round that goes on keeps. -/
def kp (n₀ : Nat) (W W' : World) : Prop := Below n₀ W W' ∧ KeepsTy 195 W W'
/-- An index's blocks, all below a place. -/
def IdxB (n₀ : Nat) (w : World) (b : Nat) (tp : T Int (Option Addr)) (tt : Int → T Int Int) : Prop :=
  b < n₀ ∧ ∃ q1 q2, Blk w b #[.pointer q1, .pointer q2] 126 ∧ TrBk.isTreeB n₀ w q2 tp ∧ ∀ x ∈ tp.toL, TrUI.isTreeB n₀ w x.2 (tt x.1)
theorem IdxB.below {n₀ : Nat} {A B : World} {b : Nat} {tp : T Int (Option Addr)} {tt : Int → T Int Int} (h : Below n₀ A B) : IdxB n₀ A b tp tt → IdxB n₀ B b tp tt :=
  fun ⟨hb, q1, q2, h1, h2, h3⟩ => ⟨hb, q1, q2, TrBk.blk_below h hb h1, h2.below h, fun x hx => (h3 x hx).below h⟩

theorem KeepsFrom.later {B B' : Nat} {W W' : World} (h : KeepsFrom B W W') (hB : B ≤ B') : KeepsFrom B' W W' := ⟨h.size, fun k o hk => h.same k o (by omega)⟩
theorem ordL_snoc {β : Type} (pre : List (Int × β)) (x : Int × β) (tt : Int → T Int Int) : ordL (pre ++ [x]) tt = ordL pre tt ++ (tt x.1).toL := by simp [ordL]
/-- The rows of the buckets that may be told. -/
def along {β : Type} (due : Int → Bool) (tp : List (Int × β)) (tt : Int → T Int Int) : List (Int × Int) := ordL (tp.takeWhile fun x => due x.1) tt
theorem take_pre {β : Type} {due : Int → Bool} {l pre : List (Int × β)} (h : pre <+: l) (hd : ∀ y ∈ pre, due y.1 = true) : pre <+: l.takeWhile fun x => due x.1 := by
  obtain ⟨r, rfl⟩ := h
  rw [List.takeWhile_append_of_pos (fun y hy => hd y hy)]
  exact ⟨_, rfl⟩
theorem ordL_pre {β : Type} {a l : List (Int × β)} (tt : Int → T Int Int) (h : a <+: l) : ordL a tt <+: ordL l tt := by
  obtain ⟨r, rfl⟩ := h
  exact ⟨ordL r tt, by simp [ordL]⟩
theorem along_all {β : Type} {due : Int → Bool} {l : List (Int × β)} {tt : Int → T Int Int} (hd : ∀ y ∈ l, due y.1 = true) : along due l tt = ordL l tt := by
  unfold along
  have := List.takeWhile_append_of_pos (p := fun x : Int × β => due x.1) (l₁ := l) (l₂ := []) (fun y hy => hd y hy)
  rw [List.append_nil, List.takeWhile_nil, List.append_nil] at this
  rw [this]
theorem along_stop {β : Type} {due : Int → Bool} {l pre : List (Int × β)} {x : Int × β} {tt : Int → T Int Int} (h : pre ++ [x] <+: l) (hd : ∀ y ∈ pre, due y.1 = true) (hx : due x.1 = false) : along due l tt = ordL pre tt := by
  obtain ⟨r, rfl⟩ := h
  unfold along
  rw [List.append_assoc, List.takeWhile_append_of_pos (fun y hy => hd y hy)]
  simp [hx]

theorem _root_.Go.RoundIn.inRound {F : Fence} {n : Nat} {P : Program} {l : Nat} {f : FuncId} {tmps : Array Value} {assign body : Code} {w : World} {R : Ending → World → Prop} (h : RoundIn F n P l f tmps assign body w R) (l' : Nat) : RoundIn (F.inRound l') n P l f tmps assign body w R := h
/-- What along's loops keep: the buckets gone through; the rows of one; where they are left. -/
def AI (J : List (Int × Int) → World → Prop) (due : Int → Bool) (tt : Int → T Int Int) (By : Nat) (yv : Value) (n₀ : Nat) (W0 : World) (pre : List (Int × Option Addr)) (W' : World) : Prop :=
  (((∀ y ∈ pre, due y.1 = true) ∧ J (ordL pre tt) W') ∧ Boxed W' By 195 yv) ∧ Below n₀ W0 W'
def AX (J Jx : List (Int × Int) → World → Prop) (due : Int → Bool) (tt : Int → T Int Int) (L : List (Int × Int)) (c : Code) (pre : List (Int × Option Addr)) (W' : World) : Prop :=
  c = .ret ∧ ((∃ pre' x, pre = pre' ++ [x] ∧ (∀ y ∈ pre', due y.1 = true) ∧ due x.1 = false ∧ J (ordL pre' tt) W') ∨ (∃ q, q <+: L ∧ Jx q W'))
def BI (J : List (Int × Int) → World → Prop) (L0 : List (Int × Int)) (By : Nat) (yv : Value) (n₀ B : Nat) (Wr : World) (pre2 : List (Int × Int)) (W' : World) : Prop :=
  (J (L0 ++ pre2) W' ∧ Boxed W' By 195 yv) ∧ (Below n₀ Wr W' ∧ KeepsFrom B Wr W')
def BX (Jx : List (Int × Int) → World → Prop) (L0 : List (Int × Int)) (B : Nat) (Wr : World) (c : Code) (pre2 : List (Int × Int)) (W' : World) : Prop :=
  c = .ret ∧ Jx (L0 ++ pre2) W' ∧ KeepsFrom B Wr W'

set_option maxRecDepth 100000 in
set_option maxHeartbeats 4000000 in
theorem along_N (n Bx Bm b n₀ gm : Nat) (caps : Array Value) (eg : ∀ args w, (callFunc gm args).run Tryz.prog w = .ok (.enter gm args) w) (due : Int → Bool) (tp : T Int (Option Addr)) (tt : Int → T Int Int) (w : World)
    (hx : w.cell? ⟨Bx, 0, none⟩ = some (.pointer (some ⟨b, 0, none⟩))) (hm : w.cell? ⟨Bm, 0, none⟩ = some (.func (.func gm) #[] caps)) (hBx : Bx < n₀) (hBm : Bm < n₀) (hn₀ : n₀ ≤ w.heap.size) (hI : IdxB n₀ w b tp tt)
    (hmay : ∀ x ∈ tp.toL, ∀ W, Below n₀ w W → Calls Tryz.prog gm (#[.int .i64 x.1] ++ caps) W fun e w' => e = .returned (.bool (due x.1)) ∧ W = w') :
    SeqN Fence.wide n Tryz.prog 138 #[.pointer (some ⟨Bx, 0, none⟩), .pointer (some ⟨Bm, 0, none⟩)] (fun x : Int × Int => #[Value.int .u64 x.1, Value.int .i64 x.2]) (kp n₀)
      (fun ys => ys = along due tp.toL tt) (fun pre => pre <+: along due tp.toL tt) w := by
  intro l J Jx W hW hJ hJx hY h0
  have hWn : Below n₀ w W := hW.mono hn₀
  have hsz := hW.size
  have hI' := hI.below hWn
  have hx' := (hW.cell (p := ⟨Bx, 0, none⟩) (show Bx < w.heap.size by omega)).trans hx
  have hm' := (hW.cell (p := ⟨Bm, 0, none⟩) (show Bm < w.heap.size by omega)).trans hm
  obtain ⟨hb, q1, q2, hB, hT, hTT⟩ := hI'
  obtain ⟨Wa, hWa⟩ : ∃ Wa, W.alloc (.cells #[.func (.yield l) #[] #[]] 195) = Wa := ⟨_, rfl⟩
  have hA : Ext W Wa := by rw [← hWa]; exact (Below.refl _ _).alloc (Nat.le_refl _) _
  have hzA : Wa.heap.size = W.heap.size + 1 := by rw [← hWa]; simp
  have a0 := (hA.cell (p := ⟨Bx, 0, none⟩) (show Bx < W.heap.size by omega)).trans hx'
  have a1 := (hB.ext hA).cell (i := 1) rfl
  have HTa := Lib.hid (hT.below (hA.mono (by omega)))
  have HTT := Lib.hid hTT
  have HMay := Lib.hid hmay
  have HY := Lib.hid hY
  have HW := Lib.hid hWn
  have HA := Lib.hid hA
  have HM := Lib.hid hm'
  have HZ := Lib.hid hzA
  have HJ0 : Hid (J [] Wa) := Lib.hid (by rw [← hWa]; exact hJ.alloc _ h0)
  have HYB : Hid (Boxed Wa W.heap.size 195 (.func (.yield l) #[] #[])) := Lib.hid (by rw [← hWa]; exact Boxed.new W _ _)
  clear hI hWn hW hx hm hx' hm' hT hTT hmay hY hB hA h0 hzA
  refine callsIn_of_wp_marks Tryz.func138 rfl trivial ?_ rfl
  simp only [Tryz.ntmps138, List.size_toArray, List.length_cons, List.length_nil, Nat.reduceAdd, Nat.reduceSub, Array.replicate_succ, Array.replicate_zero, List.push_toArray, List.append_toArray, List.nil_append, List.cons_append]
  refine wpIn_wide.2 ?_
  go_wp2_with fail
  refine (TrBk.All_any _ _).mono ?_
  rintro e w' ⟨rfl, rfl⟩
  go_wp2_with fail
  have hb0 := Blk.new Wa #[.pointer q2] 122
  have hE0 : Ext Wa (Wa.alloc (.cells #[.pointer q2] 122)) := (Below.refl _ _).alloc (Nat.le_refl _) _
  obtain ⟨W0, hW0⟩ : ∃ W0, Wa.alloc (.cells #[.pointer q2] 122) = W0 := ⟨_, rfl⟩
  rw [hW0] at hb0 hE0 ⊢
  have hz0 : W0.heap.size ≤ Wa.heap.size + 1 ∧ Wa.heap.size + 1 ≤ W0.heap.size := by rw [← hW0]; simp
  have hzA : Wa.heap.size ≤ W.heap.size + 1 ∧ W.heap.size + 1 ≤ Wa.heap.size := by have := HZ.out; omega
  have HJ1 : Hid (J [] W0) := Lib.hid (by rw [← hW0]; exact hJ.alloc _ HJ0.out)
  have HYB1 : Hid (Boxed W0 W.heap.size 195 (.func (.yield l) #[] #[])) := Lib.hid (by rw [← hW0]; exact HYB.out.alloc _)
  have hEn : Below n₀ W W0 := (HA.out.mono (by omega)).trans (hE0.mono (by omega))
  have HEn := Lib.hid hEn
  clear hW0 hWa a0 a1
  refine wpIn_wide (n := n).1 ?_
  refine wpIn_range_N (n := n) (gf := 160) (lb := #[.pointer (some ⟨Wa.heap.size, 0, none⟩)]) rfl (enters_of Tryz.func160 (by kernel_rfl) rfl)
    (TrBk.all_N (n - 1) Wa.heap.size n₀ (Below n₀) (fun _ _ h => h) q2 tp W0 hb0.lt (by omega) (hb0.cell (i := 0) rfl) (HTa.out.below (hE0.mono (by omega)))) belowK_t (belowK_b (by omega)) (Below.refl _ _) (fun _ => rfl)
    (AI J due tt W.heap.size (.func (.yield l) #[] #[]) n₀ W0) (AX J Jx due tt (along due tp.toL tt))
    ?hI ?hIx ⟨⟨⟨fun y h => by simp at h, by simpa [ordL] using HJ1.out⟩, HYB1.out⟩, Below.refl _ _⟩ ?hab ?done ?stop
  case hI =>
    refine OwnFrom.and (OwnFrom.and (fun s A B row hs hg hr => ⟨hs.1, hJ.later (by omega) _ A B row hs.2 hg hr⟩) (Own.from (boxed_own _ _ _) _)) (ownFrom_below (by omega) (by omega))
  case hIx =>
    intro c s A B row hs hg hr
    obtain ⟨h1, h2 | h2⟩ := hs
    · obtain ⟨pre', x, e1, e2, e3, e4⟩ := h2
      exact ⟨h1, .inl ⟨pre', x, e1, e2, e3, hJ.later (by omega) _ A B row e4 hg hr⟩⟩
    · obtain ⟨q, e1, e2⟩ := h2
      exact ⟨h1, .inr ⟨q, e1, hJx.later (by omega) _ A B row e2 hg hr⟩⟩
  case hab =>
    apply Exists.intro
    refine ⟨?assign, ?body⟩
    case assign =>
      intro l x W K hK
      gi_wp2
      exact hK
    case body =>
      rintro lo pre ⟨k, p⟩ Wr hlo ⟨r, hr⟩ ⟨⟨⟨hdue, hJr⟩, hYB⟩, hBr⟩ hpre
      have hxm : (k, p) ∈ tp.toL := hpre.subset (by simp)
      have hBn : Below n₀ W Wr := HEn.out.trans hBr
      have m0 := (hBn.cell (p := ⟨Bm, 0, none⟩) (show Bm < n₀ by omega)).trans HM.out
      have HC := Lib.hid (HMay.out (k, p) hxm Wr (HW.out.trans hBn))
      have HTk := Lib.hid ((HTT.out (k, p) hxm).below hBn)
      have HDue := Lib.hid hdue
      have HJr := Lib.hid hJr
      have HYBr := Lib.hid hYB
      have HBr := Lib.hid hBr
      have HPre := Lib.hid hpre
      clear hdue hJr hYB hBr hpre hBn hb0 hE0 hEn
      by_cases hd : due k = true
      · have HD := Lib.hid hd
        clear hd
        gi_wp2
        refine ⟨trivial, fun h => (by simp [Fence.wide] at h), (CallsIn.inRound lo (callsIn_wide.2 HC.out)).mono ?_⟩
        rw [HD.out]
        rintro e w' ⟨rfl, rfl⟩
        gi_wp2
        refine ⟨trivial, fun h => (by simp [Fence.wide] at h), (CallsIn.inRound lo (callsIn_wide.2 (TrUI.All_any _ _))).mono ?_⟩
        rintro e w' ⟨rfl, rfl⟩
        gi_wp2
        have hbi := Blk.new Wr #[.pointer p] 120
        have hEi : Ext Wr (Wr.alloc (.cells #[.pointer p] 120)) := (Below.refl _ _).alloc (Nat.le_refl _) _
        obtain ⟨Wi, hWi⟩ : ∃ Wi, Wr.alloc (.cells #[.pointer p] 120) = Wi := ⟨_, rfl⟩
        have hr' : Wi.heap[lo]? = some (.loop r) := by rw [← hWi]; exact (Below.heap_alloc Wr _ lo (Array.getElem?_eq_some_iff.1 hr).1).trans hr
        have hzr : n₀ ≤ Wr.heap.size ∧ W0.heap.size ≤ Wr.heap.size := ⟨by have := HBr.out.size; omega, HBr.out.size⟩
        have hJi : J (ordL pre tt) Wi := by rw [← hWi]; exact hJ.alloc _ HJr.out
        have hYi : Boxed Wi W.heap.size 195 (.func (.yield l) #[] #[]) := by rw [← hWi]; exact HYBr.out.alloc _
        have hKi : KeepsFrom W0.heap.size Wr Wi := by rw [← hWi]; exact (KeepsOthers.alloc _ _).from _
        have hzi : Wi.heap.size ≤ Wr.heap.size + 1 ∧ Wr.heap.size + 1 ≤ Wi.heap.size := by rw [← hWi]; simp
        rw [hWi] at hbi hEi ⊢
        have hp2 : ordL (pre ++ [(k, p)]) tt <+: along due tp.toL tt := ordL_pre tt (take_pre HPre.out (fun y hy => (List.mem_append.1 hy).elim (HDue.out y) (fun h => by simp at h; subst h; exact HD.out)))
        rw [ordL_snoc] at hp2
        clear hWi
        refine wpIn_range_NN (n := n - 1 - 1) (l₀ := lo) (r₀ := r) hr' (gf := 163) (lb := #[.pointer (some ⟨Wr.heap.size, 0, none⟩)]) rfl (enters_of Tryz.func163 (by kernel_rfl) rfl)
          (TrUI.all_N (n - 1 - 1 - 1) Wr.heap.size n₀ (Below n₀) (fun _ _ h => h) p (tt k) Wi hbi.lt (by omega) (hbi.cell (i := 0) rfl) (HTk.out.below (hEi.mono hzr.1))) belowK_t (belowK_b (by omega)) (Below.refl _ _) (fun _ => rfl)
          (BI J (ordL pre tt) W.heap.size (.func (.yield l) #[] #[]) n₀ W0.heap.size Wr) (BX Jx (ordL pre tt) W0.heap.size Wr)
          ?hI2 ?hIx2 ⟨⟨by simpa using hJi, hYi⟩, hEi.mono hzr.1, hKi⟩ ?hab2 ?done2 ?stop2
        case hI2 =>
          refine OwnFrom.and (OwnFrom.and (fun s A B row hs hg hr => hJ.later (by omega) _ A B row hs hg hr) (Own.from (boxed_own _ _ _) _)) (OwnFrom.and (ownFrom_below hzr.1 (by omega)) (ownFrom_keepsFrom (by omega)))
        case hIx2 =>
          intro c s A B row hs hg hr
          exact ⟨hs.1, hJx.later (by omega) _ A B row hs.2.1 hg hr, ownFrom_keepsFrom (β := Unit) (by omega) () A B row hs.2.2 hg hr⟩
        case hab2 =>
          apply Exists.intro
          refine ⟨?assign2, ?body2⟩
          case assign2 =>
            intro l x W K hK
            gi_wp2
            exact hK
          case body2 =>
            rintro l2 pre2 ⟨y1, y2⟩ W2 hl2 _ ⟨⟨hJ2, hYB2⟩, hB2, hKF2⟩ hpr2
            have y0 := hYB2.cell
            obtain ⟨fn, tmps, assign, body, hy, hR⟩ := TrUI.anyDepth rfl (n - 1 - 1 - 1 - 1 - 1) (HY.out (ordL pre tt ++ pre2) (y1, y2) W2 hJ2 (by rw [List.append_assoc]; exact ((List.prefix_append_right_inj _).2 hpr2).trans hp2))
            have HB2 := Lib.hid hB2
            have HKF2 := Lib.hid hKF2
            have HYB2 := Lib.hid hYB2
            clear hJ2 hB2 hKF2 hYB2
            gi_wp2
            refine ⟨fun h => (by simp [Fence.wide] at h), (hR.inRound l2).mono ?_⟩
            rintro e W3 ⟨hkf, (⟨rfl, hJ3, hk3⟩ | ⟨rfl, hx3⟩)⟩
            · have HJ3 := Lib.hid hJ3
              have HK3 := Lib.hid hk3
              have HKf := Lib.hid hkf
              clear hJ3 hk3 hkf hy hR
              gi_wp2
              exact ⟨KeepsFrom.later HKf.out (by omega), HK3.out.1, ⟨by rw [← List.append_assoc]; exact HJ3.out, HK3.out.2 _ _ _ HYB2.out⟩, HB2.out.trans HK3.out.1, HKF2.out.trans (KeepsFrom.later HKf.out (by omega))⟩
            · have HJ3 := Lib.hid hx3
              have HKf := Lib.hid hkf
              clear hx3 hkf hy hR
              gi_wp2
              exact ⟨KeepsFrom.later HKf.out (by omega), rfl, by rw [← List.append_assoc]; exact HJ3.out, HKF2.out.trans (KeepsFrom.later HKf.out (by omega))⟩
        case done2 =>
          rintro xs W2 rfl ⟨⟨hJ2, hYB2⟩, hB2, hKF2⟩
          gi_wp2
          exact ⟨hKF2, hB2, ⟨⟨fun y hy => (List.mem_append.1 hy).elim (HDue.out y) (fun h => by simp at h; subst h; exact HD.out), by rw [ordL_snoc]; exact hJ2⟩, hYB2⟩, HBr.out.trans hB2⟩
        case stop2 =>
          rintro c pre2 W2 hpr2 ⟨rfl, hx2, hKF2⟩
          gi_wp2
          exact ⟨hKF2, rfl, .inr ⟨_, ((List.prefix_append_right_inj _).2 hpr2).trans hp2, hx2⟩⟩
      · have hd' : due k = false := by simpa using hd
        have HD := Lib.hid hd'
        clear hd hd'
        gi_wp2
        refine ⟨trivial, fun h => (by simp [Fence.wide] at h), (CallsIn.inRound lo (callsIn_wide.2 HC.out)).mono ?_⟩
        rw [HD.out]
        rintro e w' ⟨rfl, rfl⟩
        gi_wp2
        exact ⟨KeepsFrom.refl _ _, rfl, .inl ⟨pre, (k, p), rfl, HDue.out, HD.out, HJr.out⟩⟩
  case done =>
    rintro D xs W2 hD rfl ⟨⟨⟨hdue, hJ2⟩, hYB2⟩, hB2⟩ hK
    gi_wp2
    refine ⟨by simp, .inl ⟨_, _, rfl, run_takeDeferred hK, ?_⟩⟩
    refine ⟨_, results_none rfl _ _ _, ⟨_, rfl⟩, .inl ⟨_, rfl, ?_⟩⟩
    rw [along_all hdue]
    exact hJ.putObj _ hJ2 (by omega) hK rfl
  case stop =>
    rintro D c pre W2 hD hpre ⟨rfl, h | h⟩ hK
    · obtain ⟨pre', x, rfl, e2, e3, e4⟩ := h
      gi_wp2
      refine ⟨by simp, .inl ⟨_, _, rfl, run_takeDeferred hK, ?_⟩⟩
      refine ⟨_, results_none rfl _ _ _, ⟨_, rfl⟩, .inl ⟨_, rfl, ?_⟩⟩
      rw [along_stop hpre e2 e3]
      exact hJ.putObj _ e4 (by omega) hK rfl
    · obtain ⟨q, e1, e2⟩ := h
      gi_wp2
      refine ⟨by simp, .inl ⟨_, _, rfl, run_takeDeferred hK, ?_⟩⟩
      exact ⟨_, results_none rfl _ _ _, ⟨_, rfl⟩, .inr ⟨q, e1, hJx.putObj _ e2 (by omega) hK rfl⟩⟩
end Go.Proofs.YtdfbfcglacalmaaGreat.Exi
end
