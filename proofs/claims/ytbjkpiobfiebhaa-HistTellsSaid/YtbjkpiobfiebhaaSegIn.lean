/-
  A region that draws its order, walked in the order of the text, INSIDE THE WIDE FENCE: Seg's walk, rule for rule (the laws of Derived.OrdersIn and Derived.OrdersHeld in place of the plain ones): so a call of a yield is walked, too.
  No program in sight; no condition.
-/
import Derived.Test.YtbjkpiobfiebhaaSeg
import Derived.OrdersIn
import Derived.OrdersHeld
import Derived.TacticsIn
namespace Go.Seg
open Go.RowKit
section
variable {P : Program} {ops : Array Oper} {Q : Exit → Act → World → Prop} {md : Region.Mode} {n n₀ d : Nat} {S : World → Prop} {kind : Program → Oper → Bool}

theorem YieldsIf.wpOpInW {i : Nat} {o : Oper} {v : Value} {a : Act} (hi : ops[i]? = some o) (hy : YieldsIf P ops S o v a)
    {K : Act → World → Prop} {w : World} (hS : S w) (h : K (a.put o.dst v) w) : wpOpIn Fence.wide d P ops Q i K a w := by
  unfold Go.wpOpIn
  simp only [hi]
  rcases hy with ⟨hw, hv⟩ | ⟨hw, rfl⟩
  · simp only [hw, if_true]
    refine ⟨fun _ _ => trivial, ?_⟩
    show Oper.uponIn _ _ _ _ _ _ _ ((execOp a.eval o).run P w)
    rw [hv w hS]
    exact h
  · simp only [hw, Bool.false_eq_true, if_false]; exact ⟨fun _ _ => trivial, h⟩

theorem wpOpIn_putIf {j : Nat} {oi oj : Oper} {v : Value} (hj : ops[j]? = some oj) (hap : oi.apart ops oj = true)
    (hsi : ∀ cs b, oi.op ≠ .select cs b) (hsj : ∀ cs b, oj.op ≠ .select cs b)
    (hQ : ∀ c a w, Q (.panic c) (a.put oi.dst v) w → Q (.panic c) a w) {K : Act → World → Prop} {a : Act} {w : World}
    (hy : YieldsIf P ops S oi v a) (h : wpOpIn Fence.wide d P ops Q j K (a.put oi.dst v) w) :
    wpOpIn Fence.wide d P ops Q j (fun a' w' => YieldsIf P ops S oi v a' ∧ K (a'.put oi.dst v) w') a w := by
  obtain ⟨h1, h2, h3⟩ := Oper.apart_spec hap
  have keep : ∀ (a : Act), YieldsIf P ops S oi v a → ∀ u, YieldsIf P ops S oi v (a.put oj.dst u) := fun a hy u =>
    hy.of_same (execOp_put oi hsi a oj.dst u h3) (wanted_put oi a oj.dst u h3)
  have keepD : ∀ x, YieldsIf P ops S oi v { a with defers := x :: a.defers } := fun x => hy.of_same rfl rfl
  unfold wpOpIn at *
  simp only [hj] at *
  rw [wanted_put oj a oi.dst v h1] at h
  split
  · rename_i hw
    simp only [hw, if_true] at h
    refine ⟨fun _ _ => trivial, ?_⟩
    have h := h.2
    change Oper.uponIn _ _ _ _ _ _ _ ((execOp (a.put oi.dst v).eval oj).run P w) at h
    change Oper.uponIn _ _ _ _ _ _ _ ((execOp a.eval oj).run P w)
    rw [execOp_put oj hsj a oi.dst v h1] at h
    generalize (execOp a.eval oj).run P w = r at *
    cases r with
    | ok x w' =>
      cases x <;> simp only [Oper.uponIn] at h ⊢
      case value u => exact ⟨keep a hy u, by rw [← Act.put_comm a v u h2]; exact h⟩
      case skip => exact ⟨keep a hy _, by rw [← Act.put_comm a v undef h2]; exact h⟩
      case defer x =>
        refine ⟨keep _ (keepD x) _, ?_⟩
        rw [← Act.put_comm _ v undef h2, ← Act.put_defers]
        exact h
      case enter f args =>
        refine ⟨h.1, CallsIn.mono h.2 fun e w'' he => ?_⟩
        cases e with
        | returned u => exact ⟨keep a hy u, by rw [← Act.put_comm a v u h2]; exact he⟩
        | panicked c => exact hQ _ _ _ he
        | outgrown => exact he
      case row row args => exact ⟨h.1, RowsIn.mono h.2 fun u w'' he => ⟨keep a hy u, by rw [← Act.put_comm a v u h2]; exact he⟩⟩
      case round l f tmps as bd =>
        refine ⟨h.1, RoundIn.mono h.2 fun e w'' he => ?_⟩
        cases e with
        | returned u => exact ⟨keep a hy u, by rw [← Act.put_comm a v u h2]; exact he⟩
        | panicked c => exact hQ _ _ _ he
        | outgrown => exact he
    | halt x w' =>
      cases x <;> simp only [Oper.uponIn] at h ⊢
      case panic u => exact hQ _ _ _ h
  · rename_i hw
    simp only [hw] at h
    exact ⟨fun _ _ => trivial, keep a hy _, by rw [← Act.put_comm a v undef h2]; exact h.2⟩

/-- Where one call ends, what lay below n₀ being left. -/
def FEndB (n₀ : Nat) (bar : Bool) (w : World) (K : Act → World → Prop) : Exit → Act → World → Prop
  | .normal, a', w' => (bar = false → Below n₀ w w') ∧ K a' w'
  | _, _, _ => False

/-- THE WALK, inside the wide fence: as Segs; the calls by the fence's rules. -/
def SegsI (n₀ d : Nat) (P : Program) (ops : Array Oper) (Q : Exit → Act → World → Prop) : List (List Bool × Bool) → List Oper → Act → World → Prop
  | [], _, a, w => Q .normal a w
  | (m, bar) :: ms, l, a, w => ∃ aE, (∀ W, Below n₀ w W → wpList P ops (QEnd aE W) (pick m l) a W) ∧
      match left m l with
      | [] => Q .normal aE w
      | o :: l' => wpListIn Fence.wide d P ops (FEndB n₀ bar w (SegsI n₀ d P ops Q ms l')) [o] aE w

/-- Whatever order is picked; each of the first n operations leaves the old blocks. -/
def wpAnyTI (d : Nat) (P : Program) (md : Region.Mode) (ops : Array Oper) (Q : Exit → Act → World → Prop) (n : Nat) (C : World → Prop) : Nat → Array Bool → Act → World → Prop
  | 0, listed, a, w => Region.ready md ops listed = [] ∧ Q .normal a w
  | fuel + 1, listed, a, w =>
    (Region.ready md ops listed = [] → Q .normal a w) ∧
    ∀ i ∈ Region.ready md ops listed, wpOpIn Fence.wide d P ops Q i (fun a' w' => (i < n → C w') ∧ wpAnyTI d P md ops Q n C fuel (listed.setIfInBounds i true) a' w') a w


theorem wpAnyIn_of_T {C : World → Prop} : ∀ (fuel : Nat) (listed : Array Bool) (a : Act) (w : World), wpAnyTI d P md ops Q n C fuel listed a w → wpAnyIn Fence.wide d P md ops Q fuel listed a w
  | 0, _, _, _, h => h
  | fuel + 1, _, _, _, h => ⟨h.1, fun i hi => wpOpIn_mono (fun a' w' h' => wpAnyIn_of_T fuel _ a' w' h'.2) (h.2 i hi)⟩

theorem wpAnyTI_mono {C C' : World → Prop} (hC : ∀ w, C w → C' w) : ∀ (fuel : Nat) (listed : Array Bool) (a : Act) (w : World), wpAnyTI d P md ops Q n C fuel listed a w → wpAnyTI d P md ops Q n C' fuel listed a w
  | 0, _, _, _, h => h
  | fuel + 1, _, _, _, h => ⟨h.1, fun i hi => wpOpIn_mono (fun a' w' h' => ⟨fun hn => hC _ (h'.1 hn), wpAnyTI_mono hC fuel _ a' w' h'.2⟩) (h.2 i hi)⟩

/-- Once the first n are over the class matters no more. -/
theorem wpAnyTI_late {C C' : World → Prop} : ∀ (fuel : Nat) (listed : Array Bool) (a : Act) (w : World), (∀ j, j < n → listed.getD j true = true) → wpAnyTI d P md ops Q n C fuel listed a w → wpAnyTI d P md ops Q n C' fuel listed a w
  | 0, _, _, _, _, h => h
  | fuel + 1, listed, _, _, hl, h => by
    refine ⟨h.1, fun i hi => wpOpIn_mono (fun a' w' h' => ⟨fun hn => ?_, wpAnyTI_late fuel _ a' w' (fun j hj => ?_) h'.2⟩) (h.2 i hi)⟩
    · have h1 := (mem_ready.1 hi).1
      rw [hl i hn] at h1
      cases h1
    · by_cases hij : i = j
      · subst hij
        rcases Nat.lt_or_ge i listed.size with h2 | h2 <;> simp [h2]
      · rw [getD_set_ne true hij]; exact hl j hj

/-- A looking operation of the first n that may come up now may be taken first. -/
theorem wpAnyTI_first {C : World → Prop} {i : Nat} {oi : Oper} {v : Value} (hi : ops[i]? = some oi) (hsel : ∀ (j : Nat) (o : Oper) cs b, ops[j]? = some o → o.op ≠ .select cs b)
    (hQ : ∀ c a w, Q (.panic c) (a.put oi.dst v) w → Q (.panic c) a w)
    (htail : ∀ (j : Nat) (o : Oper), ops[j]? = some o → n ≤ j → anc md ops 4 j i = true) :
    ∀ (fuel : Nat) (listed : Array Bool) (a : Act) (w : World), Closed md ops listed →
      (∀ j oj, ops[j]? = some oj → j ≠ i → listed.getD j true = false → (∀ e ∈ oj.after, Region.binds md e = true → e.on ≠ i) → oi.apart ops oj = true) →
      i ∈ Region.ready md ops listed → YieldsIf P ops C oi v a → C w →
      wpAnyTI d P md ops Q n C fuel (listed.setIfInBounds i true) (a.put oi.dst v) w → wpAnyTI d P md ops Q n C (fuel + 1) listed a w := by
  intro fuel
  induction fuel with
  | zero =>
    intro listed a w _ _ hr hy hC H
    refine ⟨fun h => (by rw [h] at hr; cases hr), fun j hj => ?_⟩
    by_cases hji : j = i
    · subst hji; exact YieldsIf.wpOpInW hi hy hC ⟨fun _ => hC, H⟩
    · have := ready_mono hj hji
      rw [H.1] at this
      cases this
  | succ fuel ih =>
    intro listed a w hcl hfree hr hy hC H
    refine ⟨fun h => (by rw [h] at hr; cases hr), fun j hj => ?_⟩
    by_cases hji : j = i
    · subst hji; exact YieldsIf.wpOpInW hi hy hC ⟨fun _ => hC, H⟩
    · have h1 := H.2 j (ready_mono hj hji)
      obtain ⟨hjun, oj, hoj, hall⟩ := mem_ready.1 hj
      have hun : listed.getD i false ≠ true := fun h1 => by
        have h0 := (mem_ready.1 hr).1
        rcases Nat.lt_or_ge i listed.size with h' | h'
        · simp [h'] at h0 h1; rw [h0] at h1; cases h1
        · simp [Array.getElem?_eq_none h'] at h1
      have hjn : j < n := by
        rcases Nat.lt_or_ge j n with h | h
        · exact h
        · exact absurd (anc_listed hcl 4 j i oj hoj hall (htail j oj hoj h)) hun
      have hnot : ∀ e ∈ oj.after, Region.binds md e = true → e.on ≠ i := fun e he hb heq => hun (heq ▸ hall e he hb)
      have h2 := wpOpIn_putIf hoj (hfree j oj hoj hji hjun hnot) (fun cs b => hsel i oi cs b hi) (fun cs b => hsel j oj cs b hoj) hQ hy h1
      have hfree' : ∀ k ok, ops[k]? = some ok → k ≠ i → (listed.setIfInBounds j true).getD k true = false →
          (∀ e ∈ ok.after, Region.binds md e = true → e.on ≠ i) → oi.apart ops ok = true := fun k ok hk hki hun hno => by
        refine hfree k ok hk hki ?_ hno
        by_cases hjk : j = k
        · subst hjk; exact hjun
        · rw [getD_set_ne true hjk] at hun; exact hun
      refine wpOpIn_mono (fun a' w' h3 => ⟨h3.2.1, ih (listed.setIfInBounds j true) a' w' (hcl.set hj) hfree' (ready_mono hr (Ne.symm hji)) h3.1 (h3.2.1 hjn) ?_⟩) h2
      rw [Array.setIfInBounds_comm _ _ hji]
      exact h3.2.2

theorem uponIn_mono2 {F : Fence} {o : Oper} {a : Act} {K K' : Act → World → Prop} {Q Q' : Exit → Act → World → Prop} (hK : ∀ a' w', a'.tmps.size = a.tmps.size → K a' w' → K' a' w') (hQ : ∀ e a w, e ≠ .normal → Q e a w → Q' e a w) {r : Result Next}
    (h : o.uponIn F d P a K Q r) : o.uponIn F d P a K' Q' r := by
  have hl : LetsOut Q → LetsOut Q' := fun ⟨a, w, h⟩ => ⟨a, w, hQ _ _ _ (by simp) h⟩
  cases r with
  | ok x w' =>
    cases x <;> simp only [Oper.uponIn] at h ⊢
    case value v => exact hK _ _ Act.put_size h
    case skip => exact hK _ _ Act.put_size h
    case defer x => exact hK _ _ Act.put_size h
    case enter f args =>
      refine ⟨h.1, CallsIn.mono h.2 fun e w'' he => ?_⟩
      cases e with
      | returned v => exact hK _ _ Act.put_size he
      | panicked c => exact hQ _ _ _ (by simp) he
      | outgrown => exact hl he
    case row row args => exact ⟨h.1, RowsIn.mono h.2 fun v w'' he => hK _ _ Act.put_size he⟩
    case round l f tmps as bd =>
      refine ⟨h.1, RoundIn.mono h.2 fun e w'' he => ?_⟩
      cases e with
      | returned v => exact hK _ _ Act.put_size he
      | panicked c => exact hQ _ _ _ (by simp) he
      | outgrown => exact hl he
  | halt x w' =>
    cases x <;> simp only [Oper.uponIn] at h ⊢
    case panic v => exact hQ _ _ _ (by simp) h

theorem wpOpIn_of_one {i : Nat} {o : Oper} (hi : ops[i]? = some o) {bar : Bool} {w : World} {K K' : Act → World → Prop} {a : Act} (hK : ∀ a' w', a'.tmps.size = a.tmps.size → (bar = false → Below n₀ w w') → K a' w' → K' a' w')
    (h : wpListIn Fence.wide d P ops (FEndB n₀ bar w K) [o] a w) : wpOpIn Fence.wide d P ops Q i K' a w := by
  unfold wpOpIn
  simp only [hi]
  unfold wpListIn at h
  split
  · rename_i hw
    simp only [hw, if_true] at h
    exact ⟨h.1, uponIn_mono2 (fun a' w' hs hk => hK a' w' hs hk.1 hk.2) (fun e a w he hq => by cases e <;> first | exact absurd rfl he | exact hq.elim) h.2⟩
  · rename_i hw
    simp only [hw] at h
    exact ⟨h.1, hK _ _ Act.put_size h.2.1 h.2.2⟩

theorem wpAnyTI_quiets (hkind : ∀ o, kind P o = true → Quiet P o) (hs : Region.noSelect ops = true) (hQ : ∀ c a a' w, Q (.panic c) a w → Q (.panic c) a' w) (htail : okTail md ops n = true) {C : World → Prop} {aE : Act} {w : World} (hC : C w) (get : Nat → Oper) :
    ∀ (q : List Nat) (listed : Array Bool) (a : Act) (fuel : Nat), Closed md ops listed → (∀ i ∈ q, ops[i]? = some (get i)) → okQuiet P kind md ops n q listed = true → dstsOk ops a.tmps.size = true →
      (∀ W, C W → wpList P ops (QEnd aE W) (q.map get) a W) → (aE.tmps.size = a.tmps.size → Closed md ops (mark listed q) → wpAnyTI d P md ops Q n C fuel (mark listed q) aE w) → wpAnyTI d P md ops Q n C (fuel + q.length) listed a w
  | [], listed, a, fuel, hcl, _, _, _, hw, hk => by
    obtain ⟨h1, _⟩ := hw w hC
    subst h1
    exact hk rfl hcl
  | i :: q, listed, a, fuel, hcl, hget, hok, hd, hw, hk => by
    have hi := hget i (by simp)
    simp only [okQuiet, hi, Bool.and_eq_true, decide_eq_true_eq] at hok
    obtain ⟨⟨⟨⟨h1, h2⟩, h3⟩, h4, h5⟩, h6⟩ := hok
    cases hdst : (get i).dst with
    | none => rw [hdst] at h5; cases h5
    | some d =>
      rw [hdst] at h5
      have h5' : q.all (fun j => match ops[j]? with | some x => x.dst != some d | none => false) = true := h5
      rw [List.all_eq_true] at h5'
      have hquiet : ∀ (q : List Nat) (listed : Array Bool), (∀ i ∈ q, ops[i]? = some (get i)) → okQuiet P kind md ops n q listed = true → ∀ x ∈ q.map get, Quiet P x := by
        intro q
        induction q with
        | nil => intro _ _ _ x hx; cases hx
        | cons j q ih =>
          intro listed hg hok x hx
          simp only [okQuiet, hg j (by simp), Bool.and_eq_true] at hok
          rcases List.mem_cons.1 hx with rfl | hx
          · exact hkind _ hok.1.2.1
          · exact ih _ (fun k hk => hg k (by simp [hk])) hok.2 x hx
      have hgq : ∀ j ∈ q, ops[j]? = some (get j) := fun j hj => hget j (by simp [hj])
      obtain ⟨v, hy, hrest⟩ := quiet_head (C := C) (aE := aE) (l := q.map get) (a := a) (fun x hx => by
        rcases List.mem_cons.1 hx with rfl | hx
        · exact hkind _ h4
        · exact hquiet q _ hgq h6 x hx) hdst (dstsOk_spec hd hi hdst) (fun x hx => by
        obtain ⟨j, hj, rfl⟩ := List.mem_map.1 hx
        have := h5' j hj
        rw [hgq j hj] at this
        simpa using this) hw
      rw [List.length_cons, ← Nat.add_assoc]
      refine wpAnyTI_first hi (Region.noSelect_spec hs) (fun c a w h => hQ _ _ _ _ h) (fun j o ho hj => okTail_spec htail h3 j o ho hj) _ listed a w hcl (Region.free_spec hi h2) (by simpa using h1) hy hC ?_
      exact wpAnyTI_quiets hkind hs hQ htail hC get q _ _ fuel (hcl.set (by simpa using h1)) hgq h6 (by rw [Act.put_size]; exact hd) hrest (fun he => hk (by rw [he, Act.put_size]))

theorem wpAnyTI_of_segs (hkind : ∀ o, kind P o = true → Quiet P o) (hs : Region.noSelect ops = true) (hQ : ∀ e a a' w, e ≠ .normal → Q e a w → Q e a' w) (htail : okTail md ops n = true) (get : Nat → Oper) :
    ∀ (plan : List (List Bool × Bool)) (l : List Nat) (listed : Array Bool) (a : Act) (w : World), Closed md ops listed → (∀ i ∈ l, ops[i]? = some (get i)) → okPlan P kind md ops n plan l listed = true → dstsOk ops a.tmps.size = true →
      SegsI n₀ d P ops Q plan (l.map get) a w → wpAnyTI d P md ops Q n (Below n₀ w) l.length listed a w
  | [], l, listed, a, w, _, _, hok, _, h => by
    simp only [okPlan, Bool.and_eq_true, List.isEmpty_iff] at hok
    obtain ⟨rfl, hr⟩ := hok
    exact ⟨hr, h⟩
  | (m, bar) :: ms, l, listed, a, w, hcl, hget, hok, hd, h => by
    simp only [okPlan, Bool.and_eq_true] at hok
    obtain ⟨hq, hrest⟩ := hok
    obtain ⟨aE, hw, hk⟩ := h
    rw [pick_map] at hw
    rw [← pick_left_length m l, Nat.add_comm]
    refine wpAnyTI_quiets hkind hs (fun c a a' w h => hQ _ _ _ _ (by simp) h) htail (C := Below n₀ w) (aE := aE) (Below.refl n₀ w) get _ _ _ _ hcl (fun i hi => hget i (pick_mem _ _ _ hi)) hq hd hw fun hsz hcl2 => ?_
    rw [left_map] at hk
    cases hl : left m l with
    | nil =>
      rw [hl] at hk hrest
      simp only [Bool.and_eq_true, List.isEmpty_iff] at hrest
      exact ⟨hrest.2, hk⟩
    | cons f l' =>
      rw [hl] at hk hrest
      simp only [Bool.and_eq_true, beq_iff_eq] at hrest
      obtain ⟨⟨hr, hb⟩, hok'⟩ := hrest
      have hgl : ∀ i ∈ left m l, ops[i]? = some (get i) := fun i hi => hget i (left_mem _ _ _ hi)
      rw [hl] at hgl
      have hf := hgl f (by simp)
      refine ⟨fun h0 => (by rw [hr] at h0; cases h0), fun i hi => ?_⟩
      rw [hr] at hi
      obtain rfl : i = f := by simpa using hi
      refine wpOpIn_of_one (K := SegsI n₀ d P ops Q ms (l'.map get)) hf (fun a' w' hs' he hk' => ?_) hk
      have ih := wpAnyTI_of_segs hkind hs hQ htail get ms l' _ a' w' (hcl2.set (by rw [hr]; simp)) (fun j hj => hgl j (by simp [hj])) hok' (by rw [hs', hsz]; exact hd) hk'
      cases bar with
      | false =>
        simp only [Bool.false_eq_true, if_false, decide_eq_true_eq] at hb
        exact ⟨fun _ => he rfl, wpAnyTI_mono (fun W hW => (he rfl).trans hW) _ _ _ _ ih⟩
      | true =>
        simp only [if_true, Bool.and_eq_true, decide_eq_true_eq, List.all_eq_true, List.mem_range] at hb
        refine ⟨fun h => (by omega), wpAnyTI_late _ _ _ _ (fun j hj => ?_) ih⟩
        have h1 := hb.1 j hj
        have hij : i ≠ j := by omega
        rw [getD_set_ne true hij]; exact h1



end
theorem segsI_cons {n₀ d : Nat} {P : Program} {ops : Array Oper} {Q : Exit → Act → World → Prop} {r : List Nat} {bar : Bool} {ms : List (List Nat × Bool)} {l : List Oper} {a aE : Act} {w : World} (h1 : ∀ W, Below n₀ w W → wpList P ops (QEnd aE W) (pick (runsT r) l) a W)
    (h2 : match left (runsT r) l with | [] => Q .normal aE w | o :: l' => wpListIn Fence.wide d P ops (FEndB n₀ bar w (SegsI n₀ d P ops Q (planOf ms) l')) [o] aE w) : SegsI n₀ d P ops Q (planOf ((r, bar) :: ms)) l a w := ⟨aE, h1, h2⟩
theorem segsI_nil {n₀ d : Nat} {P : Program} {ops : Array Oper} {Q : Exit → Act → World → Prop} {l : List Oper} {a : Act} {w : World} (h : Q .normal a w) : SegsI n₀ d P ops Q (planOf []) l a w := h
theorem wpIn_region_segs {P : Program} {n₀ d id : Nat} {l : List Oper} {Q : Exit → Act → World → Prop} {a : Act} {w : World} (n : Nat) (plan : List (List Nat × Bool)) (hm : P.follows .mixedOrders = true)
    (hB : okRegion P l.toArray n (planOf plan) a.tmps.size = true) (h : SegsI n₀ d P l.toArray Q (planOf plan) l a w.drew) : (Code.region id l.toArray true).wpIn Fence.wide d P Q a w := by
  simp only [okRegion, Bool.and_eq_true] at hB
  obtain ⟨⟨⟨h1, h2⟩, h3⟩, h4⟩ := hB
  refine wpIn_mono (Q := NP Q) ?_ (fun e a w h => by cases e <;> first | exact h | exact h.elim)
  refine wpIn_region_any hm (wpAnyIn_of_T (n := n) (C := Below n₀ w.drew) _ _ _ _ ?_)
  have hl : (List.range l.toArray.size).map (fun i => l.toArray.getD i default) = l := by
    apply List.ext_getElem
    · simp
    · intro i h1 h2
      simp at h1
      simp [h1]
  have key : ∀ (plan : List (List Bool × Bool)) (l' : List Oper) (a : Act) (w : World), SegsI n₀ d P l.toArray Q plan l' a w → SegsI n₀ d P l.toArray (NP Q) plan l' a w := by
    intro plan
    induction plan with
    | nil => intro l' a w h; exact h
    | cons s plan ih =>
      obtain ⟨m, bar⟩ := s
      intro l' a w h
      obtain ⟨aE, h1, h2⟩ := h
      refine ⟨aE, h1, ?_⟩
      cases hl : left m l' with
      | nil => rw [hl] at h2; exact h2
      | cons o l'' =>
        rw [hl] at h2
        dsimp only at h2 ⊢
        have : FEndB n₀ bar w (SegsI n₀ d P l.toArray Q plan l'') = FEndB n₀ bar w (SegsI n₀ d P l.toArray Q plan l'') := rfl
        unfold wpListIn at h2 ⊢
        split
        · rename_i hw
          simp only [hw, if_true] at h2
          exact ⟨h2.1, uponIn_mono2 (fun a' w' _ hk => ⟨hk.1, ih _ _ _ hk.2⟩) (fun e a w he hq => by cases e <;> first | exact absurd rfl he | exact hq.elim) h2.2⟩
        · rename_i hw
          simp only [hw] at h2
          exact ⟨h2.1, h2.2.1, ih _ _ _ h2.2.2⟩
  have := wpAnyTI_of_segs (P := P) (ops := l.toArray) (md := .any) (Q := NP Q) (n := n) (kind := kind) kind_quiet h1 (fun e a a' w he hq => by cases e <;> first | exact absurd rfl he | exact hq.elim) h2 (fun i => l.toArray.getD i default) (planOf plan) (List.range l.toArray.size) _ a w.drew
    (fun j o ho hl => by
      have h' : (Array.replicate l.toArray.size false).getD j false = false := by simp [Array.getD]
      rw [h'] at hl
      cases hl) (fun i hi => by
      have hi' : i < l.length := by simpa using hi
      simp [hi']) h4 h3 (by rw [hl]; exact key (planOf plan) l a _ h)
  simpa using this
end Go.Seg
