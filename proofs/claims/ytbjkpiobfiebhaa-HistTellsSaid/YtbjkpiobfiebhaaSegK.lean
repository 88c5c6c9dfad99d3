/-
  A region that draws its order, by segments that begin anew. A pure segment: operations that look at no memory are taken whenever they come up. Another segment: its looks are waited for by all that has not come up yet: so they look at the world as it is, and of the call or store behind it nothing is asked.
  No program in sight; no condition.
-/
import Derived.Test.YtbjkpiobfiebhaaSeg
namespace Go.Seg
open Go.RowKit
section
variable {P : Program} {ops : Array Oper} {Q : Exit → Act → World → Prop} {md : Region.Mode} {n : Nat} {kind : Program → Oper → Bool}

theorem wpAnyT_of_late {C : World → Prop} : ∀ (fuel : Nat) (listed : Array Bool) (a : Act) (w : World), (∀ j, j < n → listed.getD j true = true) → wpAny P md ops Q fuel listed a w → wpAnyT P md ops Q n C fuel listed a w
  | 0, _, _, _, _, h => h
  | fuel + 1, listed, _, _, hl, h => by
    refine ⟨h.1, fun i hi => wpOp_mono (fun a' w' h' => ⟨fun hn => ?_, wpAnyT_of_late fuel _ a' w' (fun j hj => ?_) h'⟩) (h.2 i hi)⟩
    · have h1 := (mem_ready.1 hi).1
      rw [hl i hn] at h1
      cases h1
    · by_cases hij : i = j
      · subst hij
        rcases Nat.lt_or_ge i listed.size with h2 | h2 <;> simp [h2]
      · rw [getD_set_ne true hij]; exact hl j hj
/-- Of a class of all worlds nothing is to be shown. -/
theorem wpAnyT_of_all : ∀ (fuel : Nat) (listed : Array Bool) (a : Act) (w : World), wpAny P md ops Q fuel listed a w → wpAnyT P md ops Q n (fun _ => True) fuel listed a w
  | 0, _, _, _, h => h
  | fuel + 1, _, _, _, h => ⟨h.1, fun i hi => wpOp_mono (fun a' w' h' => ⟨fun _ => trivial, wpAnyT_of_all fuel _ a' w' h'⟩) (h.2 i hi)⟩

def SegsK (P : Program) (ops : Array Oper) (Q : Exit → Act → World → Prop) : List (List Bool × Nat × Nat) → List Oper → Act → World → Prop
  | [], _, a, w => Q .normal a w
  | (m, 0, _) :: ms, l, a, w => ∃ aE, (∀ W, wpList P ops (QEnd aE W) (pick m l) a W) ∧ SegsK P ops Q ms (left m l) aE w
  | (_, 1, _) :: ms, l, a, w =>
      match l with
      | [] => False
      | o :: l' => wpList P ops (FEnd true w (SegsK P ops Q ms l')) [o] a w
  | (m, 2, _) :: ms, l, a, w => ∃ aE, wpList P ops (QEnd aE w) (pick m l) a w ∧ SegsK P ops Q ms (left m l) aE w
  | (m, _ + 3, _) :: ms, l, a, w => ∃ aE, (∀ W, Ext w W → wpList P ops (QEnd aE W) (pick m l) a W) ∧
      match left m l with
      | [] => False
      | o :: l' => wpList P ops (FEnd false w (SegsK P ops Q ms l')) [o] aE w

theorem getD_grow {listed : Array Bool} {i k : Nat} (h : listed.getD k true = true) : (listed.setIfInBounds i true).getD k true = true := by
  by_cases hik : i = k
  · subst hik
    rcases Nat.lt_or_ge i listed.size with h2 | h2 <;> simp [h2]
  · rw [getD_set_ne true hik]; exact h

/-- A looking operation of the first n that may come up now may be taken first. -/
theorem wpAnyTK_first {C : World → Prop} {i : Nat} {oi : Oper} {v : Value} (hi : ops[i]? = some oi) (hsel : ∀ (j : Nat) (o : Oper) cs b, ops[j]? = some o → o.op ≠ .select cs b)
    (hQ : ∀ c a w, Q (.panic c) (a.put oi.dst v) w → Q (.panic c) a w)
    {L0 : Nat → Prop} (htail : ∀ (j : Nat) (o : Oper), ops[j]? = some o → n ≤ j → L0 j ∨ anc md ops 12 j i = true) :
    ∀ (fuel : Nat) (listed : Array Bool) (a : Act) (w : World), (∀ j, L0 j → listed.getD j true = true) → Closed md ops listed →
      (∀ j oj, ops[j]? = some oj → j ≠ i → listed.getD j true = false → (∀ e ∈ oj.after, Region.binds md e = true → e.on ≠ i) → oi.apart ops oj = true) →
      i ∈ Region.ready md ops listed → YieldsIf P ops C oi v a → C w →
      wpAnyT P md ops Q n C fuel (listed.setIfInBounds i true) (a.put oi.dst v) w → wpAnyT P md ops Q n C (fuel + 1) listed a w := by
  intro fuel
  induction fuel with
  | zero =>
    intro listed a w _ _ _ hr hy hC H
    refine ⟨fun h => (by rw [h] at hr; cases hr), fun j hj => ?_⟩
    by_cases hji : j = i
    · subst hji; exact hy.wpOp hi hC ⟨fun _ => hC, H⟩
    · have := ready_mono hj hji
      rw [H.1] at this
      cases this
  | succ fuel ih =>
    intro listed a w hL0 hcl hfree hr hy hC H
    refine ⟨fun h => (by rw [h] at hr; cases hr), fun j hj => ?_⟩
    by_cases hji : j = i
    · subst hji; exact hy.wpOp hi hC ⟨fun _ => hC, H⟩
    · have h1 := H.2 j (ready_mono hj hji)
      obtain ⟨hjun, oj, hoj, hall⟩ := mem_ready.1 hj
      have hun : listed.getD i false ≠ true := fun h1 => by
        have h0 := (mem_ready.1 hr).1
        rcases Nat.lt_or_ge i listed.size with h' | h'
        · simp [h'] at h0 h1; rw [h0] at h1; cases h1
        · simp [Array.getElem?_eq_none h'] at h1
      have hjn : j < n := by
        rcases Nat.lt_or_ge j n with h | h
        · exact h
        · exact (htail j oj hoj h).elim (fun hl => by have := hL0 j hl; rw [hjun] at this; cases this) (fun ha => absurd (anc_listed hcl 12 j i oj hoj hall ha) hun)
      have hnot : ∀ e ∈ oj.after, Region.binds md e = true → e.on ≠ i := fun e he hb heq => hun (heq ▸ hall e he hb)
      have h2 := wpOp_putIf hoj (hfree j oj hoj hji hjun hnot) (fun cs b => hsel i oi cs b hi) (fun cs b => hsel j oj cs b hoj) hQ hy h1
      have hfree' : ∀ k ok, ops[k]? = some ok → k ≠ i → (listed.setIfInBounds j true).getD k true = false →
          (∀ e ∈ ok.after, Region.binds md e = true → e.on ≠ i) → oi.apart ops ok = true := fun k ok hk hki hun hno => by
        refine hfree k ok hk hki ?_ hno
        by_cases hjk : j = k
        · subst hjk; exact hjun
        · rw [getD_set_ne true hjk] at hun; exact hun
      refine wpOp_mono (fun a' w' h3 => ⟨h3.2.1, ih (listed.setIfInBounds j true) a' w' (fun k hk => getD_grow (hL0 k hk)) (hcl.set hj) hfree' (ready_mono hr (Ne.symm hji)) h3.1 (h3.2.1 hjn) ?_⟩) h2
      rw [Array.setIfInBounds_comm _ _ hji]
      exact h3.2.2

theorem wpAnyTK_quiets (hkind : ∀ o, kind P o = true → Quiet P o) (hs : Region.noSelect ops = true) (hQ : ∀ c a a' w, Q (.panic c) a w → Q (.panic c) a' w) {C : World → Prop} {aE : Act} {w : World} (hC : C w) {L0 : Nat → Prop} (get : Nat → Oper) :
    ∀ (q : List Nat) (listed : Array Bool) (a : Act) (fuel : Nat), (∀ j, L0 j → listed.getD j true = true) → Closed md ops listed → (∀ i ∈ q, ops[i]? = some (get i)) → (∀ i ∈ q, ∀ (j : Nat) (o : Oper), ops[j]? = some o → n ≤ j → L0 j ∨ anc md ops 12 j i = true) → okQuiet P kind md ops n q listed = true → dstsOk ops a.tmps.size = true →
      (∀ W, C W → wpList P ops (QEnd aE W) (q.map get) a W) → (aE.tmps.size = a.tmps.size → Closed md ops (mark listed q) → wpAnyT P md ops Q n C fuel (mark listed q) aE w) → wpAnyT P md ops Q n C (fuel + q.length) listed a w
  | [], listed, a, fuel, _, hcl, _, _, _, _, hw, hk => by
    obtain ⟨h1, _⟩ := hw w hC
    subst h1
    exact hk rfl hcl
  | i :: q, listed, a, fuel, hL0, hcl, hget, htail, hok, hd, hw, hk => by
    have hi := hget i (by simp)
    simp only [okQuiet, hi, Bool.and_eq_true, decide_eq_true_eq] at hok
    obtain ⟨⟨⟨⟨h1, h2⟩, h3⟩, h4, h5⟩, h6⟩ := hok
    cases hdst : (get i).dst with
    | none => rw [hdst] at h5; cases h5
    | some d =>
      rw [hdst] at h5
      have h5' : q.all (fun j => match ops[j]? with | some x => x.dst != some d | none => false) = true := h5
      rw [List.all_eq_true] at h5'
      have hquiet : ∀ (q : List Nat) (listed : Array Bool), (∀ i ∈ q, ops[i]? = some (get i)) → okQuiet P kind md ops n q listed = true → ∀ x ∈ q.map get, Quiet P x := by
        intro q
        induction q with
        | nil => intro _ _ _ x hx; cases hx
        | cons j q ih =>
          intro listed hg hok x hx
          simp only [okQuiet, hg j (by simp), Bool.and_eq_true] at hok
          rcases List.mem_cons.1 hx with rfl | hx
          · exact hkind _ hok.1.2.1
          · exact ih _ (fun k hk => hg k (by simp [hk])) hok.2 x hx
      have hgq : ∀ j ∈ q, ops[j]? = some (get j) := fun j hj => hget j (by simp [hj])
      obtain ⟨v, hy, hrest⟩ := quiet_head (C := C) (aE := aE) (l := q.map get) (a := a) (fun x hx => by
        rcases List.mem_cons.1 hx with rfl | hx
        · exact hkind _ h4
        · exact hquiet q _ hgq h6 x hx) hdst (dstsOk_spec hd hi hdst) (fun x hx => by
        obtain ⟨j, hj, rfl⟩ := List.mem_map.1 hx
        have := h5' j hj
        rw [hgq j hj] at this
        simpa using this) hw
      rw [List.length_cons, ← Nat.add_assoc]
      refine wpAnyTK_first hi (Region.noSelect_spec hs) (fun c a w h => hQ _ _ _ _ h) (fun j o ho hj => htail i (by simp) j o ho hj) _ listed a w hL0 hcl (Region.free_spec hi h2) (by simpa using h1) hy hC ?_
      exact wpAnyTK_quiets hkind hs hQ hC get q _ _ fuel (fun k hk => getD_grow (hL0 k hk)) (hcl.set (by simpa using h1)) hgq (fun k hk => htail k (by simp [hk])) h6 (by rw [Act.put_size]; exact hd) hrest (fun he => hk (by rw [he, Act.put_size]))


def okPlanK (P : Program) (kind : Program → Oper → Bool) (md : Region.Mode) (ops : Array Oper) : List (List Bool × Nat × Nat) → List Nat → Array Bool → Bool
  | [], l, listed => l.isEmpty && (Region.ready md ops listed).isEmpty
  | (m, 0, _) :: ms, l, listed => okQuiet P kind md ops ops.size (pick m l) listed && okPlanK P kind md ops ms (left m l) (mark listed (pick m l))
  | (_, 1, _) :: ms, l, listed =>
    match l with
    | [] => false
    | f :: l' => Region.ready md ops listed == [f] && okPlanK P kind md ops ms l' (listed.setIfInBounds f true)
  | (m, 2, n) :: ms, l, listed =>
    okQuiet P kind md ops n (pick m l) listed && (pick m l).all (fun i => (List.range ops.size).all (fun j => decide (j < n) || listed.getD j true || anc md ops 12 j i)) &&
    (List.range n).all (fun j => (mark listed (pick m l)).getD j true) && okPlanK P kind md ops ms (left m l) (mark listed (pick m l))
  | (m, _ + 3, n) :: ms, l, listed =>
    okQuiet P kind md ops n (pick m l) listed && (pick m l).all (fun i => (List.range ops.size).all (fun j => decide (j < n) || listed.getD j true || anc md ops 12 j i)) &&
    match left m l with
    | [] => false
    | f :: l' => Region.ready md ops (mark listed (pick m l)) == [f] && (List.range n).all (fun j => ((mark listed (pick m l)).setIfInBounds f true).getD j true) && okPlanK P kind md ops ms l' ((mark listed (pick m l)).setIfInBounds f true)

theorem wpAny_of_segsK (hkind : ∀ o, kind P o = true → Quiet P o) (hs : Region.noSelect ops = true) (hQ : ∀ e a a' w, e ≠ .normal → Q e a w → Q e a' w) (get : Nat → Oper) :
    ∀ (plan : List (List Bool × Nat × Nat)) (l : List Nat) (listed : Array Bool) (a : Act) (w : World), Closed md ops listed → (∀ i ∈ l, ops[i]? = some (get i)) → okPlanK P kind md ops plan l listed = true → dstsOk ops a.tmps.size = true →
      SegsK P ops Q plan (l.map get) a w → wpAny P md ops Q l.length listed a w
  | [], l, listed, a, w, _, _, hok, _, h => by
    simp only [okPlanK, Bool.and_eq_true, List.isEmpty_iff] at hok
    obtain ⟨rfl, hr⟩ := hok
    exact ⟨hr, h⟩
  | (m, 0, _) :: ms, l, listed, a, w, hcl, hget, hok, hd, h => by
    simp only [okPlanK, Bool.and_eq_true] at hok
    obtain ⟨hq, hrest⟩ := hok
    obtain ⟨aE, hw, hk⟩ := h
    rw [pick_map] at hw
    rw [left_map] at hk
    rw [← pick_left_length m l, Nat.add_comm]
    refine wpAny_of_T (n := ops.size) (C := fun _ => True) _ _ _ _ ?_
    refine wpAnyTK_quiets hkind hs (fun c a a' w h => hQ _ _ _ _ (by simp) h) (C := fun _ => True) (aE := aE) trivial (L0 := fun _ => False) get _ _ _ _ (fun _ h => h.elim) hcl (fun i hi => hget i (pick_mem _ _ _ hi))
      (fun i hi j o ho hj => absurd (Array.getElem?_eq_some_iff.1 ho).1 (by omega)) hq hd (fun W _ => hw W) fun hsz hcl2 => ?_
    exact wpAnyT_of_all _ _ _ _ (wpAny_of_segsK hkind hs hQ get ms (left m l) _ _ _ hcl2 (fun i hi => hget i (left_mem _ _ _ hi)) hrest (by rw [hsz]; exact hd) hk)
  | (m, 1, _) :: ms, l, listed, a, w, hcl, hget, hok, hd, h => by
    cases l with
    | nil => cases hok
    | cons f l' =>
      simp only [okPlanK, Bool.and_eq_true, beq_iff_eq] at hok
      obtain ⟨hr, hok'⟩ := hok
      have hk : wpList P ops (FEnd true w (SegsK P ops Q ms (l'.map get))) [get f] a w := h
      have hf := hget f (by simp)
      refine ⟨fun h0 => (by rw [hr] at h0; cases h0), fun i hi => ?_⟩
      rw [hr] at hi
      obtain rfl : i = f := by simpa using hi
      refine wpOp_of_one (K := SegsK P ops Q ms (l'.map get)) hf (fun a' w' hs' _ hk' => ?_) hk
      exact wpAny_of_segsK hkind hs hQ get ms l' _ a' w' (hcl.set (by rw [hr]; simp)) (fun j hj => hget j (by simp [hj])) hok' (by rw [hs']; exact hd) hk'
  | (m, 2, n) :: ms, l, listed, a, w, hcl, hget, hok, hd, h => by
    simp only [okPlanK, Bool.and_eq_true] at hok
    obtain ⟨⟨⟨hq, ht⟩, hb⟩, hrest⟩ := hok
    simp only [List.all_eq_true, List.mem_range, Bool.or_eq_true, decide_eq_true_eq] at ht
    obtain ⟨aE, hw, hk⟩ := h
    rw [pick_map] at hw
    rw [left_map] at hk
    rw [← pick_left_length m l, Nat.add_comm]
    refine wpAny_of_T (n := n) (C := (· = w)) _ _ _ _ ?_
    refine wpAnyTK_quiets hkind hs (fun c a a' w h => hQ _ _ _ _ (by simp) h) (C := (· = w)) (aE := aE) rfl (L0 := fun j => listed.getD j true = true) get _ _ _ _ (fun _ h => h) hcl (fun i hi => hget i (pick_mem _ _ _ hi))
      (fun i hi j o ho hj => (ht i hi j (Array.getElem?_eq_some_iff.1 ho).1).elim (fun h => h.elim (fun h => absurd h (by omega)) .inl) .inr) hq hd (fun W hW => by subst hW; exact hw) fun hsz hcl2 => ?_
    refine wpAnyT_of_late _ _ _ _ (fun j hj => ?_) ?_
    · rw [List.all_eq_true] at hb; exact hb j (List.mem_range.2 hj)
    exact wpAny_of_segsK hkind hs hQ get ms (left m l) _ _ _ hcl2 (fun i hi => hget i (left_mem _ _ _ hi)) hrest (by rw [hsz]; exact hd) hk
  | (m, _ + 3, n) :: ms, l, listed, a, w, hcl, hget, hok, hd, h => by
    simp only [okPlanK, Bool.and_eq_true] at hok
    obtain ⟨⟨hq, ht⟩, hrest⟩ := hok
    simp only [List.all_eq_true, List.mem_range, Bool.or_eq_true, decide_eq_true_eq] at ht
    obtain ⟨aE, hw, hk⟩ := h
    rw [← pick_left_length m l, Nat.add_comm]
    refine wpAny_of_T (n := n) (C := Ext w) _ _ _ _ ?_
    refine wpAnyTK_quiets hkind hs (fun c a a' w h => hQ _ _ _ _ (by simp) h) (C := Ext w) (aE := aE) (Ext.refl w) (L0 := fun j => listed.getD j true = true) get _ _ _ _ (fun _ h => h) hcl (fun i hi => hget i (pick_mem _ _ _ hi))
      (fun i hi j o ho hj => (ht i hi j (Array.getElem?_eq_some_iff.1 ho).1).elim (fun h => h.elim (fun h => absurd h (by omega)) .inl) .inr) hq hd (fun W hW => by rw [← pick_map]; exact hw W hW) fun hsz hcl2 => ?_
    rw [left_map] at hk
    cases hl : left m l with
    | nil => rw [hl] at hrest; cases hrest
    | cons f l' =>
      rw [hl] at hk hrest
      simp only [Bool.and_eq_true, beq_iff_eq] at hrest
      obtain ⟨⟨hr, hb⟩, hok'⟩ := hrest
      have hgl : ∀ i ∈ left m l, ops[i]? = some (get i) := fun i hi => hget i (left_mem _ _ _ hi)
      rw [hl] at hgl
      have hf := hgl f (by simp)
      refine ⟨fun h0 => (by rw [hr] at h0; cases h0), fun i hi => ?_⟩
      rw [hr] at hi
      obtain rfl : i = f := by simpa using hi
      refine wpOp_of_one (K := SegsK P ops Q ms (l'.map get)) hf (fun a' w' hs' he' hk' => ⟨fun _ => he' rfl, ?_⟩) hk
      refine wpAnyT_of_late _ _ _ _ (fun j hj => ?_) ?_
      · rw [List.all_eq_true] at hb; exact hb j (List.mem_range.2 hj)
      exact wpAny_of_segsK hkind hs hQ get ms l' _ a' w' (hcl2.set (by rw [hr]; simp)) (fun j hj => hgl j (by simp [hj])) hok' (by rw [hs', hsz]; exact hd) hk'
end

def planK : List (List Nat × Nat × Nat) → List (List Bool × Nat × Nat)
  | [] => []
  | (r, n) :: l => (runsT r, n) :: planK l
theorem segsK_pure {n : Nat} {P : Program} {ops : Array Oper} {Q : Exit → Act → World → Prop} {r : List Nat} {ms : List (List Nat × Nat × Nat)} {l : List Oper} {a aE : Act} {w : World} (h1 : ∀ W, wpList P ops (QEnd aE W) (pick (runsT r) l) a W)
    (h2 : SegsK P ops Q (planK ms) (left (runsT r) l) aE w) : SegsK P ops Q (planK ((r, 0, n) :: ms)) l a w := ⟨aE, h1, h2⟩
theorem segsK_look {n : Nat} {P : Program} {ops : Array Oper} {Q : Exit → Act → World → Prop} {r : List Nat} {ms : List (List Nat × Nat × Nat)} {l : List Oper} {a aE : Act} {w : World} (h1 : wpList P ops (QEnd aE w) (pick (runsT r) l) a w)
    (h2 : SegsK P ops Q (planK ms) (left (runsT r) l) aE w) : SegsK P ops Q (planK ((r, 2, n) :: ms)) l a w := ⟨aE, h1, h2⟩
theorem segsK_class {n : Nat} {P : Program} {ops : Array Oper} {Q : Exit → Act → World → Prop} {r : List Nat} {ms : List (List Nat × Nat × Nat)} {l : List Oper} {a aE : Act} {w : World} (h1 : ∀ W, Ext w W → wpList P ops (QEnd aE W) (pick (runsT r) l) a W)
    (h2 : match left (runsT r) l with | [] => False | o :: l' => wpList P ops (FEnd false w (SegsK P ops Q (planK ms) l')) [o] aE w) : SegsK P ops Q (planK ((r, 3, n) :: ms)) l a w := ⟨aE, h1, h2⟩
theorem segsK_op {n : Nat} {P : Program} {ops : Array Oper} {Q : Exit → Act → World → Prop} {r : List Nat} {ms : List (List Nat × Nat × Nat)} {o : Oper} {l : List Oper} {a : Act} {w : World}
    (h : wpList P ops (FEnd true w (SegsK P ops Q (planK ms) l)) [o] a w) : SegsK P ops Q (planK ((r, 1, n) :: ms)) (o :: l) a w := h
theorem segsK_nil {P : Program} {ops : Array Oper} {Q : Exit → Act → World → Prop} {l : List Oper} {a : Act} {w : World} (h : Q .normal a w) : SegsK P ops Q (planK []) l a w := h
def okRegionK (P : Program) (ops : Array Oper) (plan : List (List Bool × Nat × Nat)) (size : Nat) : Bool :=
  Region.noSelect ops && dstsOk ops size && okPlanK P kind .any ops plan (List.range ops.size) (Array.replicate ops.size false)

theorem segsK_np {P : Program} {ops : Array Oper} {Q : Exit → Act → World → Prop} : ∀ (plan : List (List Bool × Nat × Nat)) (l' : List Oper) (a : Act) (w : World), SegsK P ops Q plan l' a w → SegsK P ops (NP Q) plan l' a w
  | [], _, _, _, h => h
  | (m, 0, _) :: plan, l', a, w, h => by
    obtain ⟨aE, h1, h2⟩ := h
    exact ⟨aE, h1, segsK_np plan _ _ _ h2⟩
  | (m, 2, _) :: plan, l', a, w, h => by
    obtain ⟨aE, h1, h2⟩ := h
    exact ⟨aE, h1, segsK_np plan _ _ _ h2⟩
  | (m, _ + 3, _) :: plan, l', a, w, h => by
    obtain ⟨aE, h1, h2⟩ := h
    refine ⟨aE, h1, ?_⟩
    cases hl : left m l' with
    | nil => rw [hl] at h2; exact h2
    | cons o l'' =>
      rw [hl] at h2
      dsimp only at h2 ⊢
      unfold wpList at h2 ⊢
      split
      · rename_i hw
        simp only [hw, if_true] at h2
        rcases h2 with h2 | ⟨_, h2⟩
        · exact .inl (upon_mono2 (fun a' w' _ hk => ⟨hk.1, segsK_np plan _ _ _ hk.2⟩) (fun e a w he hq => by cases e <;> first | exact absurd rfl he | exact hq.elim) h2)
        · exact (letsOut_FEnd h2).elim
      · rename_i hw
        simp only [hw] at h2
        exact ⟨h2.1, segsK_np plan _ _ _ h2.2⟩
  | (m, 1, _) :: plan, l', a, w, h => by
    cases l' with
    | nil => exact h
    | cons o l'' =>
      have h2 : wpList P ops (FEnd true w (SegsK P ops Q plan l'')) [o] a w := h
      show wpList P ops (FEnd true w (SegsK P ops (NP Q) plan l'')) [o] a w
      unfold wpList at h2 ⊢
      split
      · rename_i hw
        simp only [hw, if_true] at h2
        rcases h2 with h2 | ⟨_, h2⟩
        · exact .inl (upon_mono2 (fun a' w' _ hk => ⟨hk.1, segsK_np plan _ _ _ hk.2⟩) (fun e a w he hq => by cases e <;> first | exact absurd rfl he | exact hq.elim) h2)
        · exact (letsOut_FEnd h2).elim
      · rename_i hw
        simp only [hw] at h2
        exact ⟨h2.1, segsK_np plan _ _ _ h2.2⟩

theorem wp_region_segsK {P : Program} {id : Nat} {l : List Oper} {Q : Exit → Act → World → Prop} {a : Act} {w : World} (plan : List (List Nat × Nat × Nat)) (hm : P.follows .mixedOrders = true)
    (hB : okRegionK P l.toArray (planK plan) a.tmps.size = true) (h : SegsK P l.toArray Q (planK plan) l a w.drew) : (Code.region id l.toArray true).wp P Q a w := by
  simp only [okRegionK, Bool.and_eq_true] at hB
  obtain ⟨⟨h1, h3⟩, h4⟩ := hB
  refine Code.wp_mono (Q := NP Q) (fun e a w h => by cases e <;> first | exact h | exact h.elim) ?_
  refine wp_region_any hm ?_
  have hl : (List.range l.toArray.size).map (fun i => l.toArray.getD i default) = l := by
    apply List.ext_getElem
    · simp
    · intro i h1 h2
      simp at h1
      simp [h1]
  have := wpAny_of_segsK (P := P) (ops := l.toArray) (md := .any) (Q := NP Q) (kind := kind) kind_quiet h1 (fun e a a' w he hq => by cases e <;> first | exact absurd rfl he | exact hq.elim) (fun i => l.toArray.getD i default) (planK plan) (List.range l.toArray.size) _ a w.drew
    (fun j o ho hl => by
      have h' : (Array.replicate l.toArray.size false).getD j false = false := by simp [Array.getD]
      rw [h'] at hl
      cases hl) (fun i hi => by
      have hi' : i < l.length := by simpa using hi
      simp [hi']) h4 h3 (by rw [hl]; exact segsK_np (planK plan) l a _ h)
  simpa using this
end Go.Seg
