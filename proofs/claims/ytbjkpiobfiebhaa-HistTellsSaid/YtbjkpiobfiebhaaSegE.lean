/-
  A region that draws its order, by a tree: operations that look are taken whenever they come up, in all worlds of a class; where several calls, stores or allocations are ready, each may come first.
  No program in sight; no condition.
-/
import Derived.Test.YtbjkpiobfiebhaaSegK
namespace Go.Seg
open Go.RowKit

/-- How a region is walked: quiet ones by runs; the one at a place of what is left, or another; no other. -/
inductive Tree where
  | done
  | quiet (m : List Nat) (t : Tree)
  | alt (p : Nat) (t u : Tree)
  | stop

def CEnd (C : World → Prop) (K : Act → World → Prop) : Exit → Act → World → Prop
  | .normal, a', w' => C w' ∧ K a' w'
  | _, _, _ => False

def SegsE (P : Program) (ops : Array Oper) (Q : Exit → Act → World → Prop) (C : World → Prop) : Tree → List Oper → Act → World → Prop
  | .done, _, a, w => Q .normal a w
  | .quiet m t, l, a, w => ∃ aE, (∀ W, C W → wpList P ops (QEnd aE W) (pick (runsT m) l) a W) ∧ SegsE P ops Q C t (left (runsT m) l) aE w
  | .alt p t u, l, a, w => (match l[p]? with | none => False | some o => wpList P ops (CEnd C (SegsE P ops Q C t (l.eraseIdx p))) [o] a w) ∧ SegsE P ops Q C u l a w
  | .stop, _, _, _ => True

def okE (P : Program) (kind : Program → Oper → Bool) (md : Region.Mode) (ops : Array Oper) : Tree → List Nat → Array Bool → Option (List Nat) → Bool
  | .done, l, listed, rs => rs.isNone && l.isEmpty && (Region.ready md ops listed).isEmpty
  | .quiet m t, l, listed, rs => rs.isNone && okQuiet P kind md ops ops.size (pick (runsT m) l) listed && okE P kind md ops t (left (runsT m) l) (mark listed (pick (runsT m) l)) none
  | .alt p t u, l, listed, rs =>
    match rs.getD (Region.ready md ops listed) with
    | [] => false
    | r :: rs' => l[p]? == some r && okE P kind md ops t (l.eraseIdx p) (listed.setIfInBounds r true) none && okE P kind md ops u l listed (some rs')
  | .stop, _, _, rs => rs == some []

section
variable {P : Program} {ops : Array Oper} {Q : Exit → Act → World → Prop} {md : Region.Mode} {kind : Program → Oper → Bool} {C : World → Prop}

theorem letsOut_CEnd {K : Act → World → Prop} : ¬ LetsOut (CEnd C K) := fun ⟨_, _, h⟩ => h
theorem wpOp_of_oneC {i : Nat} {o : Oper} (hi : ops[i]? = some o) {K K' : Act → World → Prop} {a : Act} {w : World} (hK : ∀ a' w', a'.tmps.size = a.tmps.size → C w' → K a' w' → K' a' w')
    (h : wpList P ops (CEnd C K) [o] a w) : wpOp P ops Q i K' a w := by
  unfold wpOp
  simp only [hi]
  unfold wpList at h
  split
  · rename_i hw
    simp only [hw, if_true] at h
    rcases h with h | ⟨_, h⟩
    · exact .inl (upon_mono2 (fun a' w' hs hk => hK a' w' hs hk.1 hk.2) (fun e a w he hq => by cases e <;> first | exact absurd rfl he | exact hq.elim) h)
    · exact (letsOut_CEnd h).elim
  · rename_i hw
    simp only [hw] at h
    exact hK _ _ Act.put_size h.1 h.2

theorem wpAnyT_of_E (hkind : ∀ o, kind P o = true → Quiet P o) (hs : Region.noSelect ops = true) (hQ : ∀ c a a' w, Q (.panic c) a w → Q (.panic c) a' w) (get : Nat → Oper) :
    ∀ (t : Tree) (l : List Nat) (listed : Array Bool) (a : Act) (w : World), C w → Closed md ops listed → (∀ i ∈ l, ops[i]? = some (get i)) → dstsOk ops a.tmps.size = true → SegsE P ops Q C t (l.map get) a w →
      (okE P kind md ops t l listed none = true → wpAnyT P md ops Q ops.size C l.length listed a w) ∧
      (∀ rs, okE P kind md ops t l listed (some rs) = true → (∀ i ∈ rs, i ∈ Region.ready md ops listed) → ∀ i ∈ rs, wpOp P ops Q i (fun a' w' => (i < ops.size → C w') ∧ wpAnyT P md ops Q ops.size C (l.length - 1) (listed.setIfInBounds i true) a' w') a w ∧ 0 < l.length)
  | .done, l, listed, a, w, _, _, _, _, h => by
    refine ⟨fun hok => ?_, fun rs hok => ?_⟩
    · simp only [okE, Bool.and_eq_true, List.isEmpty_iff] at hok
      obtain ⟨⟨_, rfl⟩, hr⟩ := hok
      exact ⟨hr, h⟩
    · simp [okE] at hok
  | .quiet m t, l, listed, a, w, hC, hcl, hget, hd, h => by
    refine ⟨fun hok => ?_, fun rs hok => ?_⟩
    · simp only [okE, Bool.and_eq_true] at hok
      obtain ⟨⟨_, hq⟩, hrest⟩ := hok
      obtain ⟨aE, hw, hk⟩ := h
      rw [left_map] at hk
      rw [← pick_left_length (runsT m) l, Nat.add_comm]
      refine wpAnyTK_quiets hkind hs hQ hC (aE := aE) (L0 := fun _ => False) get _ _ _ _ (fun _ h => h.elim) hcl (fun i hi => hget i (pick_mem _ _ _ hi))
        (fun i hi j o ho hj => absurd (Array.getElem?_eq_some_iff.1 ho).1 (by omega)) hq hd (fun W hW => by rw [← pick_map]; exact hw W hW) fun hsz hcl2 => ?_
      exact (wpAnyT_of_E hkind hs hQ get t (left (runsT m) l) _ _ _ hC hcl2 (fun i hi => hget i (left_mem _ _ _ hi)) (by rw [hsz]; exact hd) hk).1 hrest
    · simp [okE] at hok
  | .alt p t u, l, listed, a, w, hC, hcl, hget, hd, h => by
    have key : ∀ (r : Nat) (rs' : List Nat), l[p]? = some r → okE P kind md ops t (l.eraseIdx p) (listed.setIfInBounds r true) none = true → okE P kind md ops u l listed (some rs') = true → (∀ i ∈ r :: rs', i ∈ Region.ready md ops listed) →
        ∀ i ∈ r :: rs', wpOp P ops Q i (fun a' w' => (i < ops.size → C w') ∧ wpAnyT P md ops Q ops.size C (l.length - 1) (listed.setIfInBounds i true) a' w') a w ∧ 0 < l.length := by
      intro r rs' hp h1 h2 hrs i hi
      obtain ⟨h3, h4⟩ := h
      have hpl : p < l.length := (List.getElem?_eq_some_iff.1 hp).1
      rcases List.mem_cons.1 hi with rfl | hi
      · have hm : (l.map get)[p]? = some (get i) := by rw [List.getElem?_map, hp]; rfl
        rw [hm] at h3
        have hil : i ∈ l := List.mem_of_getElem? hp
        refine ⟨wpOp_of_oneC (hget i hil) (fun a' w' hs' hc hk' => ⟨fun _ => hc, ?_⟩) h3, by omega⟩
        have e1 : l.length - 1 = (l.eraseIdx p).length := by rw [List.length_eraseIdx, if_pos hpl]
        rw [e1]
        have e2 : (l.map get).eraseIdx p = (l.eraseIdx p).map get := by simp [List.eraseIdx_eq_take_drop_succ, List.map_take, List.map_drop]
        rw [e2] at hk'
        exact (wpAnyT_of_E hkind hs hQ get t (l.eraseIdx p) _ a' w' hc (hcl.set (hrs i (by simp))) (fun j hj => hget j ((List.eraseIdx_sublist _ _).subset hj)) (by rw [hs']; exact hd) hk').1 h1
      · exact (wpAnyT_of_E hkind hs hQ get u l listed a w hC hcl hget hd h4).2 rs' h2 (fun j hj => hrs j (List.mem_cons_of_mem _ hj)) i hi
    refine ⟨fun hok => ?_, fun rs hok hrs i hi => ?_⟩
    · simp only [okE, Option.getD_none] at hok
      cases hr : Region.ready md ops listed with
      | nil => rw [hr] at hok; cases hok
      | cons r rs' =>
        rw [hr] at hok
        simp only [Bool.and_eq_true, beq_iff_eq] at hok
        have hk := key r rs' hok.1.1 hok.1.2 hok.2 (fun i hi => by rw [hr]; exact hi)
        have hl := (hk r (by simp)).2
        obtain ⟨n, hn⟩ : ∃ n, l.length = n + 1 := ⟨l.length - 1, by omega⟩
        rw [hn] at hk ⊢
        exact ⟨fun h0 => (by rw [hr] at h0; cases h0), fun i hi => (hk i (by rw [hr] at hi; exact hi)).1⟩
    · simp only [okE, Option.getD_some] at hok
      cases rs with
      | nil => cases hi
      | cons r rs' =>
        simp only [Bool.and_eq_true, beq_iff_eq] at hok
        exact key r rs' hok.1.1 hok.1.2 hok.2 hrs i hi
  | .stop, l, listed, a, w, _, _, _, _, _ => by
    refine ⟨fun hok => (by simp [okE] at hok), fun rs hok hrs i hi => ?_⟩
    simp [okE] at hok
    subst hok
    cases hi
end

theorem segsE_np {P : Program} {ops : Array Oper} {Q : Exit → Act → World → Prop} {C : World → Prop} : ∀ (t : Tree) (l' : List Oper) (a : Act) (w : World), SegsE P ops Q C t l' a w → SegsE P ops (NP Q) C t l' a w
  | .done, _, _, _, h => h
  | .quiet m t, l', a, w, h => by
    obtain ⟨aE, h1, h2⟩ := h
    exact ⟨aE, h1, segsE_np t _ _ _ h2⟩
  | .stop, _, _, _, _ => trivial
  | .alt p t u, l', a, w, h => by
    obtain ⟨h1, h3⟩ := h
    refine ⟨?_, segsE_np u _ _ _ h3⟩
    cases hp : l'[p]? with
    | none => rw [hp] at h1; exact h1
    | some o =>
      rw [hp] at h1
      dsimp only at h1 ⊢
      unfold wpList at h1 ⊢
      split
      · rename_i hw
        simp only [hw, if_true] at h1
        rcases h1 with h2 | ⟨_, h2⟩
        · exact .inl (upon_mono2 (fun a' w' _ hk => ⟨hk.1, segsE_np t _ _ _ hk.2⟩) (fun e a w he hq => by cases e <;> first | exact absurd rfl he | exact hq.elim) h2)
        · exact (letsOut_CEnd h2).elim
      · rename_i hw
        simp only [hw] at h1
        exact ⟨h1.1, segsE_np t _ _ _ h1.2⟩

def okRegionE (P : Program) (ops : Array Oper) (t : Tree) (size : Nat) : Bool :=
  Region.noSelect ops && dstsOk ops size && okE P kind .any ops t (List.range ops.size) (Array.replicate ops.size false) none

theorem wp_region_segsE {P : Program} {id : Nat} {l : List Oper} {Q : Exit → Act → World → Prop} {a : Act} {w : World} (C : World → Prop) (t : Tree) (hm : P.follows .mixedOrders = true)
    (hB : okRegionE P l.toArray t a.tmps.size = true) (hC : C w.drew) (h : SegsE P l.toArray Q C t l a w.drew) : (Code.region id l.toArray true).wp P Q a w := by
  simp only [okRegionE, Bool.and_eq_true] at hB
  obtain ⟨⟨h1, h3⟩, h4⟩ := hB
  refine Code.wp_mono (Q := NP Q) (fun e a w h => by cases e <;> first | exact h | exact h.elim) ?_
  refine wp_region_any hm ?_
  have hl : (List.range l.toArray.size).map (fun i => l.toArray.getD i default) = l := by
    apply List.ext_getElem
    · simp
    · intro i h1 h2
      simp at h1
      simp [h1]
  refine wpAny_of_T (n := l.toArray.size) (C := C) _ _ _ _ ?_
  have := (wpAnyT_of_E (P := P) (ops := l.toArray) (md := .any) (Q := NP Q) (C := C) (kind := kind) kind_quiet h1 (fun c a a' w hq => hq.elim) (fun i => l.toArray.getD i default) t (List.range l.toArray.size) (Array.replicate l.toArray.size false) a w.drew hC
    (fun j o ho hl => by
      have h' : (Array.replicate l.toArray.size false).getD j false = false := by simp [Array.getD]
      rw [h'] at hl
      cases hl) (fun i hi => by
      have hi' : i < l.length := by simpa using hi
      simp [hi']) h3 (by rw [hl]; exact segsE_np t l a _ h)).1 h4
  simpa using this

theorem segE_quiet {P : Program} {ops : Array Oper} {Q : Exit → Act → World → Prop} {C : World → Prop} {m : List Nat} {t : Tree} {l : List Oper} {a aE : Act} {w : World} (h1 : ∀ W, C W → wpList P ops (QEnd aE W) (pick (runsT m) l) a W)
    (h2 : SegsE P ops Q C t (left (runsT m) l) aE w) : SegsE P ops Q C (.quiet m t) l a w := ⟨aE, h1, h2⟩
theorem segE_alt {P : Program} {ops : Array Oper} {Q : Exit → Act → World → Prop} {C : World → Prop} {p : Nat} {t u : Tree} {l : List Oper} {a : Act} {w : World} (o : Oper) (hp : l[p]? = some o)
    (h1 : wpList P ops (CEnd C (SegsE P ops Q C t (l.eraseIdx p))) [o] a w) (h2 : SegsE P ops Q C u l a w) : SegsE P ops Q C (.alt p t u) l a w := by
  refine ⟨?_, h2⟩
  rw [hp]
  exact h1
theorem segE_stop {P : Program} {ops : Array Oper} {Q : Exit → Act → World → Prop} {C : World → Prop} {l : List Oper} {a : Act} {w : World} : SegsE P ops Q C .stop l a w := trivial
theorem segE_done {P : Program} {ops : Array Oper} {Q : Exit → Act → World → Prop} {C : World → Prop} {l : List Oper} {a : Act} {w : World} (h : Q .normal a w) : SegsE P ops Q C .done l a w := h
end Go.Seg
