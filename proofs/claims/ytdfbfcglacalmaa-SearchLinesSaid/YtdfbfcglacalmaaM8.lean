/-
  Histories: what a right history keeps when its calls are put in order; that the program answers; the walk of HistCounts. At most 60 calls (the law's own guard); no other condition.
  Search: the document's Replay and a line of calls; a line out of calls that all have counted. PLAIN LAW: no walk; no condition.
  Search: the document's Holds; a map's copy. At most 60 calls; no other condition.
  Search: go1, the search itself, as an iterator: where all places stand. At most 60 calls; no other condition.
  Search: go1, the search itself, as an iterator. At most 60 calls; no other condition.
  A region that draws its order, by a tree, as SegE; an operation behind all looks may leave the class of worlds. No program in sight; no condition.
  Search: the lines of calls as an iterator. At most 60 calls; no other condition.
  Search: Lines, Find. At most 60 calls; no other condition.
  Search: whether an order of calls is a line, by the document. At most 60 calls; no other condition.
  Search: two orders compared; the program answers. At most 60 places; no other condition.
  Search: SearchFinds' walk: what is found is a line; if the calls of a history that holds, as they counted, are one, one is found; of more than so many none is. At most 60 calls; no other condition.
  Histories: calls that came in; the walk of HistCounts. At most 60 calls (the law's own guard); no other condition.
-/
import Derived.Test.YtdfbfcglacalmaaM4
import Derived.Test.YtdfbfcglacalmaaM7
import Derived.Test.YtdfbfcglacalmaaM6
import Derived.Test.YtdfbfcglacalmaaM3
import Derived.Test.YtdfbfcglacalmaaM2
import Derived.RangeFuncLeaves
import Derived.RangeFuncCalls
section
namespace Go.Proofs.Ytdfbfcglacalmaa.Hs
open Go.RowKit Go.Seg Go.Open Go.Lib Go.Arr Go.Stab Go.Row

theorem apart_symm {x y : C} (h : apart x y = true) : apart y x = true := by
  unfold apart alike at *
  simp only [Bool.and_eq_true, Bool.not_eq_true', Bool.or_eq_false_iff, Bool.and_eq_false_iff, beq_eq_false_iff_ne, decide_eq_false_iff_not, Bool.or_eq_true, bne_iff_ne] at *
  obtain ⟨⟨h1, h2⟩, h3⟩ := h
  refine ⟨⟨fun e => h1 e.symm, ?_⟩, ?_⟩
  · rcases h2 with h2 | h2
    · by_cases h4 : 0 ≤ y.at_
      · exact .inr (fun e => h2 (by omega))
      · exact .inl h4
    · exact .inr (fun e => h2 e.symm)
  · rcases h3 with h3 | h3 | h3
    · exact .inl (fun e => h3 e.symm)
    · exact .inr (.inr h3)
    · exact .inr (.inl h3)
theorem right_iff (T : List C) : RightP T ↔ (∀ x ∈ T, opR x = true ∧ timed x = true) ∧ T.Pairwise (fun d x => apart x d = true) := by
  constructor
  · intro h
    refine ⟨fun x hx => ?_, ?_⟩
    · obtain ⟨S, R, e⟩ := List.append_of_mem hx
      have := h S x R e
      exact ⟨this.1, this.2.1⟩
    · rw [List.pairwise_iff_getElem]
      intro i j hi hj hij
      obtain ⟨S, x, R, e, hS⟩ := split_at T j hj
      have h1 := (h S x R e).2.2
      rw [List.any_eq_false] at h1
      subst e
      have e1 : (S ++ x :: R)[j] = x := by simp [← hS]
      have e2 : (S ++ x :: R)[i] = S[i]'(by omega) := List.getElem_append_left (by omega)
      rw [e1, e2]
      have := h1 (S[i]'(by omega)) (List.getElem_mem _)
      simpa using this
  · rintro ⟨h1, h2⟩ S x R rfl
    refine ⟨(h1 x (by simp)).1, (h1 x (by simp)).2, ?_⟩
    rw [List.any_eq_false]
    intro d hd
    have := (List.pairwise_append.1 h2).2.2 d hd x (by simp)
    simp [this]
/-- One behind the other, as they counted. -/
def Then' (y x : C) : Prop := y.at_ < x.at_ ∧ ahead x y = false
theorem counts_ok {T : List C} (h : RightP T) {L : List (C × Nat)} (hd : Done (fun x => x.at_) (sel (fun x => decide (0 ≤ x.at_)) T) L) : (L.map Prod.fst).Pairwise Then' ∧ RightP (L.map Prod.fst) := by
  have hp : (L.map Prod.fst).Perm (T.filter fun x => decide (0 ≤ x.at_)) := by
    have := hd.1.map Prod.fst
    rwa [sel_map] at this
  obtain ⟨h1, h2⟩ := (right_iff T).1 h
  have hm : ∀ x ∈ L.map Prod.fst, (opR x = true ∧ timed x = true) ∧ 0 ≤ x.at_ := fun x hx => by
    have := List.mem_filter.1 (hp.mem_iff.1 hx)
    exact ⟨h1 x this.1, of_decide_eq_true this.2⟩
  have ha : (L.map Prod.fst).Pairwise (fun d x => apart x d = true) := (hp.pairwise_iff (fun h => apart_symm h)).2 (h2.filter _)
  refine ⟨?_, (right_iff _).2 ⟨fun x hx => (hm x hx).1, ha⟩⟩
  have hs : (L.map Prod.fst).Pairwise (fun y x => y.at_ ≤ x.at_) := by
    rw [List.pairwise_map]
    exact hd.2.imp (fun h => by unfold Lt at h; dsimp only at h; omega)
  refine (List.Pairwise.and_mem.1 (ha.and hs)).imp ?_
  rintro y x ⟨hy, hx, h3, h4⟩
  have hy' := hm y hy
  have hx' := hm x hx
  have h5 : y.at_ < x.at_ := by
    rcases Int.lt_or_eq_of_le h4 with h6 | h6
    · exact h6
    · exfalso
      unfold apart alike at h3
      simp [h6, hx'.2] at h3
  refine ⟨h5, ?_⟩
  have t1 := hx'.1.2
  have t2 := hy'.1.2
  unfold timed at t1 t2
  unfold ahead
  split at t1
  · cases t1
  split at t1
  · omega
  split at t2
  · cases t2
  split at t2
  · omega
  simp only [Bool.and_eq_true, Bool.or_eq_true, decide_eq_true_eq] at t1 t2
  simp only [Bool.and_eq_false_iff, decide_eq_false_iff_not]
  omega
theorem swaps_zero {l : List C} (h : l.Pairwise Then') : swaps l = 0 := by
  induction l with
  | nil => rfl
  | cons x l ih =>
    obtain ⟨h1, h2⟩ := List.pairwise_cons.1 h
    simp only [swaps, ih h2, Nat.add_zero]
    rw [List.countP_eq_zero]
    intro y hy
    rw [(h1 y hy).2]
    decide

/-- The two calls by which the program shows that it answers. -/
def c0 : C := ⟨0, 0, 0, 0, 0, 0, 0, 0, 1, 4, 0, false, 0⟩
def c1 : C := ⟨0, 1, 0, 0, 0, 0, 0, 5, 6, -1, 0, false, 0⟩
theorem right_two : RightP [c0, c1] := by
  rw [right_iff]
  refine ⟨fun x hx => ?_, ?_⟩
  · simp only [List.mem_cons, List.not_mem_nil, or_false] at hx
    rcases hx with rfl | rfl <;> decide
  · refine List.pairwise_cons.2 ⟨fun x hx => ?_, List.pairwise_singleton _ _⟩
    simp only [List.mem_cons, List.not_mem_nil, or_false] at hx
    subst hx
    decide
theorem two_new (w : World) (hz1 : Blk ((w.alloc (.cells ZC 41)).alloc (.cells ZC 41)) w.heap.size ZC 41) (x y : C) : ∃ W1 W2, (Instr.storeAt 41 (.pointer (some ⟨w.heap.size, 0, none⟩)) (CV x)).run Try.prog ((w.alloc (.cells ZC 41)).alloc (.cells ZC 41)) = .ok () W1 ∧
    (Instr.storeAt 41 (.pointer (some ⟨w.heap.size + 1, 0, none⟩)) (CV y)).run Try.prog W1 = .ok () W2 ∧ Blk W2 w.heap.size (enc x).toArray 41 ∧ Blk W2 (w.heap.size + 1) (enc y).toArray 41 ∧ Ext w W2 := by
  have hz2 : Blk ((w.alloc (.cells ZC 41)).alloc (.cells ZC 41)) (w.heap.size + 1) ZC 41 := blk_at (by simp)
  obtain ⟨W1, r1, b1, c1⟩ := struct_store (P := Try.prog) (enc x).toArray hz1 (by kernel_rfl) rfl (by simp [enc, Value.oneCell'])
  have hz2' := Prg.blk_chg1 hz2 c1 (by omega)
  obtain ⟨W2, r2, b2, c2⟩ := struct_store (P := Try.prog) (enc y).toArray hz2' (by kernel_rfl) rfl (by simp [enc, Value.oneCell'])
  have b1' := Prg.blk_chg1 b1 c2 (by omega)
  refine ⟨W1, W2, run_storeA (size_ct _) rfl r1, run_storeA (size_ct _) rfl r2, b1', b2, ?_⟩
  exact below_chg (below_chg ((ext_alloc _ _).trans (ext_alloc _ _)) c1 (fun i hi => by omega)) c2 (fun i hi => by omega)
theorem vc_two {W : World} {g : Nat} (x y : C) (h : Blk W g (enc x ++ enc y).toArray 41) : VC W (some ⟨g, 0, none⟩) 2 g 0 [x, y] := by
  refine ⟨rfl, fun _ => rfl, fun W' hW i hi j hj => ?_⟩
  rw [Blk.cells (h.ext hW)]
  match i, hi with
  | 0, _ => simp [List.getElem?_append_left (show j < (enc x).length by rw [enc_len]; exact hj)]
  | 1, _ =>
    simp only [Nat.zero_add, Nat.one_mul, List.getElem?_toArray]
    rw [List.getElem?_append_right (by rw [enc_len]; omega), enc_len, Nat.add_sub_cancel_left]
    rfl
end Go.Proofs.Ytdfbfcglacalmaa.Hs
end

section
namespace Go.Proofs.Ytdfbfcglacalmaa.Hs
open Go.Stab

theorem good_iff' : ∀ (T P : List C), good (runS s0 P) T = true ↔ ∀ S x R, T = S ++ x :: R → mayR (P ++ S) x = true
  | [], P => ⟨fun _ S x R e => (by simp at e), fun _ => rfl⟩
  | y :: T, P => by
    have ih := good_iff' T (P ++ [y])
    rw [runS_snoc] at ih
    simp only [good, Bool.and_eq_true]
    rw [ih]
    constructor
    · rintro ⟨h1, h2⟩ S x R e
      cases S with
      | nil =>
        simp only [List.nil_append, List.cons.injEq] at e
        rw [List.append_nil, may_same, ← e.1]
        exact h1
      | cons z S =>
        simp only [List.cons_append, List.cons.injEq] at e
        obtain ⟨rfl, e⟩ := e
        have := h2 S x R e
        rwa [List.append_assoc] at this
    · intro h
      refine ⟨?_, fun S x R e => ?_⟩
      · have := h [] y T rfl
        rwa [List.append_nil, may_same] at this
      · have := h (y :: S) x R (by rw [e]; rfl)
        rw [List.append_assoc]
        exact this
theorem good_iff (T : List C) : GoodR T ↔ good s0 T = true := by
  have := good_iff' T []
  simp only [List.nil_append] at this
  exact this.symm
/-- The places of calls that all have counted, in that order, are a line, if the history is right and the calls are done by a map. -/
theorem counted_line {T : List C} (hr : RightP T) {L : List (C × Nat)} (hd : Done (fun x => x.at_) (sel (fun x => decide (0 ≤ x.at_)) T) L) (hl : L.length = T.length) (hg : GoodR (L.map Prod.fst)) : IsLine T (L.map Prod.snd) := by
  have hsub : ∀ q ∈ L, q ∈ T.zipIdx := fun q hq => (List.mem_filter.1 (hd.1.mem_iff.1 hq)).1
  have hz : ∀ q ∈ L, q.2 < T.length ∧ cat T q.2 = q.1 := fun q hq => by
    obtain ⟨i, hi, e⟩ := List.mem_iff_getElem.1 (hsub q hq)
    rw [List.getElem_zipIdx] at e
    rw [List.length_zipIdx] at hi
    rw [← e]
    refine ⟨by simpa using hi, ?_⟩
    unfold cat
    simp [List.getD_eq_getElem?_getD, hi]
  have hmap : (L.map Prod.snd).map (cat T) = L.map Prod.fst := by
    rw [List.map_map]
    exact List.map_congr_left (fun q hq => (hz q hq).2)
  refine ⟨by rw [List.length_map]; exact hl, ?_, fun i hi => ?_, ?_, ?_⟩
  · have h1 : (sel (fun x => decide (0 ≤ x.at_)) T).Pairwise (fun a b => a.2 ≠ b.2) := (sel_tags _ T).imp (fun h => Nat.ne_of_lt h)
    have h2 : L.Pairwise (fun a b => a.2 ≠ b.2) := (hd.1.pairwise_iff (fun h => Ne.symm h)).2 h1
    exact List.pairwise_map.2 h2
  · obtain ⟨q, hq, rfl⟩ := List.mem_map.1 hi
    exact (hz q hq).1
  · rw [hmap]
    exact swaps_zero (counts_ok hr hd).1
  · rw [hmap]
    exact (good_iff _).1 hg
end Go.Proofs.Ytdfbfcglacalmaa.Hs
end

section
namespace Go.Proofs.Ytdfbfcglacalmaa.Hs
open Go.RowKit Go.Seg Go.Open Go.Lib Go.Arr Go.Stab Go.Row

/-- A history of which the document says that it holds. -/
def HoldsR (T : List C) (L : List (C × Nat)) : Prop := RightP T ∧ GoodR (L.map Prod.fst)
set_option maxRecDepth 100000 in
theorem rHolds_any (T : List C) (a : Option Addr) (len cap b off : Nat) (w : World) (hV : VC w a len b off T) (hl : len ≤ 60) (hc : len ≤ cap) :
    Calls Try.prog 9 #[.slice a len cap] w fun e w' => (∃ (r : Bool) (L : List (C × Nat)), e = .returned (.bool r) ∧ Done (fun x => x.at_) (sel (fun x => decide (0 ≤ x.at_)) T) L ∧ (r = true → HoldsR T L)) ∧ Ext w w' := by
  have HV := Lib.hid hV
  clear hV
  go_enter Try.func9, Try.ntmps9
  go_wp2_with (first | go_guarded)
  refine (rCounted_any T a len cap b off _ HV.out hl).mono ?_
  rintro e w2 ⟨⟨a2, n2, cap2, b2, L, rfl, q2, c2, v2, k2⟩, hE2⟩
  have HE2 := Lib.hid hE2
  have H2 := Lib.hid (And.intro v2 k2)
  clear hE2 v2 k2
  go_wp2_with (first | go_guarded)
  refine (rRight_any T a len cap b off _ (HV.out.ext HE2.out) hl hc).mono ?_
  rintro e w3 ⟨⟨r, rfl, hr⟩, hE3⟩
  have HE3 := Lib.hid hE3
  have HR := Lib.hid hr
  clear hE3 hr
  cases r with
  | false =>
    go_wp2_with (first | go_guarded)
    go_ret
    exact ⟨⟨false, L, rfl, H2.out.2, fun h => (by cases h)⟩, HE2.out.trans HE3.out⟩
  | true =>
    go_wp2_with (first | go_guarded)
    refine (rReplay_any (L.map Prod.fst) a2 n2 cap2 b2 0 _ (H2.out.1.ext HE3.out) q2 c2).mono ?_
    rintro e w4 ⟨⟨m, rfl, hm, hg⟩, hE4⟩
    have HE4 := Lib.hid hE4
    have HG := Lib.hid hg
    clear hE4 hg
    by_cases he : m = n2
    · have HEQ := Lib.hid (HG.out.1 he)
      subst he
      go_wp2_with (first | go_guarded)
      go_ret
      exact ⟨⟨_, L, rfl, H2.out.2, fun _ => ⟨by first | exact HR.out.1 rfl | exact HR.out.1 trivial | simpa using HR.out, HEQ.out⟩⟩, HE2.out.trans (HE3.out.trans HE4.out)⟩
    · have d0 : ((m : Int) == (n2 : Int)) = false := beq_eq_false_iff_ne.2 (by omega)
      have d0' : (m == n2) = false := beq_eq_false_iff_ne.2 he
      clear he
      go_wp2_with (first | go_guarded)
      go_ret
      exact ⟨⟨false, L, rfl, H2.out.2, fun h => (by cases h)⟩, HE2.out.trans (HE3.out.trans HE4.out)⟩
end Go.Proofs.Ytdfbfcglacalmaa.Hs
end

section
namespace Go.Proofs.Ytdfbfcglacalmaa.Hs
open Go.RowKit Go.Seg Go.Open Go.Lib Go.Arr Go.Stab Go.Row Lo

/-- The search's record: the calls, the places so far, how many lines may still be told. -/
def Sk (W : World) (B bs : Nat) (la : Option Addr) (n lcap : Nat) (o : List Nat) (left : Int) : Prop :=
  ∃ (oa : Option Addr) (oc : Nat), Blk W bs #[.slice la n lcap, .slice oa o.length oc, .int .i64 left] 47 ∧ RowG RI encI W B (.slice oa o.length oc) o ∧ B ≤ bs
/-- Maps stand as they stood. -/
def Kq (W W' : World) : Prop := Prg.KeepsTy 102 W W' ∧ Prg.KeepsTy 84 W W' ∧ Prg.KeepsTy 61 W W'
theorem Kq.trans {A B C : World} (h : Kq A B) (k : Kq B C) : Kq A C := ⟨h.1.trans k.1, h.2.1.trans k.2.1, h.2.2.trans k.2.2⟩
theorem Kq.of_chg {S : Nat → Prop} {A B : World} (h : Chg S A B) (h1 : Off S A 102) (h2 : Off S A 84) (h3 : Off S A 61) : Kq A B := by
  have key : ∀ E, Off S A E → Prg.KeepsTy E A B := fun E hE k cs f hk => by
    rw [h.block k (Array.getElem?_eq_some_iff.1 hk).1 (fun hs => hE k hs cs f hk)]; exact hk
  exact ⟨key _ h1, key _ h2, key _ h3⟩
theorem Kq.of_ext {A B : World} (h : Ext A B) : Kq A B := Kq.of_chg (S := fun _ => False) (Chg.of_below h) (fun _ h => h.elim) (fun _ h => h.elim) (fun _ h => h.elim)
theorem Kq.of_blk {A B : World} {b : Nat} {cs : Array Value} (h : Blk A b cs 47) (hc : Chg (· = b) A B) : Kq A B := Kq.of_chg hc (Off.one h (by decide)) (Off.one h (by decide)) (Off.one h (by decide))
theorem isT_kq {W W' : World} (h : Kq W W') : ∀ {t : Rk.T Int (Int × Int)} {p : Option Addr}, TrTh.isT W p t → TrTh.isT W' p t
  | .nil, _, k => k
  | .node _ _ _ _, _, ⟨b, pl, pr, hp, hb, hl, hr⟩ => ⟨b, pl, pr, hp, h.1 _ _ _ hb, isT_kq h hl, isT_kq h hr⟩
theorem isMap_kq {W W' : World} (h : Kq W W') {b : Nat} {s : Lossy.Th × Bool} : isMap W b s → isMap W' b s
  | ⟨q, hb, tb, root, hp, ht, hr⟩ => ⟨q, h.2.2 _ _ _ hb, tb, root, hp, h.2.1 _ _ _ ht, isT_kq h hr⟩
/-- What a search's caller must bring. -/
structure Asks (T : List C) (B lb loff : Nat) (la : Option Addr) (n l : Nat) (J : List (List Nat) → World → Prop) (Jx : Nat → List (List Nat) → World → Prop) (Sp : List (List Nat) → Prop) : Prop where
  jt : ∀ s A, J s A → VC A la n lb loff T
  j : ∀ s A A', J s A → Chg (fun k => B ≤ k) A A' → J s A'
  jx : ∀ c s A A', Jx c s A → Chg (fun k => B ≤ k ∧ k < c) A A' → Jx c s A'
  y : ∀ m pre x v c W, J pre W → RowG RI encI W c v x → B ≤ c → Sp (pre ++ [x]) → YieldAt Fence.wide m Try.prog l #[v] W fun e W' =>
    HiFrom B W W' ∧ Kq W W' ∧ ((e = .returned (.bool true) ∧ J (pre ++ [x]) W') ∨ (e = .returned (.bool false) ∧ Jx c (pre ++ [x]) W'))
/-- What the search has done. -/
def Went (T : List C) (B bs : Nat) (la : Option Addr) (n lcap bm : Nat) (J : List (List Nat) → World → Prop) (Jx : Nat → List (List Nat) → World → Prop) (k : Nat) (o : List Nat) (s : St) (pre : List (List Nat)) (L : Nat) (W : World) (e : Ending) (W' : World) : Prop :=
  (e = .returned (.bool true) ∧ (lns T k o s).length < L ∧ Sk W' B bs la n lcap o ((L : Int) - ((lns T k o s).length : Int)) ∧ isMap W' bm s ∧ J (pre ++ lns T k o s) W' ∧ Kq W W') ∨
  (e = .returned (.bool false) ∧ (∃ left, Sk W' B bs la n lcap o left) ∧
    ((∃ q c, bs < c ∧ q <+: lns T k o s ∧ q.length ≤ L ∧ q ≠ [] ∧ Jx c (pre ++ q) W') ∨ (L ≤ (lns T k o s).length ∧ J (pre ++ (lns T k o s).take L) W')))
theorem Sk.hi {W W' : World} {B bs : Nat} {la : Option Addr} {n lcap : Nat} {o : List Nat} {left : Int} (h : Sk W B bs la n lcap o left) (hh : HiFrom B W W') : Sk W' B bs la n lcap o left := by
  obtain ⟨oa, oc, h1, h2, h3⟩ := h
  exact ⟨oa, oc, blk_hi h1 hh h3, row_hi h2 hh (Nat.le_refl _), h3⟩
theorem Sk.ext {W W' : World} {B bs : Nat} {la : Option Addr} {n lcap : Nat} {o : List Nat} {left : Int} (h : Sk W B bs la n lcap o left) (hh : Ext W W') : Sk W' B bs la n lcap o left := by
  obtain ⟨oa, oc, h1, h2, h3⟩ := h
  exact ⟨oa, oc, h1.ext hh, h2.ext hh, h3⟩
set_option maxRecDepth 100000 in
set_option maxHeartbeats 2000000 in
theorem go1_end (T : List C) (B bs lb loff : Nat) (la : Option Addr) (n lcap bm l : Nat) (J : List (List Nat) → World → Prop) (Jx : Nat → List (List Nat) → World → Prop) (Sp : List (List Nat) → Prop) (hA : Asks T B lb loff la n l J Jx Sp) (o : List Nat) (s : St) (pre : List (List Nat)) (L : Nat) (W : World)
    (hS : Sk W B bs la n lcap o (L : Int)) (hM : isMap W bm s) (hj : J pre W) (ho : o.length = n) (hn : n ≤ 60) (hL : 1 ≤ L) (hL2 : L ≤ 1000) (hSp : Sp (pre ++ [o])) :
    Calls Try.prog 20 #[.pointer (some ⟨bs, 0, none⟩), .pointer (some ⟨bm, 0, none⟩), .func (.yield l) #[] #[]] W (Went T B bs la n lcap bm J Jx 0 o s pre L W) := by
  obtain ⟨oa, oc, hB, hO, hbs⟩ := hS
  rw [ho] at hB hO
  have HB := Lib.hid hB
  have HO := Lib.hid hO
  have HM := Lib.hid hM
  have HJ := Lib.hid hj
  have HA := Lib.hid hA
  have HSP := Lib.hid hSp
  have HLn := Lib.hid ho
  clear hB hO hM hj hA hSp ho
  go_enter Try.func20, Try.ntmps20
  go_wp2_with fail
  have d1 := (HB.out.ext (Ext.drew _)).cell (i := 1) rfl
  have d2 := (HB.out.ext (Ext.drew _)).cell (i := 2) rfl
  have f2 := (HB.out.ext (Ext.drew _)).frozen 2
  refine wp_region_segsK [([3, 2, 3, 3], 0, 0), ([5], 2, 11)] (by kernel_rfl) (by kernel_rfl) ?_
  apply segsK_pure
  · intro W
    simp only [runsT, runsF, rep, pick]
    go_wp2_with fail
    exact ⟨rfl, rfl⟩
  simp only [runsT, runsF, rep, left]
  apply segsK_look
  · have c0 := (HB.out.ext (Ext.drew _)).cell (i := 0) rfl
    have c1 := (HB.out.ext (Ext.drew _)).cell (i := 1) rfl
    simp only [runsT, runsF, rep, pick]
    go_wp2_with fail
    exact ⟨rfl, rfl⟩
  simp only [runsT, runsF, rep, left]
  apply segsK_nil
  go_upto_region 3 with fail
  obtain ⟨W2, hW2⟩ : ∃ W2, (W.setCell ⟨bs, 2, none⟩ (.int .i64 ((L : Int) - 1))).drew = W2 := ⟨_, rfl⟩
  rw [hW2]
  have hc : Chg (· = bs) W W2 := by rw [← hW2]; exact (Chg.set _ _ _ _).drew
  have hb2 : Blk W2 bs #[.slice la n lcap, .slice oa n oc, .int .i64 ((L : Int) - 1)] 47 := by rw [← hW2]; exact (Blk.set HB.out 2 _ rfl).ext (Ext.drew _)
  have HW2 := Lib.hid (And.intro hc (Kq.of_blk HB.out hc))
  have HB2 := Lib.hid hb2
  have HO2 := Lib.hid (HO.out.chg hc (Off.one HB.out (by decide)))
  have x1 := hb2.cell (i := 1) rfl
  clear d1 d2 f2 hW2 hc hb2
  refine wpIn_wide (n := 0).1 ?_
  gi_wp2
  refine ⟨trivial, rfl, (callsIn_wide.2 (sclone_any o B _ _ HO2.out (by rw [HLn.out]; exact hn))).mono ?_⟩
  rintro e W3 ⟨⟨v', rfl, hv⟩, hE3⟩
  have hJ3 : J pre W3 := HA.out.j _ _ _ HJ.out ((HW2.out.1.trans (Chg.of_below hE3)).mono (fun k hk => by omega))
  have hlt : bs < W2.heap.size := HB2.out.lt
  obtain ⟨fn, tmps, assign, body, hy, hR⟩ := HA.out.y 0 pre o v' W2.heap.size W3 hJ3 hv (by omega) HSP.out
  have HE3 := Lib.hid hE3
  have HLT := Lib.hid hlt
  clear x1 hE3 hv hJ3 hlt
  gi_wp2
  refine ⟨rfl, hR.mono ?_⟩
  rintro e W4 ⟨hH, hK, (⟨rfl, hJ4⟩ | ⟨rfl, hJx⟩)⟩
  · have hb4 := blk_hi (HB2.out.ext HE3.out) hH hbs
    have x2 := hb4.cell (i := 2) rfl
    have HG := Lib.hid (And.intro hb4 (And.intro (row_hi (HO2.out.ext HE3.out) hH (Nat.le_refl _)) (And.intro ((HW2.out.2.trans (Kq.of_ext HE3.out)).trans hK) hJ4)))
    clear hb4 hJ4 hK hH hy hR
    by_cases h1 : L = 1
    · have e1 : decide (1 < (L : Int)) = false := decide_eq_false (by omega)
      have H1 := Lib.hid h1
      clear h1
      gi_wp2
      go_wp2_with fail
      go_ret
      refine .inr ⟨rfl, ⟨_, oa, oc, by rw [HLn.out]; exact HG.out.1, by rw [HLn.out]; exact HG.out.2.1, hbs⟩, .inr ⟨by rw [H1.out]; exact Nat.le_refl _, ?_⟩⟩
      rw [H1.out]
      exact HG.out.2.2.2
    · have e1 : decide (1 < (L : Int)) = true := decide_eq_true (by omega)
      have H1 := Lib.hid (show 1 < L by omega)
      clear h1
      gi_wp2
      go_wp2_with fail
      go_ret
      exact .inl ⟨rfl, H1.out, ⟨oa, oc, by rw [HLn.out]; exact HG.out.1, by rw [HLn.out]; exact HG.out.2.1, hbs⟩, isMap_kq HG.out.2.2.1 HM.out, HG.out.2.2.2, HG.out.2.2.1⟩
  · have hb4 := blk_hi (HB2.out.ext HE3.out) hH hbs
    have HG := Lib.hid (And.intro hb4 (And.intro (row_hi (HO2.out.ext HE3.out) hH (Nat.le_refl _)) hJx))
    clear hb4 hJx hK hH hy hR
    gi_wp2
    go_wp2_with fail
    go_ret
    exact .inr ⟨rfl, ⟨_, oa, oc, by rw [HLn.out]; exact HG.out.1, by rw [HLn.out]; exact HG.out.2.1, hbs⟩, .inl ⟨[o], _, HLT.out, List.prefix_refl _, hL, (by simp), HG.out.2.2⟩⟩
end Go.Proofs.Ytdfbfcglacalmaa.Hs
end

section
namespace Go.Proofs.Ytdfbfcglacalmaa.Hs
open Go.RowKit Go.Seg Go.Open Go.Lib Go.Arr Go.Stab Go.Row Lo

theorem do_cv (b : Nat) (s : St) (x : C) (w : World) (h : isMap w b s) (hs : s.1.sz < 700000000) : Calls Try.prog 31 #[.pointer (some ⟨b, 0, none⟩), CV x] w fun e w' => e = .returned (.bool (mayS s x)) ∧ (mayS s x = true → isMap w' b (afterS s x)) ∧ Chg (· = b) w w' :=
  (do_any b s (toLo x) w h hs).mono fun e w' hd => ⟨hd.1, fun hy => by
    have h1 := hd.2.1
    unfold Lo.step at h1
    rwa [step_yes hy] at h1, hd.2.2⟩
theorem may_bool (T : List C) (la : Option Addr) (n lcap lb loff : Nat) (o : List Nat) (oa : Option Addr) (m ocap ob bs i : Nat) (lft : Int) (w : World) (hV : VC w la n lb loff T) (hO : VI w oa m ob o) (hB : Blk w bs #[.slice la n lcap, .slice oa m ocap, .int .i64 lft] 47) (hn : n ≤ 60) (hm : m ≤ 60) (hi : i < n) :
    Calls Try.prog 30 #[.pointer (some ⟨bs, 0, none⟩), .int .i64 i] w fun e w' => e = .returned (.bool (mayB T o i)) ∧ Ext w w' :=
  (seekMay_any T la n lcap lb loff o oa m ocap ob bs i lft w hV hO hB hn hm hi).mono fun e w' h => by
    obtain ⟨⟨r, h1, h2⟩, h3⟩ := h
    refine ⟨?_, h3⟩
    rw [h1]
    congr 2
    rw [Bool.eq_iff_iff, mayB_iff]
    exact h2
theorem own_off {w : World} {B : Nat} {v : Value} {o : List Nat} (h : RowG RI encI w B v o) {E : TypeId} (hE : E ≠ 3) : Off (fun k => v.ownBlock = some k) w E := by
  intro k hk cs f hh
  rcases h.2 with ⟨rfl, _⟩ | ⟨g, cap', cur, rfl, _, h8, _⟩
  · cases hk
  · cases hk
    rw [h8] at hh
    simp only [Option.some.injEq, Obj.cells.injEq] at hh
    exact hE hh.2.1.symm
theorem take_pre {α : Type} {A B D : List α} (h : A ++ B <+: D) {L : Nat} (h1 : A.length ≤ L) (h2 : L - A.length ≤ B.length) : D.take L = A ++ B.take (L - A.length) := by
  obtain ⟨E, rfl⟩ := h
  rw [List.append_assoc, List.take_append, List.take_of_length_le h1, List.take_append_of_le_length h2]
/-- What the loop of a search keeps. -/
structure Kept (T : List C) (B bs : Nat) (la : Option Addr) (n lcap bm : Nat) (J : List (List Nat) → World → Prop) (k : Nat) (o : List Nat) (s : St) (pre : List (List Nat)) (L : Nat) (W : World) (j : Nat) (wr : World) : Prop where
  lt : (lnsTo T k o s j).length < L
  sk : Sk wr B bs la n lcap o ((L - (lnsTo T k o s j).length : Nat) : Int)
  mp : isMap wr bm s
  jj : J (pre ++ lnsTo T k o s j) wr
  kq : Kq W wr
/-- A round that goes on with no place. -/
theorem Kept.no {T : List C} {B bs : Nat} {la : Option Addr} {n lcap bm : Nat} {J : List (List Nat) → World → Prop} {k : Nat} {o : List Nat} {s : St} {pre : List (List Nat)} {L : Nat} {W : World} {j : Nat} {wr w' : World} (h : Kept T B bs la n lcap bm J k o s pre L W j wr)
    (hJ : ∀ s A A', J s A → Chg (fun k => B ≤ k) A A' → J s A') (hE : Ext wr w') (hn : nextB T o s j = false) : Kept T B bs la n lcap bm J k o s pre L W (j + 1) w' := by
  refine ⟨?_, ?_, h.mp.ext hE, ?_, h.kq.trans (Kq.of_ext hE)⟩
  · rw [lnsTo_no hn]; exact h.lt
  · rw [lnsTo_no hn]; exact h.sk.ext hE
  · rw [lnsTo_no hn]; exact hJ _ _ _ h.jj (Chg.of_below hE)
set_option maxRecDepth 100000 in
set_option maxHeartbeats 8000000 in
theorem go1_any (T : List C) (B bs lb loff : Nat) (la : Option Addr) (n lcap l : Nat) (J : List (List Nat) → World → Prop) (Jx : Nat → List (List Nat) → World → Prop) (Sp : List (List Nat) → Prop) (hA : Asks T B lb loff la n l J Jx Sp) (hn : n ≤ 60) (hT : T.length = n) :
    ∀ (k : Nat) (o : List Nat) (s : St) (pre : List (List Nat)) (L bm : Nat) (W : World), o.length + k = n → s.1.sz ≤ (o.length : Int) →
    Sk W B bs la n lcap o (L : Int) → isMap W bm s → J pre W → 1 ≤ L → L ≤ 1000 → (∀ q, q <+: lns T k o s → q.length ≤ L → q ≠ [] → Sp (pre ++ q)) →
    Calls Try.prog 20 #[.pointer (some ⟨bs, 0, none⟩), .pointer (some ⟨bm, 0, none⟩), .func (.yield l) #[] #[]] W (Went T B bs la n lcap bm J Jx k o s pre L W) := by
  intro k
  induction k with
  | zero =>
    intro o s pre L bm W ho hz hS hM hj h1 h2 hSp
    exact go1_end T B bs lb loff la n lcap bm l J Jx Sp hA o s pre L W hS hM hj (by omega) hn h1 h2 (hSp [o] (List.prefix_refl _) h1 (by simp))
  | succ k ih =>
    intro o s pre L bm W ho hz hS hM hj h1 h2 hSp
    obtain ⟨oa, oc, hB, hO, hbs⟩ := id hS
    obtain ⟨m, hm⟩ : ∃ m, o.length = m := ⟨_, rfl⟩
    rw [hm] at hB hO hz ho
    have HB := Lib.hid hB
    have HA := Lib.hid hA
    have HSP := Lib.hid hSp
    have HLn := Lib.hid hm
    have HT := Lib.hid hT
    have IH := Lib.hid ih
    have HZ := Lib.hid hz
    have HK0 : Hid (Kept T B bs la n lcap bm J k o s pre L W 0 W.drew) := Lib.hid ⟨h1, hS.ext (Ext.drew _), hM.ext (Ext.drew _), by rw [lnsTo_zero, List.append_nil]; exact hA.j _ _ _ hj (Chg.refl _).drew, Kq.of_ext (Ext.drew _)⟩
    have e0 : ((m : Int) == (n : Int)) = false := beq_eq_false_iff_ne.2 (by omega)
    have e0' : (m == n) = false := beq_eq_false_iff_ne.2 (by omega)
    have d0 := (HB.out.ext (Ext.drew _)).cell (i := 0) rfl
    clear hB hO hM hj hA hSp hm hT ih hS hz
    go_enter Try.func20, Try.ntmps20
    go_wp2_with fail
    refine wp_region_segsK [([3, 2, 3, 3], 0, 0), ([5], 2, 11)] (by kernel_rfl) (by kernel_rfl) ?_
    apply segsK_pure
    · intro W
      simp only [runsT, runsF, rep, pick]
      go_wp2_with fail
      exact ⟨rfl, rfl⟩
    simp only [runsT, runsF, rep, left]
    apply segsK_look
    · have c0 := (HB.out.ext (Ext.drew _)).cell (i := 0) rfl
      have c1 := (HB.out.ext (Ext.drew _)).cell (i := 1) rfl
      simp only [runsT, runsF, rep, pick]
      go_wp2_with fail
      exact ⟨rfl, rfl⟩
    simp only [runsT, runsF, rep, left]
    apply segsK_nil
    go_wp2_with fail
    clear d0 e0 e0'
    go_loopg [48] n (fun g v wr => ∃ j : Nat, v = .int .i64 j ∧ j ≤ n ∧ Hid (Kept T B bs la n lcap bm J k o s pre L W j wr) ∧ n - j ≤ g)
    case atStart => exact ⟨0, rfl, Nat.zero_le _, HK0, Nat.le_refl _⟩
    case round =>
      obtain ⟨j, rfl, hjn, HR, hg⟩ := hrel
      by_cases hil : j < n
      · have d0 : decide (j < n) = true := decide_eq_true hil
        obtain ⟨oa2, oc2, hb2, hr2, -⟩ := HR.out.sk
        have hv := HA.out.jt _ _ HR.out.jj
        obtain rfl := hv.ad (by omega)
        obtain ⟨S, x, R, eT, hS, hx⟩ := hv.get hil
        have HX := Lib.hid (cat_at eT hS)
        obtain ⟨ob, hvi, hoc, -, -⟩ := row_vi hr2
        have HV := Lib.hid hv
        have l1 := hx.ld wr (Ext.refl _)
        have s1 := st_new wr x
        have HBX := Lib.hid (one_box wr x)
        obtain ⟨w2, hw2⟩ : ∃ w2, w2 = wr.alloc (.cells (enc x).toArray 41) := ⟨_, rfl⟩
        rw [← hw2] at s1
        have HAt := Lib.hid (show At1 w2 wr.heap.size 0 x by rw [hw2]; exact at1_blk HBX.out.1)
        have HE2 := Lib.hid (show Ext wr w2 by rw [hw2]; exact HBX.out.2)
        rw [HLn.out] at hb2 hr2 hvi
        have HB2 := Lib.hid hb2
        have HR2 := Lib.hid hr2
        have HVI := Lib.hid hvi
        unfold ZC at s1
        clear hx eT hS HBX hw2 hb2 hr2 hvi hoc hv
        go_upto_region 7 with (first | refine Arr.wpList_ldA rfl _ _ rfl _ l1 ?_ | refine Arr.wpList_stA rfl _ _ _ rfl rfl s1 ?_)
        clear l1 s1
        go_wp2_with (first | go_guarded)
        refine (mclone_any bm s _ (HR.out.mp.ext HE2.out)).mono ?_
        rintro e w3 ⟨⟨c, rfl, hc3, hm3⟩, hE3⟩
        have HC3 := Lib.hid (And.intro hc3 hm3)
        have H23 := Lib.hid hE3
        have HE3 := Lib.hid (HE2.out.trans hE3)
        have l3 := HAt.out.ld w3 hE3
        clear hc3 hm3 hE3
        go_wp2_with (first | go_guarded)
        refine (may_bool T _ n lcap lb loff o oa2 m oc2 ob bs j _ _ (HV.out.ext HE3.out) (HVI.out.ext HE3.out) (HB2.out.ext HE3.out) hn (by omega) hil).mono ?_
        rintro e w4 ⟨rfl, hE4⟩
        have HE4 := Lib.hid (HE3.out.trans hE4)
        have hm4 := HC3.out.2.ext hE4
        have l4 := HAt.out.ld w4 (H23.out.trans hE4)
        have HC4 := Lib.hid (And.intro (Nat.le_trans HE2.out.size HC3.out.1) hm4)
        clear hE4 hm4
        obtain ⟨b1, hb1⟩ : ∃ b1, mayB T o j = b1 := ⟨_, rfl⟩
        rw [hb1]
        have H1 := Lib.hid hb1
        clear hb1
        cases b1 with
        | false =>
          clear l4
          go_wp2_with (first | go_guarded)
          go_roundg (n - (j + 1))
          case measure => omega
          case rel => exact ⟨j + 1, by go_num, by omega, Lib.hid (HR.out.no HA.out.j HE4.out (by unfold nextB; rw [H1.out]; rfl)), Nat.le_refl _⟩
        | true =>
          go_wp2_with (refine Arr.wpList_ldA rfl _ _ rfl _ l4 ?_)
          clear l4
          refine (do_cv c s x _ HC4.out.2 (by have := HZ.out; omega)).mono ?_
          rintro e w5 ⟨rfl, hd, hC5⟩
          have HE5 := Lib.hid (below_chg HE4.out hC5 (fun i hi => by rw [hi]; exact HC4.out.1))
          have HD := Lib.hid hd
          clear hd hC5
          obtain ⟨b2, hb2⟩ : ∃ b2, mayS s x = b2 := ⟨_, rfl⟩
          rw [hb2]
          have H2 := Lib.hid hb2
          clear hb2
          cases b2 with
          | false =>
            go_wp2_with (first | go_guarded)
            go_roundg (n - (j + 1))
            case measure => omega
            case rel => exact ⟨j + 1, by go_num, by omega, Lib.hid (HR.out.no HA.out.j HE5.out (by unfold nextB; rw [H1.out, HX.out, H2.out]; rfl)), Nat.le_refl _⟩
          | true =>
            have HNX : Hid (nextB T o s j = true) := Lib.hid (by unfold nextB; rw [H1.out, HX.out, H2.out]; rfl)
            have HM5 := Lib.hid (HD.out H2.out)
            have HB5 := Lib.hid (HB2.out.ext HE5.out)
            have HR5 := Lib.hid (show RowG RI encI w5 B (.slice oa2 m oc2) o from HR2.out.ext HE5.out)
            have hlt5 := HB5.out.lt
            have c1 := HB5.out.cell (i := 1) rfl
            go_wp2_with (first | go_guarded | (at_builtin; refine appP rfl _ _ rfl _ o rfl HR5.out j w5.heap.size rfl rfl (by rw [HLn.out]; omega) (by omega) ?_))
            intro a6 c6 w6 hr6 hC6
            rw [HLn.out] at hr6 ⊢
            have hb6 := HB5.out.chg hC6 (own_off HR5.out (by decide))
            have f6 := hb6.frozen 1
            have e6 := hb6.cell (i := 1) rfl
            have HK6 := Lib.hid (show Kq w5 w6 from Kq.of_chg hC6 (own_off HR5.out (by decide)) (own_off HR5.out (by decide)) (own_off HR5.out (by decide)))
            have HC6 := Lib.hid (show Chg (fun k => B ≤ k) w5 w6 from hC6.mono (fun k hk => (HR5.out.lt k hk).1))
            have HB6 := Lib.hid hb6
            have HR6 := Lib.hid hr6
            clear c1 hlt5 hb6 hr6 hC6
            go_upto_region 10 with (first | go_guarded)
            obtain ⟨w7, hw7⟩ : ∃ w7, w6.setCell ⟨bs, 1, none⟩ (.slice a6 (m + 1) c6) = w7 := ⟨_, rfl⟩
            rw [hw7]
            have hc7 : Chg (· = bs) w6 w7 := by rw [← hw7]; exact Chg.set _ _ _ _
            have hb7 : Blk w7 bs #[.slice (some ⟨lb, loff, none⟩) n lcap, .slice a6 (m + 1) c6, .int .i64 ((L - (lnsTo T k o s j).length : Nat) : Int)] 47 := by rw [← hw7]; exact Blk.set HB6.out 1 _ rfl
            have hk7 := Kq.of_blk HB6.out hc7
            have hJ7 : J (pre ++ lnsTo T k o s j) w7 := HA.out.j _ _ _ HR.out.jj (((Chg.of_below HE5.out).trans HC6.out).trans (hc7.mono (fun k hk => by omega)))
            have hS7 : Sk w7 B bs (some ⟨lb, loff, none⟩) n lcap (o ++ [j]) ((L - (lnsTo T k o s j).length : Nat) : Int) := ⟨a6, c6, by rw [List.length_append, HLn.out]; exact hb7, by rw [List.length_append, HLn.out]; exact HR6.out.chg hc7 (Off.one HB6.out (by decide)), hbs⟩
            have hM7 := isMap_kq hk7 (isMap_kq HK6.out HM5.out)
            have HCALL := Lib.hid (IH.out (o ++ [j]) (afterS s x) (pre ++ lnsTo T k o s j) (L - (lnsTo T k o s j).length) c w7 (by rw [List.length_append, HLn.out]; show m + 1 + k = n; omega) (by rw [List.length_append, HLn.out]; have := after_sz s x; have := HZ.out; show (afterS s x).1.sz ≤ ((m + 1 : Nat) : Int); omega) hS7 hM7 hJ7 (by have := HR.out.lt; omega) (by omega) (fun q hq hql hqn => by
              rw [List.append_assoc]
              refine HSP.out _ ?_ (by rw [List.length_append]; have := HR.out.lt; omega) (by simp [hqn])
              refine (pre_app hq).trans ?_
              have := lnsTo_yes HNX.out (k := k)
              rw [HX.out] at this
              rw [← this]
              exact lnsTo_pre T k o s (by rw [HT.out]; omega)))
            have HKQ := Lib.hid ((HR.out.kq.trans (Kq.of_ext HE5.out)).trans (HK6.out.trans hk7))
            have HMB := Lib.hid (isMap_kq ((Kq.of_ext HE5.out).trans (HK6.out.trans hk7)) HR.out.mp)
            clear e6 f6 hw7 hc7 hb7 hk7 hJ7 hS7 hM7
            go_wp2_with (first | go_guarded)
            refine HCALL.out.mono ?_
            have hl7 : (o ++ [j]).length = m + 1 := by rw [List.length_append, HLn.out]; rfl
            have HL7 := Lib.hid hl7
            clear hl7
            rintro e w8 (⟨rfl, hlt8, hS8, hM8, hJ8, hK8⟩ | ⟨rfl, ⟨lf, hS8⟩, hend⟩)
            · obtain ⟨oa8, oc8, hb8, hr8, -⟩ := hS8
              obtain ⟨b8, -, hoc8, -, -⟩ := row_vi hr8
              rw [HL7.out] at hb8 hr8 hoc8
              have bc8 : m ≤ oc8 := by omega
              have bc8' : (m : Int) ≤ (oc8 : Int) := by omega
              have HB8 := Lib.hid hb8
              have HR8 := Lib.hid (row_cut hr8)
              have HG8 := Lib.hid (And.intro hlt8 (And.intro hJ8 hK8))
              have g1 := (hb8.ext (Ext.drew _)).cell (i := 1) rfl
              have f1 := (hb8.ext (Ext.drew _)).frozen 1
              clear hb8 hr8 hlt8 hM8 hJ8 hK8 hoc8
              go_wp2_with (first | go_guarded)
              refine wp_region_segsK [([4, 1, 3, 7], 0, 0), ([7, 1], 2, 14), ([1], 1, 0)] (by kernel_rfl) (by kernel_rfl) ?_
              apply segsK_pure
              · intro W
                simp only [runsT, runsF, rep, pick]
                go_wp2_with fail
                exact ⟨rfl, rfl⟩
              simp only [runsT, runsF, rep, left]
              apply segsK_look
              · skip
                simp only [runsT, runsF, rep, pick]
                go_wp2_with fail
                exact ⟨rfl, rfl⟩
              simp only [runsT, runsF, rep, left]
              apply segsK_op
              go_wp2_with fail
              refine ⟨fun h => (by cases h), ?_⟩
              apply segsK_nil
              go_upto_region 12 with fail
              clear g1 f1
              obtain ⟨w9, hw9⟩ : ∃ w9, (w8.setCell ⟨bs, 1, none⟩ (.slice oa8 m oc8)).drew = w9 := ⟨_, rfl⟩
              rw [hw9]
              have HC9 := Lib.hid (show Chg (· = bs) w8 w9 by rw [← hw9]; exact (Chg.set _ _ _ _).drew)
              have HB9 := Lib.hid (show Blk w9 bs #[.slice (some ⟨lb, loff, none⟩) n lcap, .slice oa8 m oc8, _] 47 by rw [← hw9]; exact (Blk.set HB8.out 1 _ rfl).ext (Ext.drew _))
              clear hw9
              go_wp2_with (first | go_guarded)
              go_roundg (n - (j + 1))
              case measure => omega
              case rel =>
                refine ⟨j + 1, by go_num, by omega, Lib.hid ?_, Nat.le_refl _⟩
                have hy := lnsTo_yes HNX.out (k := k)
                rw [HX.out] at hy
                have h0 := HR.out.lt
                have h3 := HG8.out.1
                have hk9 := Kq.of_blk HB8.out HC9.out
                refine ⟨by rw [hy, List.length_append]; omega, ⟨oa8, oc8, ?_, by rw [HLn.out]; exact by have h := HR8.out; rw [HLn.out] at h; exact h.chg HC9.out (Off.one HB8.out (by decide)), hbs⟩, isMap_kq hk9 (isMap_kq HG8.out.2.2 HMB.out), ?_, (HKQ.out.trans HG8.out.2.2).trans hk9⟩
                · have h := HB9.out
                  rw [hy, List.length_append, HLn.out]
                  rwa [show (((L - (lnsTo T k o s j).length : Nat) : Int) - ((lns T k (o ++ [j]) (afterS s x)).length : Int)) = ((L - ((lnsTo T k o s j).length + (lns T k (o ++ [j]) (afterS s x)).length) : Nat) : Int) by omega] at h
                · rw [hy, ← List.append_assoc]
                  exact HA.out.j _ _ _ HG8.out.2.1 (HC9.out.mono (fun k hk => by omega))
            · obtain ⟨oa8, oc8, hb8, hr8, -⟩ := hS8
              obtain ⟨b8, -, hoc8, -, -⟩ := row_vi hr8
              rw [HL7.out] at hb8 hr8 hoc8
              have bc8 : m ≤ oc8 := by omega
              have bc8' : (m : Int) ≤ (oc8 : Int) := by omega
              have HB8 := Lib.hid hb8
              have HR8 := Lib.hid (row_cut hr8)
              have HG8 := Lib.hid hend
              have g1 := (hb8.ext (Ext.drew _)).cell (i := 1) rfl
              have f1 := (hb8.ext (Ext.drew _)).frozen 1
              clear hb8 hr8 hend hoc8
              go_wp2_with (first | go_guarded)
              refine wp_region_segsK [([4, 1, 3, 7], 0, 0), ([7, 1], 2, 14), ([1], 1, 0)] (by kernel_rfl) (by kernel_rfl) ?_
              apply segsK_pure
              · intro W
                simp only [runsT, runsF, rep, pick]
                go_wp2_with fail
                exact ⟨rfl, rfl⟩
              simp only [runsT, runsF, rep, left]
              apply segsK_look
              · skip
                simp only [runsT, runsF, rep, pick]
                go_wp2_with fail
                exact ⟨rfl, rfl⟩
              simp only [runsT, runsF, rep, left]
              apply segsK_op
              go_wp2_with fail
              refine ⟨fun h => (by cases h), ?_⟩
              apply segsK_nil
              go_upto_region 12 with fail
              clear g1 f1
              obtain ⟨w9, hw9⟩ : ∃ w9, (w8.setCell ⟨bs, 1, none⟩ (.slice oa8 m oc8)).drew = w9 := ⟨_, rfl⟩
              rw [hw9]
              have HC9 := Lib.hid (show Chg (· = bs) w8 w9 by rw [← hw9]; exact (Chg.set _ _ _ _).drew)
              have HB9 := Lib.hid (show Blk w9 bs #[.slice (some ⟨lb, loff, none⟩) n lcap, .slice oa8 m oc8, _] 47 by rw [← hw9]; exact (Blk.set HB8.out 1 _ rfl).ext (Ext.drew _))
              clear hw9
              go_wp2_with (first | go_guarded)
              go_ret
              have hy := lnsTo_yes HNX.out (k := k)
              rw [HX.out] at hy
              have hpre := lnsTo_pre T k o s (j := j + 1) (by rw [HT.out]; omega)
              rw [hy] at hpre
              have h0 := HR.out.lt
              refine .inr ⟨rfl, ⟨lf, oa8, oc8, by rw [HLn.out]; exact HB9.out, by rw [HLn.out]; have h := HR8.out; rw [HLn.out] at h; exact h.chg HC9.out (Off.one HB8.out (by decide)), hbs⟩, ?_⟩
              rcases HG8.out with ⟨q, c8, g1, g2, g3, g4, g5⟩ | ⟨g1, g2⟩
              · refine .inl ⟨lnsTo T k o s j ++ q, c8, g1, (pre_app g2).trans hpre, by rw [List.length_append]; omega, by simp [g4], ?_⟩
                rw [← List.append_assoc]
                exact HA.out.jx _ _ _ _ g5 (HC9.out.mono (fun k hk => by omega))
              · refine .inr ⟨by have := hpre.length_le; rw [List.length_append] at this; omega, ?_⟩
                rw [take_pre hpre (by omega) g1, ← List.append_assoc]
                exact HA.out.j _ _ _ g2 (HC9.out.mono (fun k hk => by omega))
      · obtain rfl : j = n := by omega
        have d0 : decide (j < j) = false := decide_eq_false (by omega)
        go_wp2_with fail
        go_ret
        have hk := HR.out
        have e1 : lnsTo T k o s j = lns T (k + 1) o s := by rw [lns_all, HT.out]
        refine .inl ⟨rfl, by rw [← e1]; exact hk.lt, ?_, hk.mp, by rw [← e1]; exact hk.jj, hk.kq⟩
        have h3 := hk.sk
        have h4 := hk.lt
        rw [e1] at h3 h4
        rwa [show ((L - (lns T (k + 1) o s).length : Nat) : Int) = (L : Int) - ((lns T (k + 1) o s).length : Int) by omega] at h3
end Go.Proofs.Ytdfbfcglacalmaa.Hs
end

section
namespace Go.Seg
open Go.RowKit

/-- How a region is walked: quiet ones by runs; the one at a place of what is left, or another; no other. -/
inductive TreeF where
  | done
  | quiet (m : List Nat) (t : TreeF)
  | alt (p : Nat) (f : Bool) (t u : TreeF)
  | stop

/-- No looks. -/
def TreeF.noq : TreeF → Bool
  | .done => true
  | .quiet _ _ => false
  | .alt _ _ t u => t.noq && u.noq
  | .stop => true
def Cls (C : World → Prop) (f : Bool) (w : World) : Prop := f = false → C w

def SegsF (P : Program) (ops : Array Oper) (Q : Exit → Act → World → Prop) (C : World → Prop) : TreeF → List Oper → Act → World → Prop
  | .done, _, a, w => Q .normal a w
  | .quiet m t, l, a, w => ∃ aE, (∀ W, C W → wpList P ops (QEnd aE W) (pick (runsT m) l) a W) ∧ SegsF P ops Q C t (left (runsT m) l) aE w
  | .alt p f t u, l, a, w => (match l[p]? with | none => False | some o => wpList P ops (CEnd (Cls C f) (SegsF P ops Q C t (l.eraseIdx p))) [o] a w) ∧ SegsF P ops Q C u l a w
  | .stop, _, _, _ => True

def tailOk (md : Region.Mode) (ops : Array Oper) (n : Nat) (q : List Nat) : Bool := q.all fun i => (List.range ops.size).all fun j => decide (j < n) || anc md ops 12 j i
def okF (P : Program) (kind : Program → Oper → Bool) (md : Region.Mode) (ops : Array Oper) (n : Nat) : TreeF → List Nat → Array Bool → Option (List Nat) → Bool
  | .done, l, listed, rs => rs.isNone && l.isEmpty && (Region.ready md ops listed).isEmpty
  | .quiet m t, l, listed, rs => rs.isNone && okQuiet P kind md ops n (pick (runsT m) l) listed && tailOk md ops n (pick (runsT m) l) && okF P kind md ops n t (left (runsT m) l) (mark listed (pick (runsT m) l)) none
  | .alt p f t u, l, listed, rs =>
    match rs.getD (Region.ready md ops listed) with
    | [] => false
    | r :: rs' => l[p]? == some r && (!f || (decide (n ≤ r) && t.noq)) && okF P kind md ops n t (l.eraseIdx p) (listed.setIfInBounds r true) none && okF P kind md ops n u l listed (some rs')
  | .stop, _, _, rs => rs == some []

section
variable {P : Program} {ops : Array Oper} {Q : Exit → Act → World → Prop} {md : Region.Mode} {kind : Program → Oper → Bool} {C : World → Prop}

theorem wpAnyT_of_F (hkind : ∀ o, kind P o = true → Quiet P o) (hs : Region.noSelect ops = true) (hQ : ∀ c a a' w, Q (.panic c) a w → Q (.panic c) a' w) (n : Nat) (get : Nat → Oper) :
    ∀ (t : TreeF) (l : List Nat) (listed : Array Bool) (a : Act) (w : World), (t.noq = false → C w) → Closed md ops listed → (∀ i ∈ l, ops[i]? = some (get i)) → dstsOk ops a.tmps.size = true → SegsF P ops Q C t (l.map get) a w →
      (okF P kind md ops n t l listed none = true → wpAnyT P md ops Q n C l.length listed a w) ∧
      (∀ rs, okF P kind md ops n t l listed (some rs) = true → (∀ i ∈ rs, i ∈ Region.ready md ops listed) → ∀ i ∈ rs, wpOp P ops Q i (fun a' w' => (i < n → C w') ∧ wpAnyT P md ops Q n C (l.length - 1) (listed.setIfInBounds i true) a' w') a w ∧ 0 < l.length)
  | .done, l, listed, a, w, _, _, _, _, h => by
    refine ⟨fun hok => ?_, fun rs hok => ?_⟩
    · simp only [okF, Bool.and_eq_true, List.isEmpty_iff] at hok
      obtain ⟨⟨_, rfl⟩, hr⟩ := hok
      exact ⟨hr, h⟩
    · simp [okF] at hok
  | .quiet m t, l, listed, a, w, hC, hcl, hget, hd, h => by
    refine ⟨fun hok => ?_, fun rs hok => ?_⟩
    · simp only [okF, Bool.and_eq_true] at hok
      obtain ⟨⟨⟨_, hq⟩, htl⟩, hrest⟩ := hok
      obtain ⟨aE, hw, hk⟩ := h
      rw [left_map] at hk
      rw [← pick_left_length (runsT m) l, Nat.add_comm]
      refine wpAnyTK_quiets hkind hs hQ (hC rfl) (aE := aE) (L0 := fun _ => False) get _ _ _ _ (fun _ h => h.elim) hcl (fun i hi => hget i (pick_mem _ _ _ hi))
        (fun i hi j o ho hj => by
          unfold tailOk at htl
          rw [List.all_eq_true] at htl
          have h1 := htl i hi
          rw [List.all_eq_true] at h1
          have h2 := h1 j (List.mem_range.2 (Array.getElem?_eq_some_iff.1 ho).1)
          rw [Bool.or_eq_true, decide_eq_true_eq] at h2
          rcases h2 with h2 | h2
          · omega
          · exact .inr h2) hq hd (fun W hW => by rw [← pick_map]; exact hw W hW) fun hsz hcl2 => ?_
      exact (wpAnyT_of_F hkind hs hQ n get t (left (runsT m) l) _ _ _ (fun _ => hC rfl) hcl2 (fun i hi => hget i (left_mem _ _ _ hi)) (by rw [hsz]; exact hd) hk).1 hrest
    · simp [okF] at hok
  | .alt p f t u, l, listed, a, w, hC, hcl, hget, hd, h => by
    have key : ∀ (r : Nat) (rs' : List Nat), l[p]? = some r → (!f || (decide (n ≤ r) && t.noq)) = true → okF P kind md ops n t (l.eraseIdx p) (listed.setIfInBounds r true) none = true → okF P kind md ops n u l listed (some rs') = true → (∀ i ∈ r :: rs', i ∈ Region.ready md ops listed) →
        ∀ i ∈ r :: rs', wpOp P ops Q i (fun a' w' => (i < n → C w') ∧ wpAnyT P md ops Q n C (l.length - 1) (listed.setIfInBounds i true) a' w') a w ∧ 0 < l.length := by
      intro r rs' hp hf h1 h2 hrs i hi
      obtain ⟨h3, h4⟩ := h
      have hpl : p < l.length := (List.getElem?_eq_some_iff.1 hp).1
      rcases List.mem_cons.1 hi with rfl | hi
      · have hm : (l.map get)[p]? = some (get i) := by rw [List.getElem?_map, hp]; rfl
        rw [hm] at h3
        have hil : i ∈ l := List.mem_of_getElem? hp
        refine ⟨wpOp_of_oneC (hget i hil) (fun a' w' hs' hc hk' => ⟨fun hin => hc (by
          cases f with
          | false => rfl
          | true => simp only [Bool.not_true, Bool.false_or, Bool.and_eq_true, decide_eq_true_eq] at hf; omega), ?_⟩) h3, by omega⟩
        have e1 : l.length - 1 = (l.eraseIdx p).length := by rw [List.length_eraseIdx, if_pos hpl]
        rw [e1]
        have e2 : (l.map get).eraseIdx p = (l.eraseIdx p).map get := by simp [List.eraseIdx_eq_take_drop_succ, List.map_take, List.map_drop]
        rw [e2] at hk'
        exact (wpAnyT_of_F hkind hs hQ n get t (l.eraseIdx p) _ a' w' (fun hn => hc (by
          cases f with
          | false => rfl
          | true => simp only [Bool.not_true, Bool.false_or, Bool.and_eq_true, decide_eq_true_eq] at hf; rw [hf.2] at hn; cases hn)) (hcl.set (hrs i (by simp))) (fun j hj => hget j ((List.eraseIdx_sublist _ _).subset hj)) (by rw [hs']; exact hd) hk').1 h1
      · exact (wpAnyT_of_F hkind hs hQ n get u l listed a w (fun hn => hC (by show (t.noq && u.noq) = false; rw [hn, Bool.and_false])) hcl hget hd h4).2 rs' h2 (fun j hj => hrs j (List.mem_cons_of_mem _ hj)) i hi
    refine ⟨fun hok => ?_, fun rs hok hrs i hi => ?_⟩
    · simp only [okF, Option.getD_none] at hok
      cases hr : Region.ready md ops listed with
      | nil => rw [hr] at hok; cases hok
      | cons r rs' =>
        rw [hr] at hok
        simp only [Bool.and_eq_true, beq_iff_eq] at hok
        have hk := key r rs' hok.1.1.1 hok.1.1.2 hok.1.2 hok.2 (fun i hi => by rw [hr]; exact hi)
        have hl := (hk r (by simp)).2
        obtain ⟨n', hn⟩ : ∃ n', l.length = n' + 1 := ⟨l.length - 1, by omega⟩
        rw [hn] at hk ⊢
        exact ⟨fun h0 => (by rw [hr] at h0; cases h0), fun i hi => (hk i (by rw [hr] at hi; exact hi)).1⟩
    · simp only [okF, Option.getD_some] at hok
      cases rs with
      | nil => cases hi
      | cons r rs' =>
        simp only [Bool.and_eq_true, beq_iff_eq] at hok
        exact key r rs' hok.1.1.1 hok.1.1.2 hok.1.2 hok.2 hrs i hi
  | .stop, l, listed, a, w, _, _, _, _, _ => by
    refine ⟨fun hok => (by simp [okF] at hok), fun rs hok hrs i hi => ?_⟩
    simp [okF] at hok
    subst hok
    cases hi
end

theorem segsF_np {P : Program} {ops : Array Oper} {Q : Exit → Act → World → Prop} {C : World → Prop} : ∀ (t : TreeF) (l' : List Oper) (a : Act) (w : World), SegsF P ops Q C t l' a w → SegsF P ops (NP Q) C t l' a w
  | .done, _, _, _, h => h
  | .quiet m t, l', a, w, h => by
    obtain ⟨aE, h1, h2⟩ := h
    exact ⟨aE, h1, segsF_np t _ _ _ h2⟩
  | .stop, _, _, _, _ => trivial
  | .alt p f t u, l', a, w, h => by
    obtain ⟨h1, h3⟩ := h
    refine ⟨?_, segsF_np u _ _ _ h3⟩
    cases hp : l'[p]? with
    | none => rw [hp] at h1; exact h1
    | some o =>
      rw [hp] at h1
      dsimp only at h1 ⊢
      unfold wpList at h1 ⊢
      split
      · rename_i hw
        simp only [hw, if_true] at h1
        rcases h1 with h2 | ⟨_, h2⟩
        · exact .inl (upon_mono2 (fun a' w' _ hk => ⟨hk.1, segsF_np t _ _ _ hk.2⟩) (fun e a w he hq => by cases e <;> first | exact absurd rfl he | exact hq.elim) h2)
        · exact (letsOut_CEnd h2).elim
      · rename_i hw
        simp only [hw] at h1
        exact ⟨h1.1, segsF_np t _ _ _ h1.2⟩

def okRegionF (P : Program) (ops : Array Oper) (n : Nat) (t : TreeF) (size : Nat) : Bool :=
  Region.noSelect ops && dstsOk ops size && okF P kind .any ops n t (List.range ops.size) (Array.replicate ops.size false) none

theorem wp_region_segsF {P : Program} {id : Nat} {l : List Oper} {Q : Exit → Act → World → Prop} {a : Act} {w : World} (C : World → Prop) (n : Nat) (t : TreeF) (hm : P.follows .mixedOrders = true)
    (hB : okRegionF P l.toArray n t a.tmps.size = true) (hC : C w.drew) (h : SegsF P l.toArray Q C t l a w.drew) : (Code.region id l.toArray true).wp P Q a w := by
  simp only [okRegionF, Bool.and_eq_true] at hB
  obtain ⟨⟨h1, h3⟩, h4⟩ := hB
  refine Code.wp_mono (Q := NP Q) (fun e a w h => by cases e <;> first | exact h | exact h.elim) ?_
  refine wp_region_any hm ?_
  have hl : (List.range l.toArray.size).map (fun i => l.toArray.getD i default) = l := by
    apply List.ext_getElem
    · simp
    · intro i h1 h2
      simp at h1
      simp [h1]
  refine wpAny_of_T (n := n) (C := C) _ _ _ _ ?_
  have := (wpAnyT_of_F (P := P) (ops := l.toArray) (md := .any) (Q := NP Q) (C := C) (kind := kind) kind_quiet h1 (fun c a a' w hq => hq.elim) n (fun i => l.toArray.getD i default) t (List.range l.toArray.size) (Array.replicate l.toArray.size false) a w.drew (fun _ => hC)
    (fun j o ho hl => by
      have h' : (Array.replicate l.toArray.size false).getD j false = false := by simp [Array.getD]
      rw [h'] at hl
      cases hl) (fun i hi => by
      have hi' : i < l.length := by simpa using hi
      simp [hi']) h3 (by rw [hl]; exact segsF_np t l a _ h)).1 h4
  simpa using this

theorem segF_quiet {P : Program} {ops : Array Oper} {Q : Exit → Act → World → Prop} {C : World → Prop} {m : List Nat} {t : TreeF} {l : List Oper} {a aE : Act} {w : World} (h1 : ∀ W, C W → wpList P ops (QEnd aE W) (pick (runsT m) l) a W)
    (h2 : SegsF P ops Q C t (left (runsT m) l) aE w) : SegsF P ops Q C (.quiet m t) l a w := ⟨aE, h1, h2⟩
theorem segF_alt {P : Program} {ops : Array Oper} {Q : Exit → Act → World → Prop} {C : World → Prop} {p : Nat} {f : Bool} {t u : TreeF} {l : List Oper} {a : Act} {w : World} (o : Oper) (hp : l[p]? = some o)
    (h1 : wpList P ops (CEnd (Cls C f) (SegsF P ops Q C t (l.eraseIdx p))) [o] a w) (h2 : SegsF P ops Q C u l a w) : SegsF P ops Q C (.alt p f t u) l a w := by
  refine ⟨?_, h2⟩
  rw [hp]
  exact h1
theorem segF_stop {P : Program} {ops : Array Oper} {Q : Exit → Act → World → Prop} {C : World → Prop} {l : List Oper} {a : Act} {w : World} : SegsF P ops Q C .stop l a w := trivial
theorem segF_done {P : Program} {ops : Array Oper} {Q : Exit → Act → World → Prop} {C : World → Prop} {l : List Oper} {a : Act} {w : World} (h : Q .normal a w) : SegsF P ops Q C .done l a w := h
end Go.Seg
end

section
namespace Go.Proofs.Ytdfbfcglacalmaa.Hs
open Go.RowKit Go.Seg Go.Open Go.Lib Go.Arr Go.Stab Go.Row Lo

theorem anyDepth' {F : Fence} (hd : F.depth = none) {m : Nat} (m' : Nat) {P : Program} {l : Nat} {args : Array Value} {W : World} {R : Ending → World → Prop} (h : YieldAt F m P l args W R) : YieldAt F m' P l args W R := by
  obtain ⟨fn, tmps, assign, body, hy, hR⟩ := h
  exact ⟨fn, tmps, assign, body, hy, hR.1, fun c cs _ => hR.2 c cs (fun d h => by rw [hd] at h; cases h)⟩
theorem YieldAt.weak {F : Fence} {m : Nat} {P : Program} {l : Nat} {args : Array Value} {W : World} {R R' : Ending → World → Prop} (h : YieldAt F m P l args W R) (k : ∀ e w, R e w → R' e w) : YieldAt F m P l args W R' := by
  obtain ⟨fn, tmps, assign, body, hy, hR⟩ := h
  exact ⟨fn, tmps, assign, body, hy, hR.mono k⟩
/-- The lines that are told. -/
def told (T : List C) (L : Nat) : List (List Nat) := if T.length ≤ 7 then (lns T T.length [] s0).take L else []
/-- What a search hands on. -/
def HdL (x : List Nat) (args : Array Value) (c : Nat) (W : World) : Prop := ∃ v, args = #[v] ∧ RowG RI encI W c v x
/-- What a search asks of a body besides. -/
def KpL (lb n : Nat) (W W' : World) : Prop := Kq W W' ∧ (0 < n → ∀ o, W.heap[lb]? = some o → W'.heap[lb]? = some o)
/-- What stands at the end of a search. -/
def Seen (J : List (List Nat) → World → Prop) (Jx : Nat → List (List Nat) → World → Prop) (B : Nat) (all : List (List Nat)) (e : Ending) (W' : World) : Prop :=
  (∃ v, e = .returned v) ∧ ((∃ xs, xs = all ∧ J xs W') ∨ (∃ pre c, B ≤ c ∧ pre <+: all ∧ Jx c pre W'))
theorem went_seen {T : List C} {B bs : Nat} {la : Option Addr} {n lcap bm : Nat} {J : List (List Nat) → World → Prop} {Jx : Nat → List (List Nat) → World → Prop} {L : Nat} {W : World} {e : Ending} {W' : World} (hT : T.length ≤ 7) (hbs : B ≤ bs) (h : Went T B bs la n lcap bm J Jx T.length [] s0 [] L W e W') :
    Seen J Jx B (told T L) e W' := by
  unfold told
  rw [if_pos hT]
  rcases h with ⟨rfl, h1, -, -, h2, -⟩ | ⟨rfl, -, ⟨q, c, h1, h2, h3, h4, h5⟩ | ⟨h1, h2⟩⟩
  · refine ⟨⟨_, rfl⟩, .inl ⟨_, rfl, ?_⟩⟩
    rw [List.take_of_length_le (by omega)]
    simpa using h2
  · refine ⟨⟨_, rfl⟩, .inr ⟨q, c, by omega, ?_, by simpa using h5⟩⟩
    rw [List.prefix_take_iff]
    exact ⟨h2, h3⟩
  · exact ⟨⟨_, rfl⟩, .inl ⟨_, rfl, by simpa using h2⟩⟩
set_option maxRecDepth 100000 in
set_option maxHeartbeats 4000000 in
theorem lines1_any (T : List C) (lb loff : Nat) (la : Option Addr) (n lcap l b1 b2 L : Nat) (J : List (List Nat) → World → Prop) (Jx : Nat → List (List Nat) → World → Prop) (W : World) (hA : Asks T W.heap.size lb loff la n l J Jx (fun s => s <+: told T L))
    (hT : T.length = n) (hn : n ≤ 60) (hL : L ≤ 1000) (h0 : J [] W) (c1 : W.cell? ⟨b1, 0, none⟩ = some (.slice la n lcap)) (c2 : W.cell? ⟨b2, 0, none⟩ = some (.int .i64 (L : Int))) :
    Calls Try.prog 19 #[.func (.yield l) #[] #[], .pointer (some ⟨b1, 0, none⟩), .pointer (some ⟨b2, 0, none⟩)] W (Seen J Jx W.heap.size (told T L)) := by
  have HA := Lib.hid hA
  have HT := Lib.hid hT
  have HJ := Lib.hid h0
  clear hA hT h0
  by_cases h7 : n ≤ 7
  · by_cases hl0 : L = 0
    · have d0 : decide (n ≤ 7) = true := decide_eq_true h7
      have d0' : decide ((n : Int) ≤ 7) = true := decide_eq_true (by omega)
      have d1 : decide (0 < L) = false := decide_eq_false (by omega)
      have d1' : decide (0 < (L : Int)) = false := decide_eq_false (by omega)
      have HL := Lib.hid hl0
      clear hl0
      go_enter Try.func19, Try.ntmps19
      go_wp2_with (first | go_guarded)
      go_end0
      refine ⟨⟨_, rfl⟩, .inl ⟨[], ?_, HJ.out⟩⟩
      unfold told
      rw [HL.out, List.take_zero, ite_self]
    · have d0 : decide (n ≤ 7) = true := decide_eq_true h7
      have d0' : decide ((n : Int) ≤ 7) = true := decide_eq_true (by omega)
      have d1 : decide (0 < L) = true := decide_eq_true (by omega)
      have d1' : decide (0 < (L : Int)) = true := decide_eq_true (by omega)
      have HC := Lib.hid (And.intro c1 c2)
      have HL := Lib.hid (show 1 ≤ L by omega)
      clear hl0
      go_enter Try.func19, Try.ntmps19
      go_upto_region 1 with (first | go_guarded)
      clear c1 c2
      refine wp_region_segsF (Ext W) 6 (.quiet [3, 2, 1, 1] (.alt 0 false (.alt 0 false (.alt 0 true .done .stop) .stop) (.alt 1 false (.alt 0 false (.alt 0 true .done .stop) .stop) .stop))) (by kernel_rfl) (by kernel_rfl) (Ext.drew _) ?_
      apply segF_quiet
      · intro W hW
        have c1 := (hW.cell (World.block_lt_of_cell? _ _ HC.out.1)).trans HC.out.1
        have c2 := (hW.cell (World.block_lt_of_cell? _ _ HC.out.2)).trans HC.out.2
        simp only [runsT, runsF, rep, pick]
        go_wp2_with fail
        exact ⟨rfl, rfl⟩
      simp only [runsT, runsF, rep, left]
      refine segF_alt _ rfl ?_ ?_
      · skip
        go_wp2_with fail
        obtain ⟨w3, hw3⟩ : ∃ w3, (W.alloc (.cells #[.slice la n lcap, .slice none 0 0, .int .i64 (L : Int)] 47)).drew = w3 := ⟨_, rfl⟩
        have HE3 : Hid (Ext W w3) := Lib.hid (by rw [← hw3]; exact (ext_alloc _ _).trans (Ext.drew _))
        have HB3 := Lib.hid (show Blk w3 W.heap.size #[.slice la n lcap, .slice none 0 0, .int .i64 (L : Int)] 47 ∧ W.heap.size ≤ W.heap.size by rw [← hw3]; exact ⟨(Blk.new W _ _).ext (Ext.drew _), Nat.le_refl _⟩)
        rw [hw3]
        clear hw3
        refine ⟨fun _ => HE3.out, ?_⟩
        try dsimp only [List.eraseIdx]
        refine segF_alt _ rfl ?_ ?_
        · skip
          go_wp2_with fail
          refine (New_map _).mono ?_
          rintro e w4 ⟨bm, rfl, -, hM, hE⟩
          have HM4 := Lib.hid hM
          have HX4 := Lib.hid hE
          have HE4 := Lib.hid (HE3.out.trans hE)
          clear hM hE
          go_wp2_with fail
          refine ⟨fun _ => HE4.out, ?_⟩
          try dsimp only [List.eraseIdx]
          refine segF_alt _ rfl ?_ ?_
          · skip
            go_wp2_with fail
            refine (go1_any T W.heap.size _ lb loff la n lcap l J Jx _ HA.out hn HT.out T.length [] s0 [] L bm w4 (by rw [HT.out]; simp) (by simp [s0, Rk.T.sz]) ⟨none, 0, (HB3.out.1.ext HX4.out), RowG.nil _ _, HB3.out.2⟩ HM4.out (HA.out.j _ _ _ HJ.out (Chg.of_below HE4.out)) HL.out hL (fun q hq hql _ => by
              unfold told
              rw [if_pos (by rw [HT.out]; exact h7), List.prefix_take_iff, List.nil_append]
              exact ⟨hq, hql⟩)).mono ?_
            intro e w5 hwent
            have HW5 := Lib.hid (went_seen (by rw [HT.out]; exact h7) HB3.out.2 hwent)
            obtain ⟨v5, rfl⟩ := HW5.out.1
            clear hwent
            go_wp2_with fail
            refine ⟨fun h => (by cases h), ?_⟩
            try dsimp only [List.eraseIdx]
            apply segF_done
            go_wp2_with fail
            go_end0
            exact ⟨⟨_, rfl⟩, HW5.out.2⟩
          exact segF_stop
        exact segF_stop
      refine segF_alt _ rfl ?_ ?_
      · skip
        go_wp2_with fail
        refine (New_map _).mono ?_
        rintro e w4 ⟨bm, rfl, -, hM, hE⟩
        have HM4 := Lib.hid hM
        have HX4 := Lib.hid hE
        have HE4 := Lib.hid ((Ext.drew W).trans hE)
        clear hM hE
        go_wp2_with fail
        refine ⟨fun _ => HE4.out, ?_⟩
        try dsimp only [List.eraseIdx]
        refine segF_alt _ rfl ?_ ?_
        · skip
          go_wp2_with fail
          obtain ⟨w3, hw3⟩ : ∃ w3, w4.alloc (.cells #[.slice la n lcap, .slice none 0 0, .int .i64 (L : Int)] 47) = w3 := ⟨_, rfl⟩
          have HX3 : Hid (Ext w4 w3) := Lib.hid (by rw [← hw3]; exact (Below.refl _ _).alloc (Nat.le_refl _) _)
          have HE3 : Hid (Ext W w3) := Lib.hid (HE4.out.trans HX3.out)
          have HB3 := Lib.hid (show Blk w3 w4.heap.size #[.slice la n lcap, .slice none 0 0, .int .i64 (L : Int)] 47 ∧ W.heap.size ≤ w4.heap.size by rw [← hw3]; exact ⟨Blk.new w4 _ _, HE4.out.size⟩)
          rw [hw3]
          clear hw3
          refine ⟨fun _ => HE3.out, ?_⟩
          try dsimp only [List.eraseIdx]
          refine segF_alt _ rfl ?_ ?_
          · skip
            go_wp2_with fail
            refine (go1_any T W.heap.size _ lb loff la n lcap l J Jx _ HA.out hn HT.out T.length [] s0 [] L bm w3 (by rw [HT.out]; simp) (by simp [s0, Rk.T.sz]) ⟨none, 0, HB3.out.1, RowG.nil _ _, HB3.out.2⟩ (HM4.out.ext HX3.out) (HA.out.j _ _ _ HJ.out (Chg.of_below HE3.out)) HL.out hL (fun q hq hql _ => by
              unfold told
              rw [if_pos (by rw [HT.out]; exact h7), List.prefix_take_iff, List.nil_append]
              exact ⟨hq, hql⟩)).mono ?_
            intro e w5 hwent
            have HW5 := Lib.hid (went_seen (by rw [HT.out]; exact h7) HB3.out.2 hwent)
            obtain ⟨v5, rfl⟩ := HW5.out.1
            clear hwent
            go_wp2_with fail
            refine ⟨fun h => (by cases h), ?_⟩
            try dsimp only [List.eraseIdx]
            apply segF_done
            go_wp2_with fail
            go_end0
            exact ⟨⟨_, rfl⟩, HW5.out.2⟩
          exact segF_stop
        exact segF_stop
      exact segF_stop
  · have d0 : decide (n ≤ 7) = false := decide_eq_false h7
    have d0' : decide ((n : Int) ≤ 7) = false := decide_eq_false (by omega)
    go_enter Try.func19, Try.ntmps19
    go_wp2_with (first | go_guarded)
    go_end0
    refine ⟨⟨_, rfl⟩, .inl ⟨[], ?_, HJ.out⟩⟩
    unfold told
    rw [if_neg (by rw [HT.out]; exact h7)]
end Go.Proofs.Ytdfbfcglacalmaa.Hs
end

section
namespace Go.Proofs.Ytdfbfcglacalmaa.Hs
open Go.RowKit Go.Seg Go.Open Go.Lib Go.Arr Go.Stab Go.Row Lo Go.Shelf
attribute [local go_sem] Oper.semAt_some

theorem VC.keep {w w' : World} {a : Option Addr} {n b off : Nat} {T : List C} (h : VC w a n b off T) (hk : 0 < n → ∀ o, w.heap[b]? = some o → w'.heap[b]? = some o) : VC w' a n b off T := by
  refine ⟨h.len, h.ad, fun W hW i hi j hj => ?_⟩
  have h0 : 0 < n := by have := h.len; omega
  have hb := h.lt h0
  have ho := Array.getElem?_eq_getElem hb
  have h1 := hk h0 _ ho
  rw [← h.cells w (Ext.refl _) i hi j hj]
  have h2 : W.heap[b]? = w.heap[b]? := by rw [hW.block b (Array.getElem?_eq_some_iff.1 h1).1, h1, ho]
  exact World.cell?_of_block h2
theorem lines_seq (N : Nat) (T : List C) (lb loff : Nat) (la : Option Addr) (n lcap b1 b2 L : Nat) (w : World) (hV : VC w la n lb loff T) (hn : n ≤ 60) (hL : L ≤ 1000) (c1 : w.cell? ⟨b1, 0, none⟩ = some (.slice la n lcap)) (c2 : w.cell? ⟨b2, 0, none⟩ = some (.int .i64 (L : Int))) :
    SeqB N Try.prog 19 #[.pointer (some ⟨b1, 0, none⟩), .pointer (some ⟨b2, 0, none⟩)] (fun v : Value => #[v]) (fun x v c W => RowG RI encI W c v x) (KpL lb n) (fun xs => xs = told T L) (fun pre => pre <+: told T L) w := by
  intro l J Jx W hW hJ hJx hY h0
  refine callsIn_wide.2 ?_
  have hlb : 0 < n → lb < W.heap.size := fun h => Nat.lt_of_lt_of_le (hV.lt h) hW.size
  refine (lines1_any T lb loff la n lcap l b1 b2 L (fun s A => J s A ∧ VC A la n lb loff T) Jx W ⟨fun s A h => h.2, fun s A A' h hc => ⟨hJ s A A' h.1 hc, h.2.chg hc (fun hp => by have := hlb hp; omega)⟩, hJx, fun m pre x v c W1 hj hr hc hsp => ?_⟩ hV.len hn hL ⟨h0, hV.ext hW⟩
    ((hW.cell (World.block_lt_of_cell? _ _ c1)).trans c1) ((hW.cell (World.block_lt_of_cell? _ _ c2)).trans c2)).mono ?_
  · refine anyDepth' rfl m (YieldAt.weak (hY pre x v c W1 hj.1 hr hc hsp) ?_)
    rintro e W' ⟨h1, h2, (⟨rfl, h3⟩ | ⟨rfl, h3⟩)⟩
    · exact ⟨h1, h2.1, .inl ⟨rfl, h3, hj.2.keep h2.2⟩⟩
    · exact ⟨h1, h2.1, .inr ⟨rfl, h3⟩⟩
  · rintro e W' ⟨h1, ⟨xs, h2, h3, -⟩ | ⟨pre, c, h2, h3, h4⟩⟩
    · exact ⟨h1, .inl ⟨xs, h2, h3⟩⟩
    · exact ⟨h1, .inr ⟨pre, c, h2, h3, h4⟩⟩
theorem Lines_any (la : Option Addr) (n lcap : Nat) (L : Int) (w : World) : Calls Try.prog 11 #[.slice la n lcap, .int .i64 L] w fun e w' => (∃ b1 b2, e = .returned (.func (.func 19) #[] #[.pointer (some ⟨b1, 0, none⟩), .pointer (some ⟨b2, 0, none⟩)]) ∧ w'.cell? ⟨b1, 0, none⟩ = some (.slice la n lcap) ∧ w'.cell? ⟨b2, 0, none⟩ = some (.int .i64 L)) ∧ Ext w w' := by
  have hE : Ext w ((w.alloc (.cells #[.slice la n lcap] 22)).alloc (.cells #[.int .i64 L] 3)) := (ext_alloc _ _).trans (ext_alloc _ _)
  have h1 : Blk ((w.alloc (.cells #[.slice la n lcap] 22)).alloc (.cells #[.int .i64 L] 3)) w.heap.size #[.slice la n lcap] 22 := (Blk.new w _ _).al _
  have h2 : Blk ((w.alloc (.cells #[.slice la n lcap] 22)).alloc (.cells #[.int .i64 L] 3)) (w.heap.size + 1) #[.int .i64 L] 3 := blk_at (by simp)
  have H := Lib.hid (And.intro hE (And.intro (h1.cell (i := 0) rfl) (h2.cell (i := 0) rfl)))
  clear hE h1 h2
  go_enter Try.func11, Try.ntmps11
  go_wp2_with fail
  go_ret
  exact ⟨⟨_, _, rfl, H.out.2.1, H.out.2.2⟩, H.out.1⟩

theorem boxed_chg {S : Nat → Prop} {W W' : World} {b : Nat} {t : TypeId} {v : Value} (h : Boxed W b t v) (hc : Chg S W W') (hS : ¬ S b) : Boxed W' b t v := (hc.block _ h.lt hS).trans h
theorem below_of_chg {S : Nat → Prop} {w a b : World} (h : Below w.heap.size w a) (k : Chg S a b) (hs : ∀ i, S i → w.heap.size ≤ i) : Below w.heap.size w b := below_chg h k hs
theorem boxed_put {W : World} {B D : Nat} {t : TypeId} {v : Value} {o : Obj} (h : Boxed W B t v) (hne : B ≠ D) : Boxed (W.putObj D o) B t v := by
  unfold Boxed
  rw [World.putObj_heap_other hne]
  exact h
/-- What Find's loop keeps: nothing has come; and where it is left. -/
def FnI (w : World) (pre : List (List Nat)) (W : World) : Prop := (pre = [] ∧ Boxed W w.heap.size 24 (.slice none 0 0) ∧ Boxed W (w.heap.size + 1) 4 (.bool false)) ∧ Below w.heap.size w W
def FnX (w : World) (q : Code) (c : Nat) (pre : List (List Nat)) (W : World) : Prop := (q = .ret ∧ w.heap.size + 2 ≤ c) ∧ ∃ x v, pre = [x] ∧ (Boxed W w.heap.size 24 v ∧ Boxed W (w.heap.size + 1) 4 (.bool true)) ∧ RowG RI encI W c v x ∧ Below w.heap.size w W
/-- What Find tells. -/
def Found (T : List C) (w : World) (e : Ending) (w' : World) : Prop := ∃ v r, e = .returned (.tuple #[v, .bool r]) ∧ ((r = true ∧ ∃ o, [o] <+: told T 1 ∧ RowG RI encI w' w.heap.size v o) ∨ (r = false ∧ v = .slice none 0 0 ∧ told T 1 = [])) ∧ Ext w w'
set_option maxRecDepth 100000 in
set_option maxHeartbeats 4000000 in
theorem Find_any (T : List C) (la : Option Addr) (n lcap lb loff : Nat) (w : World) (hV : VC w la n lb loff T) (hn : n ≤ 60) : Calls Try.prog 6 #[.slice la n lcap] w (Found T w) := by
  have HV := Lib.hid hV
  clear hV
  refine (callsIn_wide (n := 3)).1 ?_
  refine callsIn_of_wp_marks Try.func6 rfl trivial ?_ rfl
  simp only [Try.ntmps6, List.size_toArray, List.length_cons, List.length_nil, Nat.reduceAdd, Nat.reduceSub, Array.replicate_succ, Array.replicate_zero, List.push_toArray, List.append_toArray, List.nil_append, List.cons_append]
  refine wpIn_wide.2 ?_
  go_wp2_with fail
  obtain ⟨W3, hW3⟩ : ∃ W, (w.alloc (.cells #[.slice none 0 0] 24)).alloc (.cells #[.bool false] 4) = W := ⟨_, rfl⟩
  have hE3 : Ext w W3 := by rw [← hW3]; exact (ext_alloc _ _).trans (ext_alloc _ _)
  have hb4 : Boxed W3 w.heap.size 24 (.slice none 0 0) := by rw [← hW3]; exact (Boxed.new w 24 _).alloc _
  have hb5 : Boxed W3 (w.heap.size + 1) 4 (.bool false) := by rw [← hW3]; have := (Boxed.new (w.alloc (.cells #[.slice none 0 0] 24)) 4 (.bool false)); simpa using this
  have HE3 := Lib.hid hE3
  have HB4 := Lib.hid hb4
  have HB5 := Lib.hid hb5
  rw [hW3]
  clear hW3 hE3 hb4 hb5
  refine (Lines_any la n lcap 1 _).mono ?_
  rintro e W4 ⟨⟨b1, b2, rfl, c1, c2⟩, hE4⟩
  have H4 := Lib.hid (show Boxed W4 w.heap.size 24 (.slice none 0 0) ∧ Boxed W4 (w.heap.size + 1) 4 (.bool false) from
    ⟨(hE4.block _ HB4.out.lt).trans HB4.out, (hE4.block _ HB5.out.lt).trans HB5.out⟩)
  have HE4 := Lib.hid (HE3.out.trans hE4)
  have HS := Lib.hid (lines_seq (3 - 1) T lb loff la n lcap b1 b2 1 W4 (HV.out.ext HE4.out) hn (by decide) c1 c2)
  clear c1 c2 hE4
  go_wp2_with fail
  refine wpIn_wide (n := 3).1 ?_
  have hz4 : w.heap.size + 1 < W4.heap.size := H4.out.2.lt
  refine wpIn_range_B (n := 3) (gf := 19) (lb := #[.pointer (some ⟨b1, 0, none⟩), .pointer (some ⟨b2, 0, none⟩)]) rfl (enters_of Try.func19 (by kernel_rfl) rfl)
    HS.out ?hKt ?hKb (Below.refl _ _) (fun _ => rfl) ?hHd (FnI w) (FnX w) ?hI ?hIx ⟨⟨rfl, H4.out⟩, HE4.out⟩ ?hab ?done ?stop
  case hKt => exact fun h k => ⟨h.1.trans k.1, fun hp o ho => k.2 hp o (h.2 hp o ho)⟩
  case hKb =>
    intro W l o o' hl ho hc hw
    have key : ∀ E, Prg.KeepsTy E W (W.putObj l o') := fun E k cs f hk => by
      rw [World.putObj_heap_other (fun e => by subst e; rw [ho] at hk; cases hk; cases hc)]
      exact hk
    refine ⟨⟨key _, key _, key _⟩, fun hp o2 ho2 => ?_⟩
    have hlt := (HV.out.ext HE4.out).lt hp
    rw [World.putObj_heap_other (by omega)]
    exact ho2
  case hHd =>
    intro x v c W l o o' h hl ho hc
    exact row_keep (S := (· = l)) h (chg_putObj _ rfl) (fun k hk => by omega)
  case hI =>
    rintro s A A' ⟨⟨h1, h2, h3⟩, h4⟩ hc
    exact ⟨⟨h1, boxed_chg h2 hc (by omega), boxed_chg h3 hc (by omega)⟩, below_of_chg h4 hc (fun i hi => by omega)⟩
  case hIx =>
    rintro q c s A A' ⟨h0, x, v, h1, ⟨h2, h3⟩, h4, h5⟩ hc
    exact ⟨h0, x, v, h1, ⟨boxed_chg h2 hc (by omega), boxed_chg h3 hc (by omega)⟩, row_keep h4 hc (fun k hk => hk.2), below_of_chg h5 hc (fun i hi => by omega)⟩
  case hab =>
    apply Exists.intro
    refine ⟨?assign, ?body⟩
    case assign =>
      intro l x W K hK
      gi_wp2
      exact hK
    case body =>
      rintro lo pre x v c Wr hlo hlc _ hr ⟨⟨rfl, h4, h5⟩, hB⟩ hpre
      obtain ⟨av, cv, rfl⟩ := hr.val
      have c4 := h4.cell
      have c5 := h5.cell
      have f4 := h4.frozen
      have f5 := h5.frozen
      have H4' := Lib.hid (And.intro h4 h5)
      have HB' := Lib.hid hB
      have HR := Lib.hid hr
      have HLB := Lib.hid (fun hp : 0 < n => HV.out.lt hp)
      clear h4 h5 hB hpre hr
      obtain ⟨xl, hxl⟩ : ∃ xl, x.length = xl := ⟨_, rfl⟩
      rw [hxl]
      have HXL := Lib.hid hxl
      clear hxl
      gi_wp2
      have hc1 : Chg (fun k => k = w.heap.size ∨ k = w.heap.size + 1) Wr ((Wr.setCell ⟨w.heap.size, 0, none⟩ (.slice av xl cv)).setCell ⟨w.heap.size + 1, 0, none⟩ (.bool true)) :=
        ((Chg.refl Wr).setCell (a := ⟨w.heap.size, 0, none⟩) (.inl rfl) _).setCell (a := ⟨w.heap.size + 1, 0, none⟩) (.inr rfl) _
      have off : ∀ E, E ≠ 24 → E ≠ 4 → Off (fun k => k = w.heap.size ∨ k = w.heap.size + 1) Wr E := fun E h1 h2 k hk cs f hh => by
        rcases hk with rfl | rfl
        · rw [show Wr.heap[w.heap.size]? = _ from H4'.out.1] at hh; simp only [Option.some.injEq, Obj.cells.injEq] at hh; exact h1 hh.2.1.symm
        · rw [show Wr.heap[w.heap.size + 1]? = _ from H4'.out.2] at hh; simp only [Option.some.injEq, Obj.cells.injEq] at hh; exact h2 hh.2.1.symm
      refine ⟨HiFrom.of_chg hc1 (fun k hk => by omega), ⟨Kq.of_chg hc1 (off _ (by decide) (by decide)) (off _ (by decide) (by decide)) (off _ (by decide) (by decide)), fun hp o ho => ?_⟩, ⟨rfl, by omega⟩, x, _, rfl, ⟨(H4'.out.1.set (.slice av xl cv)).other (by omega) _, (H4'.out.2.other (by omega) (.slice av xl cv)).set (.bool true)⟩, ?_, below_of_chg HB'.out hc1 (fun i hi => by omega)⟩
      · have := HLB.out hp
        rw [hc1.block lb (Array.getElem?_eq_some_iff.1 ho).1 (by omega)]
        exact ho
      · have h := HR.out
        rw [HXL.out] at h
        exact row_keep h hc1 (fun k hk => by omega)
  case done =>
    rintro D xs W2 hD hxs ⟨⟨hnil, h4, h5⟩, hB⟩ hK
    have hc1 : Chg (fun k => k = w.heap.size ∨ k = w.heap.size + 1) W2 ((W2.setCell ⟨w.heap.size, 0, none⟩ (.slice none 0 0)).setCell ⟨w.heap.size + 1, 0, none⟩ (.bool false)) :=
      ((Chg.refl W2).setCell (a := ⟨w.heap.size, 0, none⟩) (.inl rfl) _).setCell (a := ⟨w.heap.size + 1, 0, none⟩) (.inr rfl) _
    have k1 := (h4.set (.slice none 0 0)).other (show w.heap.size ≠ w.heap.size + 1 by omega) (.bool false)
    have k2 := (h5.other (show w.heap.size + 1 ≠ w.heap.size by omega) (.slice none 0 0)).set (.bool false)
    have hBB := below_of_chg hB hc1 (fun i hi => by omega)
    have hK2 : ((W2.setCell ⟨w.heap.size, 0, none⟩ (.slice none 0 0)).setCell ⟨w.heap.size + 1, 0, none⟩ (.bool false)).heap[D]? = some (.deferred (some [])) := by
      rw [hc1.block D (Array.getElem?_eq_some_iff.1 hK).1 (by omega)]
      exact hK
    have c4 := h4.cell
    have c5 := h5.cell
    have f4 := h4.frozen
    have f5 := h5.frozen
    have HT := Lib.hid (And.intro k1 (And.intro k2 (And.intro hBB hK2)))
    clear h4 h5 hB hK k1 k2 hBB hK2 hc1
    rename_i Kk hKk
    refine hKk _ _ ?_
    clear hKk
    go_wp2_with fail
    obtain ⟨k1, k2, hBB, hK2⟩ := HT.out
    clear c4 c5 f4 f5 HT
    revert k1 k2 hBB hK2
    generalize (W2.setCell ⟨w.heap.size, 0, none⟩ (.slice none 0 0)).setCell ⟨w.heap.size + 1, 0, none⟩ (.bool false) = W5
    intro k1 k2 hBB hK2
    have g1 := (boxed_put (o := .deferred none) k1 (show w.heap.size ≠ D by omega)).cell
    have g2 := (boxed_put (o := .deferred none) k2 (show w.heap.size + 1 ≠ D by omega)).cell
    have hB2 := below_of_chg (S := (· = D)) hBB (chg_putObj (.deferred none) rfl) (fun i hi => by omega)
    refine ⟨by simp, .inl ⟨_, _, rfl, run_takeDeferred hK2, ?_⟩⟩
    refine ⟨.tuple #[.slice none 0 0, .bool false], ?_, _, _, rfl, .inr ⟨rfl, rfl, ?_⟩, hB2⟩
    · simp [results, go_sem, g1, g2]
    · rw [← hxs, hnil]
  case stop =>
    rintro D q c pre W2 hD hDc hpre ⟨⟨rfl, hcc⟩, x, v, rfl, ⟨h4, h5⟩, hr, hB⟩ hK
    have g1 := (boxed_put (o := .deferred none) h4 (show w.heap.size ≠ D by omega)).cell
    have g2 := (boxed_put (o := .deferred none) h5 (show w.heap.size + 1 ≠ D by omega)).cell
    have HK := Lib.hid hK
    rename_i Kk hKk
    have HBB := Lib.hid (below_of_chg (S := (· = D)) hB (chg_putObj (.deferred none) rfl) (fun i hi => by omega))
    have HRR := Lib.hid (RowG.base (row_keep (S := (· = D)) hr (chg_putObj (.deferred none) rfl) (fun k hk => by omega)) (show w.heap.size ≤ c by omega))
    clear h4 h5 hB hK hr
    clear hKk
    gi_wp2
    refine ⟨by simp, .inl ⟨_, _, rfl, run_takeDeferred HK.out, ?_⟩⟩
    refine ⟨.tuple #[v, .bool true], ?_, v, true, rfl, .inl ⟨rfl, x, hpre, HRR.out⟩, HBB.out⟩
    simp [results, go_sem, g1, g2]
end Go.Proofs.Ytdfbfcglacalmaa.Hs
end

section
namespace Go.Proofs.Ytdfbfcglacalmaa.Hs
open Go.RowKit Go.Seg Go.Open Go.Lib Go.Arr Go.Stab Go.Row

/-- A slice of whole numbers that is read. -/
structure VZ (w : World) (a : Option Addr) (n b off : Nat) (o : List Int) : Prop where
  len : o.length = n
  ad : 0 < n → a = some ⟨b, off, none⟩
  cells : ∀ W, Ext w W → ∀ i (h : i < o.length), W.cell? ⟨b, off + i, none⟩ = some (.int .i64 o[i])
theorem VZ.ext {w w' : World} {a : Option Addr} {n b off : Nat} {o : List Int} (h : VZ w a n b off o) (e : Ext w w') : VZ w' a n b off o := ⟨h.len, h.ad, fun W hW => h.cells W (e.trans hW)⟩
theorem VI.vz {w : World} {a : Option Addr} {n b : Nat} {o : List Nat} (h : VI w a n b o) : VZ w a n b 0 (o.map fun (i : Nat) => (i : Int)) :=
  ⟨by rw [List.length_map]; exact h.len, h.ad, fun W hW i hi => by
    rw [List.length_map] at hi
    rw [Nat.zero_add, h.cells W hW i hi]
    simp⟩
/-- Is an order of places, told as whole numbers, a line? -/
def LineZ (T : List C) (o : List Int) : Prop := ∃ p : List Nat, o = p.map (fun (i : Nat) => (i : Int)) ∧ IsLine T p
theorem lineZ_nat (T : List C) (p : List Nat) : LineZ T (p.map fun (i : Nat) => (i : Int)) ↔ IsLine T p := by
  constructor
  · rintro ⟨q, h, hq⟩
    have h3 : ∀ l : List Nat, (l.map (fun (i : Nat) => (i : Int))).map Int.toNat = l := fun l => by
      rw [List.map_map]
      exact (List.map_congr_left (fun a _ => Int.toNat_natCast a)).trans (List.map_id l)
    have : p = q := by
      have h2 := congrArg (List.map Int.toNat) h
      rwa [h3, h3] at h2
    rwa [this]
  · exact fun h => ⟨p, rfl, h⟩
/-- What is known of an order's first places. -/
structure Head (T : List C) (o : List Int) (i : Nat) (p : List Nat) : Prop where
  tk : o.take i = p.map (fun (i : Nat) => (i : Int))
  len : p.length = i
  nd : p.Nodup
  lt : ∀ k ∈ p, k < T.length
theorem Head.snoc {T : List C} {o : List Int} {i : Nat} {p : List Nat} (h : Head T o i p) (hi : i < o.length) {q : Nat} (hq : o[i] = (q : Int)) (hlt : q < T.length) (hn : ∀ k, k < i → o[k]? ≠ some (q : Int)) : Head T o (i + 1) (p ++ [q]) := by
  refine ⟨?_, by rw [List.length_append, h.len]; rfl, ?_, fun k hk => ?_⟩
  · rw [List.take_succ_eq_append_getElem hi, h.tk, hq]; simp
  · rw [List.nodup_append]
    refine ⟨h.nd, by simp, fun a ha b hb => ?_⟩
    simp at hb
    subst hb
    intro e
    subst e
    obtain ⟨k, hk, e⟩ := List.mem_iff_getElem.1 ha
    refine hn k (by rw [← h.len]; exact hk) ?_
    have h1 : (o.take i)[k]? = (p.map (fun (i : Nat) => (i : Int)))[k]? := by rw [h.tk]
    rw [List.getElem?_take, if_pos (by rw [← h.len]; exact hk), List.getElem?_map, List.getElem?_eq_getElem hk, e] at h1
    exact h1
  · rcases List.mem_append.1 hk with hk | hk
    · exact h.lt k hk
    · simp at hk; subst hk; exact hlt
/-- What a line's places are. -/
theorem LineZ.at {T : List C} {o : List Int} (h : LineZ T o) {i : Nat} (hi : i < o.length) : 0 ≤ o[i] ∧ o[i] < T.length ∧ ∀ k (hk : k < o.length), k < i → o[k] ≠ o[i] := by
  obtain ⟨p, rfl, hp⟩ := h
  rw [List.length_map] at hi
  refine ⟨by simp, by simp; have := hp.lt _ (List.getElem_mem hi); omega, fun k hk hki e => ?_⟩
  simp only [List.getElem_map, Int.ofNat_inj] at e
  rw [List.length_map] at hk
  exact (List.pairwise_iff_getElem.1 hp.nd) k i hk hi hki e
theorem Head.all {T : List C} {o : List Int} {p : List Nat} (h : Head T o o.length p) (hl : o.length = T.length) : LineZ T o ↔ swaps (p.map (cat T)) = 0 ∧ GoodR (p.map (cat T)) := by
  have he : o = p.map (fun (i : Nat) => (i : Int)) := by rw [← h.tk, List.take_length]
  rw [good_iff]
  constructor
  · intro h1
    rw [he, lineZ_nat] at h1
    exact ⟨h1.sw, h1.good⟩
  · rintro ⟨h1, h2⟩
    rw [he, lineZ_nat]
    exact ⟨by rw [h.len, hl], h.nd, h.lt, h1, h2⟩
set_option maxRecDepth 100000 in
set_option maxHeartbeats 4000000 in
theorem rLine_any (T : List C) (la : Option Addr) (n lcap lb loff : Nat) (o : List Int) (oa : Option Addr) (m ocap ob ooff : Nat) (w : World) (hV : VC w la n lb loff T) (hO : VZ w oa m ob ooff o) (hn : n ≤ 60) (hm : m ≤ 60) :
    Calls Try.prog 7 #[.slice la n lcap, .slice oa m ocap] w fun e w' => (∃ r : Bool, e = .returned (.bool r) ∧ (r = true ↔ LineZ T o)) ∧ Ext w w' := by
  have HV := Lib.hid hV
  have HO := Lib.hid hO
  clear hV hO
  by_cases hmn : m = n
  · subst hmn
    have e0 : ((m : Int) != (m : Int)) = false := by simp
    have e0' : (m != m) = false := by simp
    go_enter Try.func7, Try.ntmps7
    go_wp2_with (first | go_guarded)
    clear e0 e0'
    go_loopg [5, 6] m (fun g v s wr => ∃ (i : Nat) (p : List Nat), s = .int .i64 i ∧ i ≤ m ∧ Hid (Head T o i p) ∧ Hid (RowG RC enc wr w.heap.size v (p.map (cat T)) ∧ Ext w wr) ∧ m - i ≤ g)
    case atStart => exact ⟨0, [], rfl, Nat.zero_le _, Lib.hid ⟨rfl, rfl, List.nodup_nil, fun k hk => by cases hk⟩, Lib.hid ⟨RowG.nil _ _, Ext.refl _⟩, Nat.le_refl _⟩
    case round =>
      obtain ⟨i, p, rfl, hi, HH, HR, hg⟩ := hrel
      obtain ⟨av, cv, hv⟩ := HR.out.1.val
      have hpl : (p.map (cat T)).length = i := by rw [List.length_map]; exact HH.out.len
      rw [hpl] at hv
      subst hv
      have HP := Lib.hid hpl
      clear hpl
      by_cases him : i < m
      · have d0 : decide (i < m) = true := decide_eq_true him
        have hio : i < o.length := by rw [HO.out.len]; exact him
        obtain rfl := HO.out.ad (by omega)
        obtain ⟨z, hz⟩ : ∃ z, o[i] = z := ⟨_, rfl⟩
        have xi : ∀ W, Ext w W → W.cell? ⟨ob, ooff + i, none⟩ = some (.int .i64 z) := fun W hW => by rw [← hz]; exact HO.out.cells W hW i hio
        have HIO := Lib.hid hio
        have HZ : Hid (∀ h : i < o.length, o[i] = z) := Lib.hid (fun _ => hz)
        have HXI := Lib.hid xi
        have x1 := xi wr HR.out.2
        clear xi hz hio
        by_cases hz0 : z < 0
        · have d1 : decide (z < 0) = true := decide_eq_true hz0
          clear x1
          have x1 := HXI.out wr HR.out.2
          have H0 := Lib.hid hz0
          clear hz0
          go_wp2_with (first | go_guarded)
          go_ret
          refine ⟨⟨false, rfl, ⟨fun h => (by cases h), fun h => ?_⟩⟩, HR.out.2⟩
          have h1 := (h.at HIO.out).1
          rw [HZ.out HIO.out] at h1
          have := H0.out
          omega
        · have d1 : decide (z < 0) = false := decide_eq_false hz0
          by_cases hzm : (m : Int) ≤ z
          · have d2 : decide ((m : Int) ≤ z) = true := decide_eq_true hzm
            have H0 := Lib.hid hzm
            clear hz0 hzm
            go_wp2_with (first | go_guarded)
            go_ret
            refine ⟨⟨false, rfl, ⟨fun h => (by cases h), fun h => ?_⟩⟩, HR.out.2⟩
            have h1 := (h.at HIO.out).2.1
            rw [HZ.out HIO.out, HV.out.len] at h1
            have := H0.out
            omega
          · have d2 : decide ((m : Int) ≤ z) = false := decide_eq_false hzm
            obtain ⟨q, rfl⟩ : ∃ q : Nat, z = q := ⟨z.toNat, by omega⟩
            have hqm : q < m := by omega
            clear hz0 hzm
            go_wp2_with (first | go_guarded)
            clear d1 d2 x1
            go_loopg [7] i (fun g s wk => ∃ k : Nat, s = .int .i64 k ∧ k ≤ i ∧ Hid (Ext wr wk ∧ ∀ j, j < k → o[j]? ≠ some (q : Int)) ∧ i - k ≤ g)
            case atStart => exact ⟨0, rfl, Nat.zero_le _, Lib.hid ⟨Ext.refl _, fun j h => by omega⟩, Nat.le_refl _⟩
            case round =>
              obtain ⟨k, rfl, hk, HK, hg2⟩ := hrel
              by_cases hki : k < i
              · have d3 : decide (k < i) = true := decide_eq_true hki
                have hko : k < o.length := by have := HIO.out; omega
                obtain ⟨y, hy⟩ : ∃ y, o[k] = y := ⟨_, rfl⟩
                have HXK : Hid (∀ W, Ext w W → W.cell? ⟨ob, ooff + k, none⟩ = some (.int .i64 y)) := Lib.hid (fun W hW => by rw [← hy]; exact HO.out.cells W hW k hko)
                have HY : Hid (o[k]? = some y) := Lib.hid (by rw [List.getElem?_eq_getElem hko, hy])
                clear hko hy
                by_cases hyq : y = (q : Int)
                · have d4 : (y == (q : Int)) = true := beq_iff_eq.2 hyq
                  have HE := Lib.hid hyq
                  clear hyq
                  go_wp2_with (first | go_guarded)
                  refine wp_region_segsK [([3, 1, 3, 2], 0, 0), ([3], 2, 9)] (by kernel_rfl) (by kernel_rfl) ?_
                  apply segsK_pure
                  · intro W
                    simp only [runsT, runsF, rep, pick]
                    go_wp2_with fail
                    exact ⟨rfl, rfl⟩
                  simp only [runsT, runsF, rep, left]
                  apply segsK_look
                  · have y0 := HXK.out _ (HR.out.2.trans (HK.out.1.trans (Ext.drew _)))
                    have y1 := HXI.out _ (HR.out.2.trans (HK.out.1.trans (Ext.drew _)))
                    simp only [runsT, runsF, rep, pick]
                    go_wp2_with fail
                    exact ⟨rfl, rfl⟩
                  simp only [runsT, runsF, rep, left]
                  apply segsK_nil
                  go_wp2_with fail
                  go_ret
                  refine ⟨⟨false, rfl, ⟨fun h => (by cases h), fun h => ?_⟩⟩, HR.out.2.trans (HK.out.1.trans (Ext.drew _))⟩
                  have hko : k < o.length := by have := HIO.out; omega
                  refine absurd ?_ ((h.at HIO.out).2.2 k hko hki)
                  have h1 := HY.out
                  rw [List.getElem?_eq_getElem hko] at h1
                  rw [HZ.out HIO.out, Option.some.inj h1]
                  exact HE.out
                · have d4 : (y == (q : Int)) = false := beq_eq_false_iff_ne.2 hyq
                  have HE := Lib.hid (show y < q ∨ (q : Int) < y by omega)
                  clear hyq
                  go_wp2_with (first | go_guarded)
                  refine wp_region_segsK [([3, 1, 3, 2], 0, 0), ([3], 2, 9)] (by kernel_rfl) (by kernel_rfl) ?_
                  apply segsK_pure
                  · intro W
                    simp only [runsT, runsF, rep, pick]
                    go_wp2_with fail
                    exact ⟨rfl, rfl⟩
                  simp only [runsT, runsF, rep, left]
                  apply segsK_look
                  · have y0 := HXK.out _ (HR.out.2.trans (HK.out.1.trans (Ext.drew _)))
                    have y1 := HXI.out _ (HR.out.2.trans (HK.out.1.trans (Ext.drew _)))
                    simp only [runsT, runsF, rep, pick]
                    go_wp2_with fail
                    exact ⟨rfl, rfl⟩
                  simp only [runsT, runsF, rep, left]
                  apply segsK_nil
                  go_wp2_with fail
                  go_roundg (i - (k + 1))
                  case measure => omega
                  case rel =>
                    refine ⟨k + 1, by go_num, by omega, Lib.hid ⟨HK.out.1.trans (Ext.drew _), fun j hj => ?_⟩, Nat.le_refl _⟩
                    by_cases h : j < k
                    · exact HK.out.2 j h
                    · obtain rfl : j = k := by omega
                      rw [HY.out]
                      intro e
                      have := HE.out
                      have := Option.some.inj e
                      omega
              · obtain rfl : k = i := by omega
                have d3 : decide (k < k) = false := decide_eq_false (by omega)
                obtain ⟨S, x, R, eT, hS, hx⟩ := HV.out.get hqm
                have HX := Lib.hid (cat_at eT hS)
                have HEK := Lib.hid (HR.out.2.trans HK.out.1)
                have HRow := Lib.hid (show RowG RC enc wr w.heap.size (.slice av k cv) (p.map (cat T)) from HR.out.1.ext HK.out.1)
                obtain rfl := HV.out.ad (by omega)
                have x1 := HXI.out wr HEK.out
                have l3 := hx.ld wr HEK.out
                have hz : w.heap.size ≤ wr.heap.size := HEK.out.size
                unfold CV enc at l3
                clear hx eT hS
                go_wp2_with (first | refine Arr.wpList_ldA rfl _ _ rfl _ l3 ?_ | (at_builtin; refine appG (R := RC) (f := enc) (W := wr) rfl _ _ rfl _ (p.map (cat T)) rfl HRow.out x _ rfl rfl (enc_one _) wr.heap.size rfl rfl (by rw [HP.out]; omega) HEK.out (Nat.le_refl _) hz ?_))
                intro a1 c1 w4 hO1 hE4 hz1 hb1
                rw [HH.out.len] at hO1 ⊢
                have HG := Lib.hid (And.intro hO1 hE4)
                clear hO1 hE4 hz1 hb1
                go_wp2_with fail
                go_roundg (m - (k + 1))
                case measure => omega
                case rel =>
                  refine ⟨k + 1, p ++ [q], by go_num, by omega, Lib.hid (HH.out.snoc HIO.out (HZ.out HIO.out) (by rw [HV.out.len]; exact hqm) HK.out.2), Lib.hid ⟨?_, HG.out.2⟩, Nat.le_refl _⟩
                  rw [List.map_append, List.map_singleton, HX.out]
                  exact HG.out.1
      · obtain rfl : i = m := by omega
        have d0 : decide (i < i) = false := decide_eq_false (by omega)
        have HA := Lib.hid (show LineZ T o ↔ swaps (p.map (cat T)) = 0 ∧ GoodR (p.map (cat T)) from (show Head T o o.length p by rw [HO.out.len]; exact HH.out).all (by rw [HO.out.len, HV.out.len]))
        obtain ⟨b', hvc, hnc, -, -⟩ := row_vc (show RowG RC enc wr w.heap.size (.slice av i cv) _ from HR.out.1)
        have HVC := Lib.hid hvc
        clear hvc
        go_wp2_with (first | go_guarded)
        refine (rSwaps_any _ av i cv b' 0 _ HVC.out hn).mono ?_
        rintro e w2 ⟨rfl, hE2⟩
        have HE2 := Lib.hid hE2
        clear hE2
        by_cases hs : swaps (p.map (cat T)) = 0
        · have HS := Lib.hid hs
          rw [hs]
          clear hs
          go_wp2_with (first | go_guarded)
          refine (rReplay_any _ av i cv b' 0 _ (HVC.out.ext HE2.out) hn hnc).mono ?_
          rintro e w3 ⟨⟨r, rfl, hr, hrg⟩, hE3⟩
          have HE3 := Lib.hid hE3
          have HRG := Lib.hid hrg
          clear hE3 hrg
          by_cases hri : r = i
          · subst hri
            have e1 : ((r : Int) == (r : Int)) = true := by simp
            go_wp2_with (first | go_guarded)
            go_ret
            refine ⟨⟨true, rfl, ⟨fun _ => HA.out.2 ⟨HS.out, HRG.out.1 (by first | rfl | trivial)⟩, fun _ => rfl⟩⟩, HR.out.2.trans (HE2.out.trans HE3.out)⟩
          · have e1 : ((r : Int) == (i : Int)) = false := beq_eq_false_iff_ne.2 (by omega)
            have e1' : (r == i) = false := beq_eq_false_iff_ne.2 hri
            have HN := Lib.hid (show r < i by omega)
            clear hri
            go_wp2_with (first | go_guarded)
            go_ret
            refine ⟨⟨false, rfl, ⟨fun h => (by cases h), fun h => ?_⟩⟩, HR.out.2.trans (HE2.out.trans HE3.out)⟩
            have := HRG.out.2 (HA.out.1 h).2
            have := HN.out
            omega
        · obtain ⟨sn, hsn⟩ : ∃ sn, swaps (p.map (cat T)) = sn + 1 := ⟨_, (Nat.succ_pred hs).symm⟩
          have HS := Lib.hid hs
          rw [hsn]
          have e1 : (((sn + 1 : Nat) : Int) == 0) = false := beq_eq_false_iff_ne.2 (by omega)
          have e1' : ((sn : Int) + 1 == 0) = false := beq_eq_false_iff_ne.2 (by omega)
          clear hs hsn
          go_wp2_with (first | go_guarded)
          go_ret
          refine ⟨⟨false, rfl, ⟨fun h => (by cases h), fun h => absurd (HA.out.1 h).1 HS.out⟩⟩, HR.out.2.trans HE2.out⟩
  · have e0 : ((m : Int) != (n : Int)) = true := by simp; omega
    have e0' : (m != n) = true := by simp; omega
    have HN := Lib.hid (show m < n ∨ n < m by omega)
    clear hmn
    go_enter Try.func7, Try.ntmps7
    go_wp2_with (first | go_guarded)
    go_ret
    refine ⟨⟨false, rfl, ⟨fun h => (by cases h), fun h => ?_⟩⟩, Ext.refl _⟩
    obtain ⟨p, h1, h2⟩ := h
    have h3 := h2.len
    have h4 := HO.out.len
    rw [h1, List.length_map, h3, HV.out.len] at h4
    have := HN.out
    omega
end Go.Proofs.Ytdfbfcglacalmaa.Hs
end

section
namespace Go.Proofs.Ytdfbfcglacalmaa.Hs
open Go.RowKit Go.Seg Go.Open Go.Lib Go.Arr Go.Stab Go.Row

set_option maxRecDepth 100000 in
set_option maxHeartbeats 1000000 in
theorem rSame_any (o p : List Int) (oa pa : Option Addr) (m ocap ob ooff m' pcap pb poff : Nat) (w : World) (hO : VZ w oa m ob ooff o) (hP : VZ w pa m' pb poff p) (hm : m ≤ 60) (hm' : m' ≤ 60) :
    Calls Try.prog 12 #[.slice oa m ocap, .slice pa m' pcap] w fun e w' => e = .returned (.bool (decide (o = p))) ∧ Ext w w' := by
  have HO := Lib.hid hO
  have HP := Lib.hid hP
  clear hO hP
  by_cases hmn : m = m'
  · subst hmn
    have e0 : ((m : Int) != (m : Int)) = false := by simp
    have e0' : (m != m) = false := by simp
    go_enter Try.func12, Try.ntmps12
    go_wp2_with (first | go_guarded)
    clear e0 e0'
    go_loopg [5] m (fun g s wr => ∃ i : Nat, s = .int .i64 i ∧ i ≤ m ∧ Hid (Ext w wr ∧ o.take i = p.take i) ∧ m - i ≤ g)
    case atStart => exact ⟨0, rfl, Nat.zero_le _, Lib.hid ⟨Ext.refl _, rfl⟩, Nat.le_refl _⟩
    case round =>
      obtain ⟨i, rfl, hi, HR, hg⟩ := hrel
      by_cases him : i < m
      · have d0 : decide (i < m) = true := decide_eq_true him
        have hio : i < o.length := by rw [HO.out.len]; exact him
        have hip : i < p.length := by rw [HP.out.len]; exact him
        obtain rfl := HO.out.ad (by omega)
        obtain rfl := HP.out.ad (by omega)
        obtain ⟨y, hy⟩ : ∃ y, o[i] = y := ⟨_, rfl⟩
        obtain ⟨z, hz⟩ : ∃ z, p[i] = z := ⟨_, rfl⟩
        have HXO : Hid (∀ W, Ext w W → W.cell? ⟨ob, ooff + i, none⟩ = some (.int .i64 y)) := Lib.hid (fun W hW => by rw [← hy]; exact HO.out.cells W hW i hio)
        have HXP : Hid (∀ W, Ext w W → W.cell? ⟨pb, poff + i, none⟩ = some (.int .i64 z)) := Lib.hid (fun W hW => by rw [← hz]; exact HP.out.cells W hW i hip)
        have HY : Hid (o[i]? = some y ∧ p[i]? = some z) := Lib.hid ⟨by rw [List.getElem?_eq_getElem hio, hy], by rw [List.getElem?_eq_getElem hip, hz]⟩
        clear hio hip hy hz
        by_cases hyz : y = z
        · have d4 : (y != z) = false := by simp [hyz]
          have HE := Lib.hid hyz
          clear hyz
          go_wp2_with (first | go_guarded)
          refine wp_region_segsK [([3, 1, 3, 2], 0, 0), ([3], 2, 9)] (by kernel_rfl) (by kernel_rfl) ?_
          apply segsK_pure
          · intro W
            simp only [runsT, runsF, rep, pick]
            go_wp2_with fail
            exact ⟨rfl, rfl⟩
          simp only [runsT, runsF, rep, left]
          apply segsK_look
          · have y0 := HXO.out _ (HR.out.1.trans (Ext.drew _))
            have y1 := HXP.out _ (HR.out.1.trans (Ext.drew _))
            simp only [runsT, runsF, rep, pick]
            go_wp2_with fail
            exact ⟨rfl, rfl⟩
          simp only [runsT, runsF, rep, left]
          apply segsK_nil
          go_wp2_with fail
          go_roundg (m - (i + 1))
          case measure => omega
          case rel =>
            refine ⟨i + 1, by go_num, by omega, Lib.hid ⟨HR.out.1.trans (Ext.drew _), ?_⟩, Nat.le_refl _⟩
            rw [List.take_add_one, List.take_add_one, HR.out.2, HY.out.1, HY.out.2, HE.out]
        · have d4 : (y != z) = true := by simp [hyz]
          have HE := Lib.hid (show y < z ∨ z < y by omega)
          clear hyz
          go_wp2_with (first | go_guarded)
          refine wp_region_segsK [([3, 1, 3, 2], 0, 0), ([3], 2, 9)] (by kernel_rfl) (by kernel_rfl) ?_
          apply segsK_pure
          · intro W
            simp only [runsT, runsF, rep, pick]
            go_wp2_with fail
            exact ⟨rfl, rfl⟩
          simp only [runsT, runsF, rep, left]
          apply segsK_look
          · have y0 := HXO.out _ (HR.out.1.trans (Ext.drew _))
            have y1 := HXP.out _ (HR.out.1.trans (Ext.drew _))
            simp only [runsT, runsF, rep, pick]
            go_wp2_with fail
            exact ⟨rfl, rfl⟩
          simp only [runsT, runsF, rep, left]
          apply segsK_nil
          go_wp2_with fail
          go_ret
          have hd : decide (o = p) = false := decide_eq_false (fun h => by
            have h1 := HY.out.1
            rw [h, HY.out.2] at h1
            have := HE.out
            have := Option.some.inj h1
            omega)
          rw [hd]
          exact ⟨rfl, HR.out.1.trans (Ext.drew _)⟩
      · obtain rfl : i = m := by omega
        have d0 : decide (i < i) = false := decide_eq_false (by omega)
        go_wp2_with (first | go_guarded)
        go_ret
        have hd : decide (o = p) = true := decide_eq_true (by
          have h1 := HR.out.2
          rwa [List.take_of_length_le (by rw [HO.out.len]; exact Nat.le_refl _), List.take_of_length_le (by rw [HP.out.len]; exact Nat.le_refl _)] at h1)
        rw [hd]
        exact ⟨rfl, HR.out.1⟩
  · have e0 : ((m : Int) != (m' : Int)) = true := by simp; omega
    have e0' : (m != m') = true := by simp; omega
    have HN := Lib.hid (show m < m' ∨ m' < m by omega)
    clear hmn
    go_enter Try.func12, Try.ntmps12
    go_wp2_with (first | go_guarded)
    go_ret
    have hd : decide (o = p) = false := decide_eq_false (fun h => by
      have h1 := HO.out.len
      rw [h, HP.out.len] at h1
      have := HN.out
      omega)
    rw [hd]
    exact ⟨rfl, Ext.refl _⟩
/-- The two calls by which the search shows that it answers. -/
def cg : C := ⟨0, 0, 1, 1, 0, 0, 0, 0, 5, 9, 0, true, 5⟩
def cs : C := ⟨0, 0, 2, 1, 5, 0, 0, 1, 2, 3, 0, true, 0⟩
theorem told_two : told [cg, cs] 1 = [[1, 0]] := by decide
theorem vz_two {W : World} {g : Nat} (x y : Int) (h : Blk W g #[.int .i64 x, .int .i64 y] 3) : VZ W (some ⟨g, 0, none⟩) 2 g 0 [x, y] := by
  refine ⟨rfl, fun _ => rfl, fun W' hW i hi => ?_⟩
  rw [Blk.cells (h.ext hW)]
  match i, hi with
  | 0, _ => rfl
  | 1, _ => rfl
theorem row_vz {w : World} {B : Nat} {v : Value} {o : List Nat} (h : RowG RI encI w B v o) : ∃ a cap b, v = .slice a o.length cap ∧ VZ w a o.length b 0 (o.map fun (i : Nat) => (i : Int)) := by
  obtain ⟨a, cap, rfl⟩ := h.val
  obtain ⟨b, hv, -⟩ := row_vi h
  exact ⟨a, cap, b, rfl, hv.vz⟩
set_option maxRecDepth 100000 in
set_option maxHeartbeats 2000000 in
theorem seAwake_any (w : World) : Calls Try.prog 5 #[] w fun e w' => e = .returned (.bool true) ∧ Ext w w' := by
  have s1 := st_new w cg
  have s2 := st_new (w.alloc (.cells (enc cg).toArray 41)) cs
  obtain ⟨W2, hW2⟩ : ∃ W2, (w.alloc (.cells (enc cg).toArray 41)).alloc (.cells (enc cs).toArray 41) = W2 := ⟨_, rfl⟩
  have hb := two_boxes w cg cs
  rw [hW2] at s2 hb
  obtain ⟨⟨b1, b2⟩, hE⟩ := hb
  have HE := Lib.hid hE
  have l1 := (at1_blk b1).ld W2 (Ext.refl _)
  have l2 := (at1_blk b2).ld W2 (Ext.refl _)
  have HV := Lib.hid (vc_two cg cs (Blk.new W2 (enc cg ++ enc cs).toArray 41))
  unfold CV cg enc ZC at s1
  unfold CV cg cs enc ZC at s2
  simp only [World.size_alloc] at s2
  unfold CV cg enc at l1
  unfold CV cs enc at l2
  unfold enc cg cs at HV
  simp only [List.cons_append, List.nil_append] at HV
  clear b1 b2 hE hW2
  go_enter Try.func5, Try.ntmps5
  go_wp2_with (first | refine Arr.wpList_stA rfl _ _ _ rfl rfl s1 ?_ | refine Arr.wpList_stA rfl _ _ _ rfl rfl s2 ?_ | refine Arr.wpList_ldA rfl _ _ rfl _ l1 ?_ | refine Arr.wpList_ldA rfl _ _ rfl _ l2 ?_)
  refine (Find_any [cg, cs] _ 2 2 W2.heap.size 0 _ (vc_two cg cs (Blk.new _ _ _)) (by omega)).mono ?_
  rintro e W3 ⟨v, r, rfl, hf, hE3⟩
  have HE3 := Lib.hid (HE.out.trans ((ext_alloc _ _).trans hE3))
  obtain ⟨rfl, o, ho, hr⟩ : r = true ∧ ∃ o, o = [1, 0] ∧ RowG RI encI W3 0 v o := by
    rcases hf with ⟨h1, o, h2, h3⟩ | ⟨_, _, h1⟩
    · rw [told_two] at h2
      exact ⟨h1, o, by simpa using h2.eq_of_length (by simp), h3.base (Nat.zero_le _)⟩
    · rw [told_two] at h1; cases h1
  subst ho
  obtain ⟨oa, oc, ob, rfl, hz⟩ := row_vz hr
  have HZ := Lib.hid hz
  have HB := Lib.hid (vz_two 1 0 (Blk.new W3 #[.int .i64 1, .int .i64 0] 3))
  clear l1 l2 s1 s2 hE3 hf hr hz
  go_wp2_with fail
  refine (rSame_any _ _ oa _ 2 oc ob 0 2 2 _ 0 _ (HZ.out.ext (ext_alloc _ _)) HB.out (by omega) (by omega)).mono ?_
  rintro e W4 ⟨rfl, hE4⟩
  have HE4 := Lib.hid (HE3.out.trans ((ext_alloc _ _).trans hE4))
  clear hE4
  have hd : decide ((([1, 0] : List Nat).map fun (i : Nat) => (i : Int)) = [1, 0]) = true := by decide
  rw [hd]
  go_wp2_with fail
  go_ret
  exact ⟨rfl, HE4.out⟩
end Go.Proofs.Ytdfbfcglacalmaa.Hs
end

section
namespace Go.Proofs.Ytdfbfcglacalmaa.Hs
open Go.RowKit Go.Seg Go.Open Go.Lib Go.Arr Go.Stab Go.Row

theorem told_line {T : List C} {L : Nat} {o : List Nat} (h : [o] <+: told T L) : IsLine T o := by
  rw [← mem_lns]
  unfold told at h
  split at h
  · exact List.mem_of_mem_take (h.subset (by simp))
  · simp at h
theorem line_told {T : List C} {o : List Nat} (h : IsLine T o) (h7 : T.length ≤ 7) : told T 1 ≠ [] := by
  rw [← mem_lns] at h
  unfold told
  rw [if_pos h7]
  intro e
  cases hl : lns T T.length [] s0 with
  | nil => rw [hl] at h; cases h
  | cons x r => rw [hl] at e; cases e
set_option maxRecDepth 100000 in
set_option maxHeartbeats 4000000 in
theorem finds_walk (T : List C) (a : Option Addr) (len cap b off : Nat) (w : World) (hV : VC w a len b off T) (hl : len ≤ 12 ∨ 12 < len) (hc : len ≤ cap) :
    Calls Try.prog 3 #[.slice a len cap] w fun e w' => e = .returned (.bool true) ∧ Ext w w' := by
  have HV := Lib.hid hV
  clear hV
  rcases hl with hl | hl
  · have d0 : decide (12 < len) = false := decide_eq_false (by omega)
    have d0' : decide (12 < (len : Int)) = false := decide_eq_false (by omega)
    go_enter Try.func3, Try.ntmps3
    go_wp2_with (first | go_guarded)
    refine (Find_any T a len cap b off _ HV.out (by omega)).mono ?_
    rintro e w2 ⟨v, r, rfl, hf, hE2⟩
    have HE2 := Lib.hid hE2
    clear hE2 d0 d0'
    by_cases h7 : 7 < len
    · have d1 : decide (7 < len) = true := decide_eq_true h7
      have d1' : decide (7 < (len : Int)) = true := decide_eq_true (by omega)
      have ht : told T 1 = [] := by unfold told; rw [if_neg (by rw [HV.out.len]; omega)]
      obtain ⟨rfl, rfl⟩ : r = false ∧ v = .slice none 0 0 := by
        rcases hf with ⟨h1, o, h2, h3⟩ | ⟨h1, h2, -⟩
        · rw [ht] at h2; simp at h2
        · exact ⟨h1, h2⟩
      clear hf ht
      go_wp2_with (first | go_guarded)
      refine (seAwake_any _).mono ?_
      rintro e w3 ⟨rfl, hE3⟩
      have HE3 := Lib.hid hE3
      clear hE3
      go_wp2_with (first | go_guarded)
      go_ret
      exact ⟨rfl, HE2.out.trans HE3.out⟩
    · have d1 : decide (7 < len) = false := decide_eq_false h7
      have d1' : decide (7 < (len : Int)) = false := decide_eq_false (by omega)
      rcases hf with ⟨rfl, o, ho, hr⟩ | ⟨rfl, rfl, ht⟩
      · obtain ⟨oa, oc, ob, rfl, hz⟩ := row_vz hr
        have hline := told_line ho
        have HZ := Lib.hid hz
        have HL := Lib.hid hline
        have hol : o.length = len := by rw [hline.len, HV.out.len]
        rw [hol] at HZ ⊢
        clear ho hr hz hline hol
        go_wp2_with (first | go_guarded)
        refine (rLine_any T a len cap b off _ oa len oc ob 0 _ (HV.out.ext HE2.out) HZ.out (by omega) (by omega)).mono ?_
        rintro e w3 ⟨⟨r, rfl, hr⟩, hE3⟩
        obtain rfl : r = true := hr.2 ((lineZ_nat T o).2 HL.out)
        have HE3 := Lib.hid (HE2.out.trans hE3)
        clear hr hE3
        go_wp2_with (first | go_guarded)
        refine (rCounted_any T a len cap b off _ (HV.out.ext HE3.out) (by omega)).mono ?_
        rintro e w4 ⟨⟨a2, n2, cap2, b2, L, rfl, q2, c2, v2, k2⟩, hE4⟩
        have HE4 := Lib.hid (HE3.out.trans hE4)
        clear hE4 v2 k2
        go_wp2_with (first | go_guarded)
        refine (rHolds_any T a len cap b off _ (HV.out.ext HE4.out) (by omega) hc).mono ?_
        rintro e w5 ⟨⟨r, L', rfl, -, -⟩, hE5⟩
        have HE5 := Lib.hid (HE4.out.trans hE5)
        clear hE5
        cases r with
        | true =>
          obtain ⟨bb, hbb⟩ : ∃ bb, ((n2 : Int) == (len : Int)) = bb := ⟨_, rfl⟩
          have hbb' : (n2 == len) = bb := by rw [← hbb]; rw [Bool.eq_iff_iff]; simp; exact ⟨fun h => by omega, fun h => by omega⟩
          cases bb with
          | true =>
            go_wp2_with (first | go_guarded)
            refine (seAwake_any _).mono ?_
            rintro e w6 ⟨rfl, hE6⟩
            have HE6 := Lib.hid hE6
            clear hE6
            go_wp2_with (first | go_guarded)
            go_ret
            exact ⟨rfl, HE5.out.trans HE6.out⟩
          | false =>
            go_wp2_with (first | go_guarded)
            refine (seAwake_any _).mono ?_
            rintro e w6 ⟨rfl, hE6⟩
            have HE6 := Lib.hid hE6
            clear hE6
            go_wp2_with (first | go_guarded)
            go_ret
            exact ⟨rfl, HE5.out.trans HE6.out⟩
        | false =>
          go_wp2_with (first | go_guarded)
          refine (seAwake_any _).mono ?_
          rintro e w6 ⟨rfl, hE6⟩
          have HE6 := Lib.hid hE6
          clear hE6
          go_wp2_with (first | go_guarded)
          go_ret
          exact ⟨rfl, HE5.out.trans HE6.out⟩
      · have HT := Lib.hid ht
        clear ht
        go_wp2_with (first | go_guarded)
        refine (rCounted_any T a len cap b off _ (HV.out.ext HE2.out) (by omega)).mono ?_
        rintro e w4 ⟨⟨a2, n2, cap2, b2, L, rfl, q2, c2, v2, k2⟩, hE4⟩
        have HE4 := Lib.hid (HE2.out.trans hE4)
        have HN := Lib.hid (show L.length = n2 by have := v2.len; rwa [List.length_map] at this)
        have HK := Lib.hid k2
        clear hE4 v2 k2
        go_wp2_with (first | go_guarded)
        refine (rHolds_any T a len cap b off _ (HV.out.ext HE4.out) (by omega) hc).mono ?_
        rintro e w5 ⟨⟨r, L', rfl, hd, hh⟩, hE5⟩
        have HE5 := Lib.hid (HE4.out.trans hE5)
        have HH := Lib.hid (And.intro hd hh)
        clear hE5 hd hh
        cases r with
        | true =>
          have hne : n2 ≠ len := fun e => by
            have h1 := HH.out.2 rfl
            have h2 := HH.out.1
            have h3 : L'.length = T.length := by
              have := HH.out.1.1.length_eq
              have := HK.out.1.length_eq
              have := HN.out
              have := HV.out.len
              omega
            exact line_told (counted_line h1.1 h2 h3 h1.2) (by rw [HV.out.len]; omega) HT.out
          have hbb : ((n2 : Int) == (len : Int)) = false := beq_eq_false_iff_ne.2 (by omega)
          have hbb' : (n2 == len) = false := beq_eq_false_iff_ne.2 hne
          clear hne
          go_wp2_with (first | go_guarded)
          refine (seAwake_any _).mono ?_
          rintro e w6 ⟨rfl, hE6⟩
          have HE6 := Lib.hid hE6
          clear hE6
          go_wp2_with (first | go_guarded)
          go_ret
          exact ⟨rfl, HE5.out.trans HE6.out⟩
        | false =>
          go_wp2_with (first | go_guarded)
          refine (seAwake_any _).mono ?_
          rintro e w6 ⟨rfl, hE6⟩
          have HE6 := Lib.hid hE6
          clear hE6
          go_wp2_with (first | go_guarded)
          go_ret
          exact ⟨rfl, HE5.out.trans HE6.out⟩
  · have d0 : decide (12 < len) = true := decide_eq_true hl
    have d0' : decide (12 < (len : Int)) = true := decide_eq_true (by omega)
    go_enter Try.func3, Try.ntmps3
    go_wp2_with (first | go_guarded)
    refine (seAwake_any _).mono ?_
    rintro e w6 ⟨rfl, hE6⟩
    have HE6 := Lib.hid hE6
    clear hE6
    go_wp2_with (first | go_guarded)
    go_ret
    exact ⟨rfl, HE6.out⟩
end Go.Proofs.Ytdfbfcglacalmaa.Hs
end

section
namespace Go.Proofs.Ytdfbfcglacalmaa.Hs
open Go.RowKit Go.Seg Go.Open Go.Lib Go.Arr Go.Stab Go.Row

theorem fits_enc {cs : List Value} (h : FitsAll [.i .i64, .i .i64, .i .i64, .i .i64, .i .i64, .i .i64, .i .i64, .i .i64, .i .i64, .i .i64, .i .i64, .b, .i .i64] cs) : ∃ x : C, cs = enc x := by
  obtain ⟨_, _, rfl, ⟨x0, rfl, _⟩, h0⟩ := fitsAll_cons h
  obtain ⟨_, _, rfl, ⟨x1, rfl, _⟩, h1⟩ := fitsAll_cons h0
  obtain ⟨_, _, rfl, ⟨x2, rfl, _⟩, h2⟩ := fitsAll_cons h1
  obtain ⟨_, _, rfl, ⟨x3, rfl, _⟩, h3⟩ := fitsAll_cons h2
  obtain ⟨_, _, rfl, ⟨x4, rfl, _⟩, h4⟩ := fitsAll_cons h3
  obtain ⟨_, _, rfl, ⟨x5, rfl, _⟩, h5⟩ := fitsAll_cons h4
  obtain ⟨_, _, rfl, ⟨x6, rfl, _⟩, h6⟩ := fitsAll_cons h5
  obtain ⟨_, _, rfl, ⟨x7, rfl, _⟩, h7⟩ := fitsAll_cons h6
  obtain ⟨_, _, rfl, ⟨x8, rfl, _⟩, h8⟩ := fitsAll_cons h7
  obtain ⟨_, _, rfl, ⟨x9, rfl, _⟩, h9⟩ := fitsAll_cons h8
  obtain ⟨_, _, rfl, ⟨x10, rfl, _⟩, h10⟩ := fitsAll_cons h9
  obtain ⟨_, _, rfl, ⟨x11, rfl⟩, h11⟩ := fitsAll_cons h10
  obtain ⟨_, _, rfl, ⟨x12, rfl, _⟩, h12⟩ := fitsAll_cons h11
  obtain rfl := fitsAll_nil h12
  exact ⟨⟨x0, x1, x2, x3, x4, x5, x6, x7, x8, x9, x10, x11, x12⟩, rfl⟩
theorem vc_of {w : World} {v : Value} {a : Option Addr} {len cap : Nat} (h : IsSl w v [.i .i64, .i .i64, .i .i64, .i .i64, .i .i64, .i .i64, .i .i64, .i .i64, .i .i64, .i .i64, .i .i64, .b, .i .i64] a len cap) :
    ∃ (b off : Nat) (T : List C), VC w a len b off T := by
  by_cases h0 : 0 < len
  · obtain ⟨b, off, ha, hc⟩ := h.cells h0
    have key : ∀ i, i < len → ∃ x : C, ∀ j, j < 13 → w.cell? ⟨b, off + (i * 13 + j), none⟩ = (enc x)[j]? := fun i hi => by
      obtain ⟨cs, hf, hcell⟩ := hc i hi
      obtain ⟨x, rfl⟩ := fits_enc hf
      exact ⟨x, hcell⟩
    obtain ⟨F, hF⟩ := Go.Deep.choose_lt key
    have hlt : b < w.heap.size := World.block_lt_of_cell? (u := .int .i64 (F 0).cl) w _ (hF 0 h0 0 (by decide))
    refine ⟨b, off, (List.range len).map F, ⟨by simp, fun _ => ha, fun W hW i hi j hj => ?_⟩⟩
    have hi' : i < len := by simpa using hi
    rw [hW.cell (p := ⟨b, off + i * 13 + j, none⟩) hlt, Nat.add_assoc, hF i hi' j hj]
    simp
  · refine ⟨0, 0, [], ⟨by simp; omega, fun h => absurd h h0, fun W hW i hi => by simp at hi⟩⟩
end Go.Proofs.Ytdfbfcglacalmaa.Hs
end
