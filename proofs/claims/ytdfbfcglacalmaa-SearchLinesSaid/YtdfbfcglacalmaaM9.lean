/-
  A slice of whole numbers that comes in. No program in sight; no condition.
  Search: all orders, one behind the other, by the document. PLAIN LAW: no walk; no condition.
  Search: the next greater order, by the document. At most 60 places; no other condition.
  Search: all lines by the document, as far as one asks. At most 5 calls; no other condition.
  DERIVED: THE SHELF's CONTRACTS AT THIS DUMP, IN PLAIN WORDS (tools/lay-plain.mjs out of 'YtdfbfcglacalmaaSeShfTmp.lean', which tools/lay-shelf.mjs wrote): THE SAME DECLARATIONS UNDER THE SAME NAMES: 'import', 'namespace', 'open', 'def', 'theorem' AND NOTHING ELSE: no command of the shelf's: FOR A HAND-IN. Each laying: the table of numbers ('.._ren') and one theorem, a field a fact of the dump's own or the kernel's comparison; each contract: ONE APPLICATION.
  Package lossy: Replay, as LossyT says: so many calls are done, one behind the other.
  Search: whether an order has each place once; whether it is a line: the program's side. At most 60 calls; no other condition.
  Search: SearchLines' walk: the lines of any calls, the least one first, as far as one asks, and whether any order is one: as the document says. At most 5 calls (else the program shows that it answers); no other condition.
-/
import Derived.Test.YtdfbfcglacalmaaM1
import Derived.WalkArith
import Derived.Test.YtdfbfcglacalmaaM4
import Derived.Test.YtdfbfcglacalmaaM6
import Derived.Test.YtdfbfcglacalmaaM8
import Derived.Ground.NamesProg
import Derived.Ground.Names2Prog
import Derived.Shelf.Slices.Clone
import Derived.Shelf.Slices.Empties
import Derived.Shelf.Slices.Cells
import Derived.Shelf.Sort.Plain
import Derived.Shelf.Slices.In.SortNone
import Derived.Test.YtdfbfcglacalmaaProg
import Derived.Deep.WholeRow
import Derived.Lib.OwnBridge
import Derived.Sort.OwnSortedInts
section
namespace Go.Open
open Go.RowKit Go.ChangeShapes Go.WideShapes Go.Deep Go.Seg

variable {H : Type} {enc : TypeId × Value → H} {P : Program} {w : World} {base : Nat} {spare : Nat → Bool} {held : Bool}
/-- Its capacity. -/
theorem sl_cap {t e : TypeId} (ht : P.underlying t = some (.slice e)) {a : Option Addr} {len cap : Nat} {x : DataW H × List MemPlace} {fuel : Nat}
    (h : DataW.trod enc P w base spare held fuel t [.slice a len cap] = some x) : len ≤ cap ∧ cap ≤ maxLen := by
  rcases open_slice ht h with ⟨hv, _⟩ | ⟨a', len', cap', m, n, D, Pl, hv, hb, hle, hm, hmm, _, hx⟩
  · simp at hv
    obtain ⟨_, rfl, rfl⟩ := hv
    exact ⟨Nat.le_refl _, Nat.zero_le _⟩
  · simp at hv
    obtain ⟨_, rfl, rfl⟩ := hv
    exact ⟨hle, hm⟩
/-- A slice of whole numbers. -/
theorem IsSl.ints {v : Value} {a : Option Addr} {len cap : Nat} (h : IsSl w v [.i .i64] a len cap) : ∃ (b off : Nat) (F : Nat → Int), (0 < len → a = some ⟨b, off, none⟩) ∧ (∀ i, i < len → (Lit.int .i64 (F i)).wf = true) ∧ ∀ W, Ext w W → ∀ i, i < len → W.cell? ⟨b, off + i, none⟩ = some (.int .i64 (F i)) := by
  by_cases h0 : 0 < len
  · obtain ⟨b, off, ha, hc⟩ := h.cells h0
    have key : ∀ i, i < len → ∃ f : Int, w.cell? ⟨b, off + i, none⟩ = some (.int .i64 f) ∧ (Lit.int .i64 f).wf = true := fun i hi => by
      obtain ⟨cs, hf, hcell⟩ := hc i hi
      obtain ⟨v, r, rfl, ⟨x, rfl, hx⟩, hr⟩ := fitsAll_cons hf
      have h1 := hcell 0 (by simp)
      simp at h1
      exact ⟨x, h1, hx⟩
    obtain ⟨F, hF⟩ := choose_lt key
    have hlt : b < w.heap.size := World.block_lt_of_cell? w _ (hF 0 h0).1
    exact ⟨b, off, F, fun _ => ha, fun i hi => (hF i hi).2, fun W hW i hi => (hW.cell (p := ⟨b, off + i, none⟩) hlt).trans (hF i hi).1⟩
  · exact ⟨0, 0, fun _ => 0, fun h => absurd h h0, fun i hi => absurd hi (by omega), fun W hW i hi => absurd hi (by omega)⟩
theorem wf_bounds {n : Int} (h : (Lit.int .i64 n).wf = true) : -9223372036854775808 ≤ n ∧ n ≤ 9223372036854775807 := by
  simp [Lit.wf, IntKind.min, IntKind.max, IntKind.signed, IntKind.bits] at h
  omega
end Go.Open
end

section
namespace Go.Proofs.Ytdfbfcglacalmaa.Hs
open Rk Lossy

/-- The last place that isn't above the next one. -/
def piv (l : List Nat) : Nat → Option Nat
  | 0 => none
  | j + 1 => if l.getD (j + 1) 0 < l.getD j 0 then piv l j else some j
/-- The last place whose number isn't below x. -/
def las (l : List Nat) (x : Nat) : Nat → Nat
  | 0 => 0
  | j + 1 => if l.getD (j + 1) 0 < x then las l x j else j + 1
def swp (l : List Nat) (i k : Nat) : List Nat := (l.set i (l.getD k 0)).set k (l.getD i 0)
def turned (l : List Nat) (i k : Nat) : List Nat := (swp l i k).take (i + 1) ++ ((swp l i k).drop (i + 1)).reverse
/-- The next greater order. -/
def nextR (l : List Nat) : Option (List Nat) :=
  match piv l (l.length - 1) with
  | none => none
  | some i => some (turned l i (las l (l.getD i 0) (l.length - 1)))
def Chained : List (List Nat) → Bool
  | [] => true
  | [x] => nextR x == none
  | x :: y :: r => nextR x == some y && Chained (y :: r)
def perms (n : Nat) : Nat → List Nat → List (List Nat)
  | 0, o => [o]
  | k + 1, o => (List.range n).flatMap fun i => if i ∈ o then [] else perms n k (o ++ [i])
theorem perms_chained : ∀ n, n ≤ 5 → Chained (perms n n []) = true := by
  intro n h
  match n, h with
  | 0, _ => decide +kernel
  | 1, _ => decide +kernel
  | 2, _ => decide +kernel
  | 3, _ => decide +kernel
  | 4, _ => decide +kernel
  | 5, _ => decide +kernel
theorem perms_head : ∀ n, n ≤ 5 → ∃ r, perms n n [] = List.range n :: r := by
  intro n h
  have key : (perms n n []).head? = some (List.range n) := by
    match n, h with
    | 0, _ => decide +kernel
    | 1, _ => decide +kernel
    | 2, _ => decide +kernel
    | 3, _ => decide +kernel
    | 4, _ => decide +kernel
    | 5, _ => decide +kernel
  cases hp : perms n n [] with
  | nil => rw [hp] at key; cases key
  | cons x r => rw [hp] at key; exact ⟨r, by rw [Option.some.inj key]⟩
def nodupB : List (List Nat) → Bool
  | [] => true
  | x :: r => !r.contains x && nodupB r
theorem nodupB_iff : ∀ l : List (List Nat), nodupB l = true → l.Nodup
  | [], _ => List.nodup_nil
  | x :: r, h => by
    simp only [nodupB, Bool.and_eq_true, Bool.not_eq_true', List.contains_eq_mem, decide_eq_false_iff_not] at h
    exact List.nodup_cons.2 ⟨h.1, nodupB_iff r h.2⟩
theorem perms_nodup : ∀ n, n ≤ 5 → (perms n n []).Nodup := by
  intro n h
  apply nodupB_iff
  match n, h with
  | 0, _ => decide +kernel
  | 1, _ => decide +kernel
  | 2, _ => decide +kernel
  | 3, _ => decide +kernel
  | 4, _ => decide +kernel
  | 5, _ => decide +kernel
theorem perms_size : ∀ n, n ≤ 5 → (perms n n []).length ≤ 120 := by
  intro n h
  match n, h with
  | 0, _ => decide +kernel
  | 1, _ => decide +kernel
  | 2, _ => decide +kernel
  | 3, _ => decide +kernel
  | 4, _ => decide +kernel
  | 5, _ => decide +kernel
theorem flat_sub {α β : Type} {f g : α → List β} (h : ∀ a, (f a).Sublist (g a)) : ∀ l : List α, (l.flatMap f).Sublist (l.flatMap g)
  | [] => List.Sublist.refl _
  | a :: l => by
    rw [List.flatMap_cons, List.flatMap_cons]
    exact (h a).append (flat_sub h l)
theorem lns_sub (T : List C) : ∀ (k : Nat) (o : List Nat) (s : St), (lns T k o s).Sublist (perms T.length k o)
  | 0, _, _ => List.Sublist.refl _
  | k + 1, o, s => by
    unfold lns perms
    refine flat_sub (fun i => ?_) _
    by_cases hn : nextB T o s i = true
    · have h1 : i ∉ o := by
        unfold nextB at hn
        rw [Bool.and_eq_true] at hn
        exact ((mayB_iff T o i).1 hn.1).1
      rw [if_pos hn, if_neg h1]
      exact lns_sub T k _ _
    · rw [if_neg hn]
      exact List.nil_sublist _
theorem sub_filter {α : Type} [DecidableEq α] {l P : List α} (h : l.Sublist P) (hn : P.Nodup) : P.filter (fun q => decide (q ∈ l)) = l := by
  induction h with
  | slnil => rfl
  | cons a hs ih =>
    obtain ⟨h1, h2⟩ := List.nodup_cons.1 hn
    rw [List.filter_cons, if_neg (by simpa using fun hm => h1 (hs.subset hm)), ih h2]
  | cons_cons a hs ih =>
    rename_i l1 l2
    obtain ⟨h1, h2⟩ := List.nodup_cons.1 hn
    rw [List.filter_cons, if_pos (by simp)]
    have e : l2.filter (fun q => decide (q ∈ a :: l1)) = l2.filter (fun q => decide (q ∈ l1)) := List.filter_congr (fun q hq => by
      have : q ≠ a := fun e => h1 (e ▸ hq)
      simp [this])
    rw [e, ih h2]
/-- Is an order a line? -/
def lineB (T : List C) (q : List Nat) : Bool := decide (q ∈ lns T T.length [] s0)
theorem lineB_iff (T : List C) (q : List Nat) : lineB T q = true ↔ IsLine T q := by
  unfold lineB
  rw [decide_eq_true_eq, mem_lns]
theorem lns_filter (T : List C) (h : T.length ≤ 5) : (perms T.length T.length []).filter (lineB T) = lns T T.length [] s0 := (List.filter_congr (fun q _ => by unfold lineB; exact decide_eq_decide.2 Iff.rfl)).trans (sub_filter (lns_sub T T.length [] s0) (perms_nodup _ h))
theorem chained_mid : ∀ (A : List (List Nat)) (x : List Nat) (R : List (List Nat)), Chained (A ++ x :: R) = true → nextR x = R.head?
  | [], x, [], h => by simpa [Chained] using h
  | [], x, y :: R, h => by
    simp only [List.nil_append, Chained, Bool.and_eq_true, beq_iff_eq] at h
    exact h.1
  | [a], x, R, h => by
    simp only [List.cons_append, List.nil_append, Chained, Bool.and_eq_true] at h
    exact chained_mid [] x R h.2
  | a :: b :: A, x, R, h => by
    simp only [List.cons_append, Chained, Bool.and_eq_true] at h
    exact chained_mid (b :: A) x R h.2
/-- What has been told, and what is still to come. -/
structure Todo (T : List C) (most : Nat) (more : Bool) (order : List Nat) (out : List (List Nat)) (td : List (List Nat)) : Prop where
  all : ∃ dn, perms T.length T.length [] = dn ++ td ∧ out = dn.filter (lineB T)
  le : out.length ≤ most
  yes : more = true → ∃ r, td = order :: r
  no : more = false → td = []
theorem Todo.start {T : List C} (h : T.length ≤ 5) (most : Nat) : Todo T most true (List.range T.length) [] (perms T.length T.length []) :=
  ⟨⟨[], rfl, rfl⟩, Nat.zero_le _, fun _ => perms_head _ h, fun h => by cases h⟩
theorem Todo.step {T : List C} (h5 : T.length ≤ 5) {most : Nat} {order : List Nat} {out td : List (List Nat)} (h : Todo T most true order out td) (hlt : out.length < most) :
    ∃ td', td'.length < td.length ∧ (∀ y, nextR order = some y → Todo T most true y (out ++ if lineB T order = true then [order] else []) td') ∧ (nextR order = none → ∀ y, Todo T most false y (out ++ if lineB T order = true then [order] else []) td') := by
  obtain ⟨r, rfl⟩ := h.yes rfl
  obtain ⟨dn, h1, h2⟩ := h.all
  have hc := chained_mid dn order r (by rw [← h1]; exact perms_chained _ h5)
  have hall : ∃ dn', perms T.length T.length [] = dn' ++ r ∧ (out ++ if lineB T order = true then [order] else []) = dn'.filter (lineB T) := by
    refine ⟨dn ++ [order], by rw [h1]; simp, ?_⟩
    rw [List.filter_append, ← h2, List.filter_cons]
    rfl
  have hle : (out ++ if lineB T order = true then [order] else []).length ≤ most := by
    split <;> simp <;> omega
  refine ⟨r, by simp, fun y hy => ⟨hall, hle, fun _ => ?_, (fun h => by cases h)⟩, fun hn y => ⟨hall, hle, (fun h => by cases h), fun _ => ?_⟩⟩
  · rw [hc] at hy
    cases r with
    | nil => cases hy
    | cons z r => exact ⟨r, by rw [Option.some.inj hy]⟩
  · rw [hc] at hn
    cases r with
    | nil => rfl
    | cons z r => cases hn
theorem Todo.end {T : List C} (h5 : T.length ≤ 5) {most : Nat} {more : Bool} {order : List Nat} {out td : List (List Nat)} (h : Todo T most more order out td) (he : more = false ∨ most ≤ out.length) : out = (lns T T.length [] s0).take most := by
  obtain ⟨dn, h1, h2⟩ := h.all
  rw [← lns_filter T h5, h1, List.filter_append, ← h2]
  rcases he with he | he
  · rw [h.no he]
    simp only [List.filter_nil, List.append_nil]
    rw [List.take_of_length_le h.le]
  · have := h.le
    rw [List.take_append_of_le_length (by omega), List.take_of_length_le (by omega)]
end Go.Proofs.Ytdfbfcglacalmaa.Hs
end

section
namespace Go.Proofs.Ytdfbfcglacalmaa.Hs
open Go.RowKit Go.Seg Go.Open Go.Lib Go.Arr Go.Stab Go.Row

theorem row_own {w : World} {B n cap g : Nat} {l : List Nat} (h : RowG RI encI w B (.slice (some ⟨g, 0, none⟩) n cap) l) : ∃ cur, n = l.length ∧ Blk w g cur 3 ∧ B ≤ g ∧ n ≤ cap ∧ cap ≤ maxLen ∧ cur.size = cap ∧ cur.toList.take n = l.flatMap encI := by
  have hlen : l.length = n := by
    obtain ⟨a', cap', hu⟩ := RowG.val h
    simp only [Value.slice.injEq] at hu
    exact hu.2.1.symm
  rcases h.2 with ⟨h6, hz⟩ | ⟨g', cap', cur, h6, h7, h8, h9, h10, h11, h12⟩
  · cases h6
  · simp only [Value.slice.injEq, Option.some.injEq, Addr.mk.injEq] at h6
    obtain ⟨⟨rfl, -, -⟩, -, rfl⟩ := h6
    have e1 : RI.size = 1 := rfl
    rw [e1, Nat.mul_one] at h11 h12
    subst hlen
    exact ⟨cur, rfl, h8, h7, h9, h10, h11, h12⟩
theorem flat_one (l : List Nat) : l.flatMap encI = l.map fun (i : Nat) => Value.int .i64 (i : Int) := by
  induction l with
  | nil => rfl
  | cons x l ih => rw [List.flatMap_cons, ih]; rfl
theorem row_cell {w : World} {B n cap g : Nat} {l : List Nat} (h : RowG RI encI w B (.slice (some ⟨g, 0, none⟩) n cap) l) {j : Nat} (hj : j < l.length) : w.cell? ⟨g, j, none⟩ = some (.int .i64 ((l.getD j 0 : Nat) : Int)) ∧ w.frozen? ⟨g, j, none⟩ = false := by
  obtain ⟨cur, hn, hb, -, -, -, -, ht⟩ := row_own h
  refine ⟨?_, hb.frozen j⟩
  rw [Blk.cells hb, ← Array.getElem?_toList]
  have h1 : (cur.toList.take n)[j]? = (l.flatMap encI)[j]? := by rw [ht]
  rw [List.getElem?_take, if_pos (by omega), flat_one, List.getElem?_map, List.getElem?_eq_getElem hj] at h1
  rw [h1]
  simp [List.getD_eq_getElem?_getD, hj]
theorem row_set {w : World} {B n cap g : Nat} {l : List Nat} (h : RowG RI encI w B (.slice (some ⟨g, 0, none⟩) n cap) l) {j : Nat} (hj : j < l.length) (y : Nat) : RowG RI encI (w.setCell ⟨g, j, none⟩ (.int .i64 (y : Int))) B (.slice (some ⟨g, 0, none⟩) n cap) (l.set j y) := by
  obtain ⟨cur, hn, hb, hB, hc, hm, hs, ht⟩ := row_own h
  have hb2 := Blk.set hb j (.int .i64 (y : Int)) rfl
  refine ⟨by rw [flat_length encI 1 encI_len]; rfl, .inr ⟨g, cap, _, by rw [List.length_set, hn], hB, hb2, by rw [List.length_set]; omega, hm, by simp [hs]; exact (Nat.mul_one cap).symm, ?_⟩⟩
  have e1 : RI.size = 1 := rfl
  rw [e1, Nat.mul_one, List.length_set, flat_one, List.map_set, ← flat_one, ← ht, ← hn, Array.toList_setIfInBounds, List.take_set]
theorem set_mid {α : Type} (X Y : List α) (y z : α) (k : Nat) (hk : k = X.length) : (X ++ y :: Y).set k z = X ++ z :: Y := by
  subst hk
  induction X with
  | nil => rfl
  | cons a X ih => simp [ih]
theorem getD_mid (X Y : List Nat) (y : Nat) (k : Nat) (hk : k = X.length) : (X ++ y :: Y).getD k 0 = y := by
  subst hk
  simp [List.getD_eq_getElem?_getD]
theorem snocs {α : Type} (l : List α) : l = [] ∨ ∃ S x, l = S ++ [x] := by
  by_cases h : l = []
  · exact .inl h
  · exact .inr ⟨l.dropLast, l.getLast h, (List.dropLast_concat_getLast h).symm⟩
/-- The row's copy. -/
def Copied (w : World) (l : List Nat) (g cap : Nat) (wr : World) : Prop := RowG RI encI wr w.heap.size (.slice (some ⟨g, 0, none⟩) l.length cap) l ∧ Ext w wr
set_option maxRecDepth 100000 in
set_option maxHeartbeats 4000000 in
theorem rNext_any (l : List Nat) (B : Nat) (v : Value) (w : World) (h : RowG RI encI w B v l) (hl : l.length ≤ 60) :
    Calls Try.prog 18 #[v] w fun e w' => (∃ v', e = .returned (.tuple #[v', .bool (nextR l).isSome]) ∧ RowG RI encI w' w.heap.size v' ((nextR l).getD l)) ∧ Ext w w' := by
  obtain ⟨av, cv, rfl⟩ := h.val
  obtain ⟨n, hn⟩ : ∃ n, l.length = n := ⟨_, rfl⟩
  rw [hn] at h hl
  have HO := Lib.hid h
  have HN := Lib.hid hn
  have HE1 := Lib.hid (show Ext w (w.alloc (.cells #[] 3)) from (Below.refl _ _).alloc (Nat.le_refl _) _)
  have H1 : Hid (Row.Own RI (w.alloc (.cells #[] 3)) w.heap.size (.slice (some ⟨w.heap.size, 0, none⟩) 0 0) 0 []) := Lib.hid ⟨by simp, .inr ⟨w.heap.size, 0, #[], rfl, Nat.le_refl _, World.alloc_heap_new w _, Nat.le_refl _, Nat.zero_le _, by simp, by simp⟩⟩
  have HO1 := Lib.hid (show Row.Own RI (w.alloc (.cells #[] 3)) B (.slice av n cv) n (l.flatMap encI) by have := h.ext HE1.out; unfold RowG at this; rwa [hn] at this)
  have HC : Hid (∀ u ∈ l.flatMap encI, u.oneCell' = true) := Lib.hid (fun u hu => by
    obtain ⟨x, _, hx⟩ := List.mem_flatMap.1 hu
    exact encI_one x u hx)
  rw [hn]
  clear h hn
  go_enter Try.func18, Try.ntmps18
  go_wp2_with (at_builtin; refine Row.wpList_app2 RI _ rfl _ _ rfl w.heap.size _ 0 [] rfl H1.out B _ n (l.flatMap encI) rfl HO1.out HC.out (by omega) HE1.out.size ?_)
  intro a2 c2 w2 h2 hg2
  have hE2 := Row.ext_grown HE1.out H1.out (Nat.le_refl _) hg2
  have h2' : RowG RI encI w2 w.heap.size (.slice a2 n c2) l := by
    unfold RowG
    rw [HN.out]
    first | exact h2 | (rw [Nat.zero_add] at h2; exact h2)
  have H2 := Lib.hid (And.intro h2' hE2)
  have HW := Lib.hid hE2.size
  clear h2 hg2 h2' hE2
  by_cases hn0 : n = 0
  · subst hn0
    go_wp2_with (first | go_guarded)
    go_loopg [5] 0 (fun g s wr => s = .int .i64 (-2) ∧ Hid (Ext w2 wr) ∧ 0 ≤ g)
    case atStart => exact ⟨rfl, Lib.hid (Ext.refl _), Nat.le_refl _⟩
    case round =>
      obtain ⟨rfl, HE, -⟩ := hrel
      have hl0 : l = [] := List.eq_nil_of_length_eq_zero HN.out
      have HL := Lib.hid hl0
      have HB := Lib.hid (H2.out.1.ext (HE.out.trans (Ext.drew _)))
      clear hl0
      go_wp2_with (first | go_guarded)
      refine wp_region_segsK [([6, 1, 4, 3], 0, 0), ([4], 2, 14)] (by kernel_rfl) (by kernel_rfl) ?_
      apply segsK_pure
      · intro W
        simp only [runsT, runsF, rep, pick]
        go_wp2_with fail
        exact ⟨rfl, rfl⟩
      simp only [runsT, runsF, rep, left]
      apply segsK_look
      · skip
        simp only [runsT, runsF, rep, pick]
        go_wp2_with fail
        exact ⟨rfl, rfl⟩
      simp only [runsT, runsF, rep, left]
      apply segsK_nil
      go_wp2_with fail
      go_ret2
      refine ⟨⟨_, by rw [HL.out]; rfl, ?_⟩, H2.out.2.trans (HE.out.trans (Ext.drew _))⟩
      have h := HB.out
      rw [HL.out] at h ⊢
      exact h
  · -- some places
    obtain ⟨g, rfl⟩ : ∃ g, a2 = some ⟨g, 0, none⟩ := by
      rcases H2.out.1.2 with ⟨h6, _⟩ | ⟨g, cap', cur, h6, _⟩
      · simp only [Value.slice.injEq] at h6; omega
      · simp only [Value.slice.injEq] at h6; exact ⟨g, h6.1⟩
    have HG := Lib.hid (show w.heap.size ≤ g ∧ n ≤ c2 by
      obtain ⟨cur, h1, -, h3, h4, -⟩ := row_own H2.out.1
      exact ⟨h3, h4⟩)
    go_wp2_with (first | go_guarded)
    go_loopg [5] (n - 1) (fun g s wr => ∃ (i : Int) (j : Nat), s = .int .i64 i ∧ i + 1 = j ∧ j ≤ n - 1 ∧ Hid (Ext w2 wr ∧ piv l (n - 1) = piv l j) ∧ j ≤ g)
    case atStart => exact ⟨_, n - 1, rfl, by omega, Nat.le_refl _, Lib.hid ⟨Ext.refl _, rfl⟩, Nat.le_refl _⟩
    case round =>
      obtain ⟨i, j, rfl, hij, hj, HR, hgj⟩ := hrel
      cases j with
      | zero =>
        obtain rfl : i = -1 := by omega
        have HNX : Hid (nextR l = none) := Lib.hid (by unfold nextR; rw [HN.out, HR.out.2]; rfl)
        have HB := Lib.hid (H2.out.1.ext (HR.out.1.trans (Ext.drew _)))
        clear hij
        go_wp2_with (first | go_guarded)
        refine wp_region_segsK [([6, 1, 4, 3], 0, 0), ([4], 2, 14)] (by kernel_rfl) (by kernel_rfl) ?_
        apply segsK_pure
        · intro W
          simp only [runsT, runsF, rep, pick]
          go_wp2_with fail
          exact ⟨rfl, rfl⟩
        simp only [runsT, runsF, rep, left]
        apply segsK_look
        · skip
          simp only [runsT, runsF, rep, pick]
          go_wp2_with fail
          exact ⟨rfl, rfl⟩
        simp only [runsT, runsF, rep, left]
        apply segsK_nil
        go_wp2_with fail
        go_ret2
        refine ⟨⟨_, by rw [HNX.out]; rfl, ?_⟩, H2.out.2.trans (HR.out.1.trans (Ext.drew _))⟩
        rw [HNX.out]
        exact HB.out
      | succ q =>
        obtain rfl : i = (q : Int) := by omega
        have hq1 : q + 1 < n := by omega
        have hw : Ext w2 wr.drew := HR.out.1.trans (Ext.drew _)
        have hrw := H2.out.1.ext hw
        obtain ⟨x, hx⟩ : ∃ x, l.getD q 0 = x := ⟨_, rfl⟩
        obtain ⟨y, hy⟩ : ∃ y, l.getD (q + 1) 0 = y := ⟨_, rfl⟩
        have y0 := (row_cell hrw (j := q) (by rw [HN.out]; omega)).1
        have y1 := (row_cell hrw (j := q + 1) (by rw [HN.out]; omega)).1
        rw [hx] at y0
        rw [hy] at y1
        have HXY := Lib.hid (And.intro hx hy)
        have HRW := Lib.hid (And.intro hrw hw)
        have b0 : (0 : Int) ≤ (q : Int) := by omega
        have b1 : (q : Int) < (n : Int) := by omega
        have b2 : (0 : Int) ≤ (q : Int) + 1 := by omega
        have b3 : (q : Int) + 1 < (n : Int) := by omega
        have b4 : q < n := by omega
        clear hx hy hrw hw hij
        by_cases hyx : y < x
        · have d1 : decide ((y : Int) < (x : Int)) = true := decide_eq_true (by omega)
          have d1' : decide (y < x) = true := decide_eq_true hyx
          have HP : Hid (piv l (q + 1) = piv l q) := Lib.hid (by show (if _ then _ else _) = _; rw [HXY.out.1, HXY.out.2, if_pos hyx])
          go_wp2_with (first | go_guarded)
          refine wp_region_segsK [([6, 1, 4, 3], 0, 0), ([4], 2, 14)] (by kernel_rfl) (by kernel_rfl) ?_
          apply segsK_pure
          · intro W
            simp only [runsT, runsF, rep, pick]
            go_wp2_with fail
            exact ⟨rfl, rfl⟩
          simp only [runsT, runsF, rep, left]
          apply segsK_look
          · skip
            simp only [runsT, runsF, rep, pick]
            go_wp2_with fail
            exact ⟨rfl, rfl⟩
          simp only [runsT, runsF, rep, left]
          apply segsK_nil
          clear y0 y1 d1 d1' b0 b1 b2 b3
          go_wp2_with (first | go_guarded)
          go_roundg q
          case measure => omega
          case rel => exact ⟨_, q, rfl, by omega, by omega, Lib.hid ⟨HRW.out.2, by rw [HR.out.2, HP.out]⟩, Nat.le_refl _⟩
        · have d1 : decide ((y : Int) < (x : Int)) = false := decide_eq_false (by omega)
          have d1' : decide (y < x) = false := decide_eq_false hyx
          have HP : Hid (piv l (n - 1) = some q) := Lib.hid (by rw [HR.out.2]; show (if _ then _ else _) = _; rw [HXY.out.1, HXY.out.2, if_neg hyx])
          have HY := Lib.hid (show x ≤ y by omega)
          go_wp2_with (first | go_guarded)
          refine wp_region_segsK [([6, 1, 4, 3], 0, 0), ([4], 2, 14)] (by kernel_rfl) (by kernel_rfl) ?_
          apply segsK_pure
          · intro W
            simp only [runsT, runsF, rep, pick]
            go_wp2_with fail
            exact ⟨rfl, rfl⟩
          simp only [runsT, runsF, rep, left]
          apply segsK_look
          · skip
            simp only [runsT, runsF, rep, pick]
            go_wp2_with fail
            exact ⟨rfl, rfl⟩
          simp only [runsT, runsF, rep, left]
          apply segsK_nil
          clear y0 y1 d1 d1' hyx b2 b3
          go_wp2_with (first | go_guarded)
          go_loopg [6] (n - 1) (fun g s wk => ∃ k : Nat, s = .int .i64 k ∧ q < k ∧ k ≤ n - 1 ∧ Hid (Ext w2 wk ∧ las l x (n - 1) = las l x k) ∧ k ≤ g)
          case atStart => exact ⟨n - 1, by go_num, by omega, Nat.le_refl _, Lib.hid ⟨HRW.out.2, rfl⟩, Nat.le_refl _⟩
          case round =>
            obtain ⟨k, rfl, hqk, hkn, HK, hgk⟩ := hrel
            obtain ⟨k', rfl⟩ : ∃ k', k = k' + 1 := ⟨k - 1, by omega⟩
            have hw : Ext w2 wr.drew := HK.out.1.trans (Ext.drew _)
            have hrw := H2.out.1.ext hw
            obtain ⟨z, hz⟩ : ∃ z, l.getD (k' + 1) 0 = z := ⟨_, rfl⟩
            have y0 := (row_cell hrw (j := q) (by rw [HN.out]; omega)).1
            have y1 := (row_cell hrw (j := k' + 1) (by rw [HN.out]; omega)).1
            rw [HXY.out.1] at y0
            rw [hz] at y1
            have HZ := Lib.hid hz
            have HRK := Lib.hid (And.intro hrw hw)
            have b2 : (0 : Int) ≤ ((k' + 1 : Nat) : Int) := by omega
            have b3 : ((k' + 1 : Nat) : Int) < (n : Int) := by omega
            have b4 : k' + 1 < n := by omega
            obtain ⟨kk, hkk⟩ : ∃ kk, kk = k' + 1 := ⟨_, rfl⟩
            rw [← hkk] at y1 b2 b3 b4 ⊢
            have HKK := Lib.hid hkk
            clear hz hrw hw hkk
            by_cases hzx : z < x
            · have d1 : decide ((z : Int) < (x : Int)) = true := decide_eq_true (by omega)
              have d1' : decide (z < x) = true := decide_eq_true hzx
              have HP : Hid (las l x (k' + 1) = las l x k') := Lib.hid (by show (if _ then _ else _) = _; rw [HZ.out, if_pos hzx])
              have hne : k' ≠ q := fun e => by
                have h1 := HZ.out
                rw [e, HXY.out.2] at h1
                have := HY.out
                omega
              have HNE := Lib.hid (show q < k' by omega)
              clear hne
              go_wp2_with (first | go_guarded)
              refine wp_region_segsK [([3, 1, 3, 2], 0, 0), ([3], 2, 9)] (by kernel_rfl) (by kernel_rfl) ?_
              apply segsK_pure
              · intro W
                simp only [runsT, runsF, rep, pick]
                go_wp2_with fail
                exact ⟨rfl, rfl⟩
              simp only [runsT, runsF, rep, left]
              apply segsK_look
              · skip
                simp only [runsT, runsF, rep, pick]
                go_wp2_with fail
                exact ⟨rfl, rfl⟩
              simp only [runsT, runsF, rep, left]
              apply segsK_nil
              clear y0 y1 d1 d1' hzx
              go_wp2_with (first | go_guarded)
              go_roundg k'
              case measure => have := HKK.out; omega
              case rel => exact ⟨k', by have := HKK.out; subst this; go_num, HNE.out, by have := HKK.out; omega, Lib.hid ⟨HRK.out.2, by rw [HK.out.2, HP.out]⟩, Nat.le_refl _⟩
            · have d1 : decide ((z : Int) < (x : Int)) = false := decide_eq_false (by omega)
              have d1' : decide (z < x) = false := decide_eq_false hzx
              have HNX : Hid (nextR l = some (turned l q kk)) := Lib.hid (by
                unfold nextR
                rw [HN.out, HP.out]
                show some (turned l q (las l (l.getD q 0) (n - 1))) = some (turned l q kk)
                rw [HXY.out.1, HK.out.2, HKK.out]
                show some (turned l q (if _ then _ else _)) = _
                rw [HZ.out, if_neg hzx])
              go_wp2_with (first | go_guarded)
              refine wp_region_segsK [([3, 1, 3, 2], 0, 0), ([3], 2, 9)] (by kernel_rfl) (by kernel_rfl) ?_
              apply segsK_pure
              · intro W
                simp only [runsT, runsF, rep, pick]
                go_wp2_with fail
                exact ⟨rfl, rfl⟩
              simp only [runsT, runsF, rep, left]
              apply segsK_look
              · skip
                simp only [runsT, runsF, rep, pick]
                go_wp2_with fail
                exact ⟨rfl, rfl⟩
              simp only [runsT, runsF, rep, left]
              apply segsK_nil
              clear y0 y1 d1 d1' hzx
              have p0 := (row_cell HRK.out.1 (j := q) (by rw [HN.out]; omega))
              have p1 := (row_cell HRK.out.1 (j := kk) (by rw [HN.out]; omega))
              obtain ⟨p0, f0⟩ := p0
              obtain ⟨p1, f1⟩ := p1
              rw [HXY.out.1] at p0
              have hzk : l.getD kk 0 = z := by rw [HKK.out]; exact HZ.out
              rw [hzk] at p1
              have HZK := Lib.hid hzk
              clear hzk
              go_upto_region 12 with (first | go_guarded)
              obtain ⟨w5, hw5⟩ : ∃ w5, (wr.setCell ⟨g, q, none⟩ (.int .i64 (z : Int))).drew = w5 := ⟨_, rfl⟩
              have hr5 : RowG RI encI w5 w.heap.size (.slice (some ⟨g, 0, none⟩) n c2) (l.set q z) := by rw [← hw5]; exact row_set HRK.out.1 (by rw [HN.out]; omega) z
              have hE5 : Ext w w5 := by rw [← hw5]; exact (H2.out.2.trans HRK.out.2).setCell (p := ⟨g, q, none⟩) HG.out.1 _
              rw [hw5]
              have HR5 := Lib.hid (And.intro hr5 hE5)
              have p2 := row_cell hr5 (j := kk) (by rw [List.length_set, HN.out]; omega)
              obtain ⟨p2, f2⟩ := p2
              clear p0 f0 p1 f1 hw5 hr5 hE5
              go_upto_region 13 with (first | go_guarded)
              obtain ⟨w6, hw6⟩ : ∃ w6, w5.setCell ⟨g, kk, none⟩ (.int .i64 (x : Int)) = w6 := ⟨_, rfl⟩
              have hr6 : RowG RI encI w6 w.heap.size (.slice (some ⟨g, 0, none⟩) n c2) (swp l q kk) := by
                rw [← hw6]
                unfold swp
                rw [HXY.out.1, HZK.out]
                exact row_set HR5.out.1 (by rw [List.length_set, HN.out]; omega) x
              have hE6 : Ext w w6 := by rw [← hw6]; exact HR5.out.2.setCell (p := ⟨g, kk, none⟩) HG.out.1 _
              rw [hw6]
              obtain ⟨mm, hmm⟩ : ∃ mm, swp l q kk = mm := ⟨_, rfl⟩
              rw [hmm] at hr6
              have HML := Lib.hid (show mm.length = n by rw [← hmm]; unfold swp; rw [List.length_set, List.length_set, HN.out])
              have HMM := Lib.hid hmm
              have HR6 := Lib.hid (And.intro hr6 hE6)
              clear p2 f2 hw6 hr6 hE6 hmm
              go_wp2_with (first | go_guarded)
              go_loopg [8, 9] n (fun g' s r wk => ∃ (a b : Nat) (A M Z : List Nat), s = .int .i64 a ∧ r = .int .i64 b ∧ a = q + 1 + A.length ∧ b + 1 = a + M.length ∧ b < n ∧ Hid (A.length = Z.length ∧ mm = mm.take (q + 1) ++ (A ++ (M ++ Z))) ∧ Hid (RowG RI encI wk w.heap.size (.slice (some ⟨g, 0, none⟩) n c2) (mm.take (q + 1) ++ (Z.reverse ++ (M ++ A.reverse))) ∧ Ext w wk) ∧ M.length ≤ g')
              case atStart =>
                have hd : (mm.drop (q + 1)).length = n - (q + 1) := by rw [List.length_drop, HML.out]
                refine ⟨q + 1, n - 1, [], mm.drop (q + 1), [], by go_num, by go_num, by simp, by rw [hd]; omega, by omega, Lib.hid ⟨rfl, by simp⟩, Lib.hid ⟨by simpa using HR6.out.1, HR6.out.2⟩, by rw [hd]; omega⟩
              case round =>
                obtain ⟨a, b, A, M, Z, rfl, rfl, ha, hb, hbn, HS, HQ, hgm⟩ := hrel
                have hpl : (mm.take (q + 1)).length = q + 1 := by rw [List.length_take, HML.out]; omega
                have HPL := Lib.hid hpl
                clear hpl
                by_cases hab : a < b
                · have d2 : decide (a < b) = true := decide_eq_true hab
                  obtain ⟨y1, M1, rfl⟩ : ∃ y1 M1, M = y1 :: M1 := by
                    cases M with
                    | nil => simp at hb; omega
                    | cons y1 M1 => exact ⟨y1, M1, rfl⟩
                  obtain ⟨M2, z1, rfl⟩ : ∃ M2 z1, M1 = M2 ++ [z1] := by
                    rcases snocs M1 with rfl | ⟨M2, z1, rfl⟩
                    · simp at hb; omega
                    · exact ⟨M2, z1, rfl⟩
                  simp only [List.length_cons, List.length_append, List.length_nil, Nat.zero_add] at hb hgm
                  have hAZ := HS.out.1
                  have hla : (mm.take (q + 1) ++ Z.reverse).length = a := by rw [List.length_append, HPL.out, List.length_reverse, ← hAZ, ha]
                  have hlb : (mm.take (q + 1) ++ Z.reverse ++ z1 :: M2).length = b := by rw [List.length_append, hla, List.length_cons]; omega
                  have e1 : mm.take (q + 1) ++ (Z.reverse ++ (y1 :: (M2 ++ [z1]) ++ A.reverse)) = (mm.take (q + 1) ++ Z.reverse) ++ y1 :: (M2 ++ z1 :: A.reverse) := by simp
                  have e1b : mm.take (q + 1) ++ (Z.reverse ++ (y1 :: (M2 ++ [z1]) ++ A.reverse)) = (mm.take (q + 1) ++ Z.reverse ++ y1 :: M2) ++ z1 :: A.reverse := by simp
                  have hlb' : (mm.take (q + 1) ++ Z.reverse ++ y1 :: M2).length = b := by rw [List.length_append, hla, List.length_cons]; omega
                  have hcl : (mm.take (q + 1) ++ (Z.reverse ++ (y1 :: (M2 ++ [z1]) ++ A.reverse))).length = n := by
                    have := HML.out
                    rw [HS.out.2] at this
                    simp only [List.length_append, List.length_cons, List.length_reverse, List.length_nil] at this ⊢
                    omega
                  have pa := row_cell HQ.out.1 (j := a) (by rw [hcl]; omega)
                  have pb := row_cell HQ.out.1 (j := b) (by rw [hcl]; omega)
                  rw [show (mm.take (q + 1) ++ (Z.reverse ++ (y1 :: (M2 ++ [z1]) ++ A.reverse))).getD a 0 = y1 by rw [e1]; exact getD_mid _ _ _ _ hla.symm] at pa
                  rw [show (mm.take (q + 1) ++ (Z.reverse ++ (y1 :: (M2 ++ [z1]) ++ A.reverse))).getD b 0 = z1 by rw [e1b]; exact getD_mid _ _ _ _ hlb'.symm] at pb
                  obtain ⟨pa, fa⟩ := pa
                  obtain ⟨pb, fb⟩ := pb
                  have HT := Lib.hid (And.intro hla (And.intro hlb (And.intro e1 hcl)))
                  have b5 : a < n := by omega
                  have HAB := Lib.hid (And.intro ha (And.intro hb hgm))
                  have HLT := Lib.hid hab
                  clear hAZ hla hlb e1 e1b hlb' hcl ha hb hab hgm
                  go_upto_region 17 with (first | go_guarded)
                  obtain ⟨w7, hw7⟩ : ∃ w7, wr.setCell ⟨g, a, none⟩ (.int .i64 (z1 : Int)) = w7 := ⟨_, rfl⟩
                  have hr7 : RowG RI encI w7 w.heap.size (.slice (some ⟨g, 0, none⟩) n c2) ((mm.take (q + 1) ++ Z.reverse) ++ z1 :: (M2 ++ z1 :: A.reverse)) := by
                    rw [← hw7]
                    have h := row_set HQ.out.1 (j := a) (by rw [HT.out.2.2.2]; omega) z1
                    rwa [HT.out.2.2.1, set_mid _ _ _ _ _ HT.out.1.symm] at h
                  have hE7 : Ext w w7 := by rw [← hw7]; exact HQ.out.2.setCell (p := ⟨g, a, none⟩) HG.out.1 _
                  have hl7 : ((mm.take (q + 1) ++ Z.reverse) ++ z1 :: (M2 ++ z1 :: A.reverse)).length = n := by
                    have := HT.out.2.2.2
                    simp only [List.length_append, List.length_cons, List.length_reverse, List.length_nil] at this ⊢
                    omega
                  rw [hw7]
                  have pc := row_cell hr7 (j := b) (by rw [hl7]; omega)
                  obtain ⟨pc, fc⟩ := pc
                  have HR7 := Lib.hid (And.intro hr7 (And.intro hE7 hl7))
                  clear pa fa pb fb hw7 hr7 hE7 hl7
                  go_upto_region 18 with (first | go_guarded)
                  obtain ⟨w8, hw8⟩ : ∃ w8, w7.setCell ⟨g, b, none⟩ (.int .i64 (y1 : Int)) = w8 := ⟨_, rfl⟩
                  have hr8 : RowG RI encI w8 w.heap.size (.slice (some ⟨g, 0, none⟩) n c2) ((mm.take (q + 1) ++ Z.reverse ++ z1 :: M2) ++ y1 :: A.reverse) := by
                    rw [← hw8]
                    have h := row_set HR7.out.1 (j := b) (by rw [HR7.out.2.2]; omega) y1
                    rwa [show (mm.take (q + 1) ++ Z.reverse) ++ z1 :: (M2 ++ z1 :: A.reverse) = (mm.take (q + 1) ++ Z.reverse ++ z1 :: M2) ++ z1 :: A.reverse by simp, set_mid _ _ _ _ _ HT.out.2.1.symm] at h
                  have hE8 : Ext w w8 := by rw [← hw8]; exact HR7.out.2.1.setCell (p := ⟨g, b, none⟩) HG.out.1 _
                  rw [hw8]
                  have HR8 := Lib.hid (And.intro hr8 hE8)
                  clear pc fc hw8 hr8 hE8
                  go_wp2_with (first | go_guarded)
                  go_roundg M2.length
                  case measure => have := HAB.out.2.2; omega
                  case rel =>
                    have h1 := HAB.out
                    refine ⟨a + 1, b - 1, A ++ [y1], M2, z1 :: Z, by go_num, by go_num, by rw [List.length_append]; simp; omega, by omega, by omega, Lib.hid ⟨by simp [HS.out.1], ?_⟩, Lib.hid ⟨?_, HR8.out.2⟩, Nat.le_refl _⟩
                    · rw [HS.out.2]
                      simp [HPL.out]
                    · have h := HR8.out.1
                      simpa using h
                · have d2 : decide (a < b) = false := decide_eq_false hab
                  have HMS := Lib.hid (show M.length ≤ 1 by omega)
                  have HNX2 := Lib.hid (And.intro HNX.out HMM.out)
                  clear ha hb hgm
                  go_wp2_with (first | go_guarded)
                  go_ret2
                  have hfin : turned l q kk = mm.take (q + 1) ++ (Z.reverse ++ (M ++ A.reverse)) := by
                    unfold turned
                    rw [HMM.out]
                    have e2 : mm.drop (q + 1) = A ++ (M ++ Z) := by
                      have h := congrArg (List.drop (q + 1)) HS.out.2
                      rwa [List.drop_left' HPL.out] at h
                    rw [e2]
                    have e3 : M.reverse = M := by
                      match M, HMS.out with
                      | [], _ => rfl
                      | [u], _ => rfl
                      | _ :: _ :: _, h => simp at h
                    simp [e3]
                  refine ⟨⟨_, by rw [HNX.out]; rfl, ?_⟩, HQ.out.2⟩
                  rw [HNX.out]
                  show RowG RI encI _ _ _ (turned l q kk)
                  rw [hfin]
                  exact HQ.out.1
end Go.Proofs.Ytdfbfcglacalmaa.Hs
end

section
namespace Go.Proofs.Ytdfbfcglacalmaa.Hs
open Go.RowKit Go.Seg Go.Open Go.Lib Go.Arr Go.Stab Go.Row

/-- Grown by one that was laid in a block of its own. -/
theorem appQ {P : Program} {α : Type} {R : Ty P} {f : α → List Value} {W : World} {B : Nat} {ops : Array Oper} {r : List Oper} {o : Oper} {a : Act} {Q : Exit → Act → World → Prop} (hgd : o.guard = none) (s x : Operand)
    (ho : o.op = .call { callee := .builtin .append, args := #[s, x], argTypes := #[R.t, R.t] }) (v : Value) (l : List α) (hs : a.eval s = v) (hown : RowG R f W B v l) (y : α) (cs : Array Value) (hcs : cs.toList = f y) (hf : (f y).length = R.size) (h1 : ∀ u ∈ f y, u.oneCell' = true)
    (g : Nat) (hx : a.eval x = .slice (some ⟨g, 0, none⟩) 1 1) (hg : g = W.heap.size) (h63 : l.length + 1 ≤ 1000000) (hB : B ≤ W.heap.size)
    (h : ∀ a' cap w', RowG R f w' B (.slice a' (l.length + 1) cap) (l ++ [y]) → Chg (fun k => v.ownBlock = some k) W w' → wpList P ops Q r (a.put o.dst (.slice a' (l.length + 1) cap)) w') :
    wpList P ops Q (o :: r) a (W.alloc (.cells cs R.e)) := by
  subst hg
  have hA : Ext W (W.alloc (.cells cs R.e)) := (Below.refl _ _).alloc (Nat.le_refl _) _
  have hsz : cs.size = R.size := by rw [← hf, ← hcs, Array.length_toList]
  have hlit := own_lit R W cs hsz
  rw [hcs] at hlit
  refine wpList_app2 R _ hgd s x ho B v l.length (l.flatMap f) hs (hown.ext hA) W.heap.size _ 1 (f y) hx hlit h1 h63 (by simp; omega) (fun a' cap w' hr hg => ?_)
  refine h a' cap w' ?_ ⟨hg.os, hg.tape, hg.output, by have := hg.size; simp at this; omega, fun k hk hne => ?_⟩
  · unfold RowG
    rw [List.length_append, List.flatMap_append, List.length_singleton]
    simpa using hr
  · rw [hg.block k (by simp; omega) (fun e => hne e.symm), hA.block k hk]
theorem own_offG {P : Program} {α : Type} {R : Ty P} {f : α → List Value} {w : World} {B : Nat} {v : Value} {l : List α} (h : RowG R f w B v l) {E : TypeId} (hE : E ≠ R.e) : Off (fun k => v.ownBlock = some k) w E := by
  intro k hk cs f hh
  rcases h.2 with ⟨rfl, _⟩ | ⟨g, cap', cur, rfl, _, h8, _⟩
  · cases hk
  · cases hk
    rw [h8] at hh
    simp only [Option.some.injEq, Obj.cells.injEq] at hh
    exact hE hh.2.1.symm
theorem next_len {l y : List Nat} (h : nextR l = some y) : y.length = l.length := by
  unfold nextR at h
  split at h
  · cases h
  · rename_i i _
    rw [← Option.some.inj h]
    unfold turned swp
    simp only [List.length_append, List.length_reverse, List.length_take, List.length_drop, List.length_set]
    omega
/-- Rows of orders. -/
def RL : Row.Ty Try.prog := ⟨31, 24, .slice none 0 0, 1, 24, Try.underlying31, by kernel_rfl, rfl, by decide, by decide⟩
def encL (x : Value × List Nat) : List Value := [x.1]
structure Rows2 (w : World) (B : Nat) (v : Value) (items : List (Value × List Nat)) : Prop where
  row : RowG RL encL w B v items
  each : ∀ x ∈ items, RowG RI encI w B x.1 x.2
theorem Rows2.ext {w w' : World} {B : Nat} {v : Value} {items : List (Value × List Nat)} (h : Rows2 w B v items) (e : Ext w w') : Rows2 w' B v items := ⟨h.row.ext e, fun x hx => (h.each x hx).ext e⟩
set_option maxRecDepth 100000 in
set_option maxHeartbeats 4000000 in
theorem rLines_any (T : List C) (la : Option Addr) (n lcap lb loff most : Nat) (w : World) (hV : VC w la n lb loff T) (hn : n ≤ 5) (hm : most ≤ 1000) :
    Calls Try.prog 10 #[.slice la n lcap, .int .i64 most] w fun e w' => (∃ v items, e = .returned v ∧ Rows2 w' w.heap.size v items ∧ items.map Prod.snd = told T most) ∧ Ext w w' := by
  have HV := Lib.hid hV
  clear hV
  go_enter Try.func10, Try.ntmps10
  go_wp2_with (first | go_guarded)
  go_loopg [6, 7] n (fun g v s wr => ∃ i : Nat, s = .int .i64 i ∧ i ≤ n ∧ Hid (RowG RI encI wr w.heap.size v (List.range i) ∧ Ext w wr) ∧ n - i ≤ g)
  case atStart => exact ⟨0, rfl, Nat.zero_le _, Lib.hid ⟨RowG.nil _ _, Ext.refl _⟩, Nat.le_refl _⟩
  case round =>
    obtain ⟨i, rfl, hi, HR, hg⟩ := hrel
    obtain ⟨av, cv, rfl⟩ := HR.out.1.val
    rw [List.length_range]
    have hz : w.heap.size ≤ wr.heap.size := HR.out.2.size
    have HRow := Lib.hid (show RowG RI encI wr w.heap.size (.slice av i cv) (List.range i) by have := HR.out.1; rwa [List.length_range] at this)
    by_cases him : i < n
    · have d0 : decide (i < n) = true := decide_eq_true him
      go_wp2_with (first | (at_builtin; refine appP rfl _ _ rfl _ (List.range i) rfl HRow.out i wr.heap.size rfl rfl (by rw [List.length_range]; omega) hz ?_) | go_guarded)
      intro a1 c1 w1 h1 hc1
      have h1' : RowG RI encI w1 w.heap.size (.slice a1 (i + 1) c1) (List.range (i + 1)) := by
        rw [List.range_succ]
        first | exact h1 | (have := h1; simp only [List.length_range] at this; exact this)
      have hE1 := below_of_chg HR.out.2 hc1 (fun k hk => (Row.Own.lt (R := RI) HRow.out k hk).1)
      have H1 := Lib.hid (And.intro h1' hE1)
      clear h1 hc1 h1' hE1
      go_wp2_with (first | go_guarded)
      go_roundg (n - (i + 1))
      case measure => omega
      case rel => exact ⟨i + 1, by go_num, by omega, Lib.hid H1.out, Nat.le_refl _⟩
    · obtain rfl : i = n := by omega
      have d0 : decide (i < i) = false := decide_eq_false (by omega)
      have h5 : T.length ≤ 5 := by rw [HV.out.len]; exact hn
      have HT5 := Lib.hid h5
      have HTD := Lib.hid (Todo.start h5 most)
      clear h5
      go_wp2_with (first | go_guarded)
      go_loopg [5, 6, 8] 121 (fun g v5 v6 s wk => ∃ (items : List (Value × List Nat)) (o : List Nat) (mr : Bool) (td : List (List Nat)), s = .bool mr ∧ Hid (Rows2 wk w.heap.size v5 items ∧ RowG RI encI wk w.heap.size v6 o ∧ Ext w wk) ∧ Hid (Todo T most mr o (items.map Prod.snd) td ∧ o.length = i) ∧ td.length ≤ g)
      case atStart =>
        refine ⟨[], List.range i, true, _, rfl, Lib.hid ⟨⟨RowG.nil _ _, fun x hx => by cases hx⟩, HRow.out, HR.out.2⟩, Lib.hid ⟨?_, List.length_range⟩, Nat.le_trans (perms_size T.length HT5.out) (by omega)⟩
        have h := HTD.out
        rwa [HV.out.len] at h ⊢
      case round =>
        obtain ⟨items, o, mr, td, rfl, HK, HD, hgd⟩ := hrel
        cases mr with
        | false =>
          obtain ⟨a5, c5, rfl⟩ := HK.out.1.row.val
          have hfin : items.map Prod.snd = told T most := by
            unfold told
            rw [if_pos (by have := HT5.out; omega)]
            exact HD.out.1.end HT5.out (.inl rfl)
          have HF := Lib.hid hfin
          clear hfin
          go_wp2_with (first | go_guarded)
          go_ret
          exact ⟨⟨_, items, rfl, HK.out.1, HF.out⟩, HK.out.2.2⟩
        | true =>
          obtain ⟨a5, c5, rfl⟩ := HK.out.1.row.val
          obtain ⟨k, hk⟩ : ∃ k, items.length = k := ⟨_, rfl⟩
          have HKL := Lib.hid hk
          by_cases hlt : k < most
          · have HRow5 := Lib.hid (show RowG RL encL wr w.heap.size (.slice a5 k c5) items by have := HK.out.1.row; rwa [hk] at this)
            have HLT := Lib.hid (show items.length < most by rw [hk]; exact hlt)
            rw [hk]
            have d1 : decide (k < most) = true := decide_eq_true hlt
            obtain ⟨oa, oc, ob, rfl, hz⟩ := row_vz HK.out.2.1
            rw [HD.out.2] at hz ⊢
            have HZ := Lib.hid hz
            have HO := Lib.hid (show RowG RI encI wr w.heap.size (.slice oa i oc) o by have := HK.out.2.1; rwa [HD.out.2] at this)
            have hk1000 : k ≤ 1000 := by omega
            clear hz hk hlt
            go_wp2_with (first | go_guarded)
            refine (rLine_any T la i lcap lb loff _ oa i oc ob 0 _ (HV.out.ext HK.out.2.2) HZ.out (by omega) (by omega)).mono ?_
            rintro e w2 ⟨⟨r, rfl, hr⟩, hE2⟩
            have hrb : r = lineB T o := by rw [Bool.eq_iff_iff, hr, lineZ_nat, lineB_iff]
            have HE2 := Lib.hid hE2
            clear hr hE2
            cases hb : lineB T o with
            | false =>
              rw [hb] at hrb
              subst hrb
              have HB : Hid (Rows2 w2 w.heap.size (.slice a5 k c5) items ∧ RowG RI encI w2 w.heap.size (.slice oa i oc) o ∧ Ext w w2 ∧ items.map Prod.snd = items.map Prod.snd ++ if lineB T o = true then [o] else []) := Lib.hid ⟨⟨HRow5.out.ext HE2.out, fun x hx => (HK.out.1.each x hx).ext HE2.out⟩, HO.out.ext HE2.out, HK.out.2.2.trans HE2.out, by rw [hb]; simp⟩
              clear hb
              go_wp2_with (first | go_guarded)
              refine (rNext_any o _ _ _ HB.out.2.1 (by rw [HD.out.2]; omega)).mono ?_
              rintro e w4 ⟨⟨v4, rfl, hr4⟩, hE4⟩
              obtain ⟨td', ht1, ht2, ht3⟩ := HD.out.1.step HT5.out (by rw [List.length_map]; exact HLT.out)
              have HTD' := Lib.hid (And.intro ht2 ht3)
              have h4 := hr4.base (show w.heap.size ≤ _ from HB.out.2.2.1.size)
              have H4 := Lib.hid (And.intro (HB.out.1.ext hE4) (And.intro h4 (HB.out.2.2.1.trans hE4)))
              clear hr4 hE4 ht2 ht3 h4
              cases hnx : nextR o with
              | none =>
                have HNX := Lib.hid hnx
                rw [hnx] at H4
                clear hnx
                go_wp2_with (first | go_guarded)
                go_roundg td'.length
                case measure => omega
                case rel =>
                  refine ⟨_, o, false, td', rfl, Lib.hid H4.out, Lib.hid ⟨?_, HD.out.2⟩, Nat.le_refl _⟩
                  rw [HB.out.2.2.2]
                  exact HTD'.out.2 HNX.out o
              | some y =>
                have HNX := Lib.hid hnx
                rw [hnx] at H4
                clear hnx
                go_wp2_with (first | go_guarded)
                go_roundg td'.length
                case measure => omega
                case rel =>
                  refine ⟨_, y, true, td', rfl, Lib.hid H4.out, Lib.hid ⟨?_, by rw [next_len HNX.out, HD.out.2]⟩, Nat.le_refl _⟩
                  rw [HB.out.2.2.2]
                  exact HTD'.out.1 y HNX.out
            | true =>
              rw [hb] at hrb
              subst hrb
              have HBB := Lib.hid hb
              have HR2 := Lib.hid (HRow5.out.ext HE2.out)
              have hz2 : w.heap.size ≤ w2.heap.size := (HK.out.2.2.trans HE2.out).size
              clear hb
              go_wp2_with (first | (at_builtin; refine appQ (R := RL) (f := encL) rfl _ _ rfl _ items rfl HR2.out (.slice oa i oc, o) _ rfl rfl (by intro u hu; simp [encL] at hu; subst hu; rfl) w2.heap.size rfl rfl (by rw [HKL.out]; omega) hz2 ?_) | go_guarded)
              intro a3 c3 w3 h3 hc3
              have hE3 := below_of_chg (HK.out.2.2.trans HE2.out) hc3 (fun j hj => (Row.Own.lt (R := RL) HR2.out j hj).1)
              have HB : Hid (Rows2 w3 w.heap.size (.slice a3 (items.length + 1) c3) (items ++ [(.slice oa i oc, o)]) ∧ RowG RI encI w3 w.heap.size (.slice oa i oc) o ∧ Ext w w3 ∧ (items ++ [(Value.slice oa i oc, o)]).map Prod.snd = items.map Prod.snd ++ if lineB T o = true then [o] else []) := Lib.hid ⟨⟨h3, fun x hx => by
                rcases List.mem_append.1 hx with hx | hx
                · exact ((HK.out.1.each x hx).ext HE2.out).chg hc3 (own_offG HR2.out (by decide))
                · simp at hx
                  subst hx
                  exact (HO.out.ext HE2.out).chg hc3 (own_offG HR2.out (by decide))⟩, (HO.out.ext HE2.out).chg hc3 (own_offG HR2.out (by decide)), hE3, by rw [HBB.out]; simp⟩
              clear h3 hc3 hE3
              go_wp2_with (first | go_guarded)
              refine (rNext_any o _ _ _ HB.out.2.1 (by rw [HD.out.2]; omega)).mono ?_
              rintro e w4 ⟨⟨v4, rfl, hr4⟩, hE4⟩
              obtain ⟨td', ht1, ht2, ht3⟩ := HD.out.1.step HT5.out (by rw [List.length_map]; exact HLT.out)
              have HTD' := Lib.hid (And.intro ht2 ht3)
              have h4 := hr4.base (show w.heap.size ≤ _ from HB.out.2.2.1.size)
              have H4 := Lib.hid (And.intro (HB.out.1.ext hE4) (And.intro h4 (HB.out.2.2.1.trans hE4)))
              clear hr4 hE4 ht2 ht3 h4
              cases hnx : nextR o with
              | none =>
                have HNX := Lib.hid hnx
                rw [hnx] at H4
                clear hnx
                go_wp2_with (first | go_guarded)
                go_roundg td'.length
                case measure => omega
                case rel =>
                  refine ⟨_, o, false, td', rfl, Lib.hid H4.out, Lib.hid ⟨?_, HD.out.2⟩, Nat.le_refl _⟩
                  rw [HB.out.2.2.2]
                  exact HTD'.out.2 HNX.out o
              | some y =>
                have HNX := Lib.hid hnx
                rw [hnx] at H4
                clear hnx
                go_wp2_with (first | go_guarded)
                go_roundg td'.length
                case measure => omega
                case rel =>
                  refine ⟨_, y, true, td', rfl, Lib.hid H4.out, Lib.hid ⟨?_, by rw [next_len HNX.out, HD.out.2]⟩, Nat.le_refl _⟩
                  rw [HB.out.2.2.2]
                  exact HTD'.out.1 y HNX.out
          · have d1 : decide (k < most) = false := decide_eq_false hlt
            rw [hk]
            have HLT := Lib.hid (show most ≤ items.length by rw [hk]; omega)
            have HRow5 := Lib.hid (show RowG RL encL wr w.heap.size (.slice a5 k c5) items by have := HK.out.1.row; rwa [hk] at this)
            clear hlt hk
            have hfin : items.map Prod.snd = told T most := by
              unfold told
              rw [if_pos (by have := HT5.out; omega)]
              exact HD.out.1.end HT5.out (.inr (by rw [List.length_map]; exact HLT.out))
            have HF := Lib.hid hfin
            clear hfin
            go_wp2_with (first | go_guarded)
            go_ret
            exact ⟨⟨_, items, rfl, ⟨HRow5.out, HK.out.1.each⟩, HF.out⟩, HK.out.2.2⟩
end Go.Proofs.Ytdfbfcglacalmaa.Hs
end

section
namespace Go.Proofs
open Go.Shelf
def Try.laysClone_ren : Go.Shelf.Ren := ⟨fun | 15 => 28 | n => n, fun | 22 => 24 | 3 => 3 | 4 => 4 | n => n, fun | n => n⟩
theorem Try.laysClone : Go.Proofs.Lays2.n15 Try.prog Try.laysClone_ren := {
  mixed := by kernel_rfl
  f15 := Try.func28.trans (congrArg some (by kernel_rfl))
  t3 := Try.underlying3
  a3 := Try.isAgg3
  z3 := Try.sizeOf3
  v3 := Try.zeroValue3
  t4 := Try.underlying4
  a4 := Try.isAgg4
  z4 := Try.sizeOf4
  v4 := Try.zeroValue4
  t22 := Try.underlying24
  a22 := Try.isAgg24
  z22 := Try.sizeOf24
  v22 := Try.zeroValue24
  i3 := by kernel_rfl }
def Try.laysSort_ren : Go.Shelf.Ren := ⟨fun | 189 => 33 | 125 => 47 | 257 => 46 | 128 => 67 | 129 => 68 | 294 => 58 | 295 => 59 | 296 => 60 | 297 => 61 | 298 => 62 | 299 => 63 | 216 => 64 | 300 => 65 | 301 => 66 | 328 => 76 | 329 => 77 | 330 => 78 | 331 => 79 | 332 => 80 | 215 => 57 | 343 => 89 | n => n, fun | 28 => 24 | 3 => 3 | 46 => 30 | 0 => 0 | 51 => 95 | 53 => 97 | 4 => 4 | 183 => 89 | 182 => 88 | 131 => 63 | 5 => 5 | 9 => 9 | 218 => 104 | 222 => 108 | 228 => 115 | 229 => 116 | n => n, fun | n => n⟩
theorem Try.laysSort : Go.Proofs.Lays.n189 Try.prog Try.laysSort_ren := {
  mixed := by kernel_rfl
  f125 := Try.func47.trans (congrArg some (by kernel_rfl))
  f128 := Try.func67.trans (congrArg some (by kernel_rfl))
  f129 := Try.func68.trans (congrArg some (by kernel_rfl))
  f189 := Try.func33.trans (congrArg some (by kernel_rfl))
  f215 := Try.func57.trans (congrArg some (by kernel_rfl))
  f216 := Try.func64.trans (congrArg some (by kernel_rfl))
  f257 := Try.func46.trans (congrArg some (by kernel_rfl))
  f294 := Try.func58.trans (congrArg some (by kernel_rfl))
  f295 := Try.func59.trans (congrArg some (by kernel_rfl))
  f296 := Try.func60.trans (congrArg some (by kernel_rfl))
  f297 := Try.func61.trans (congrArg some (by kernel_rfl))
  f298 := Try.func62.trans (congrArg some (by kernel_rfl))
  f299 := Try.func63.trans (congrArg some (by kernel_rfl))
  f300 := Try.func65.trans (congrArg some (by kernel_rfl))
  f301 := Try.func66.trans (congrArg some (by kernel_rfl))
  f328 := Try.func76.trans (congrArg some (by kernel_rfl))
  f329 := Try.func77.trans (congrArg some (by kernel_rfl))
  f330 := Try.func78.trans (congrArg some (by kernel_rfl))
  f331 := Try.func79.trans (congrArg some (by kernel_rfl))
  f332 := Try.func80.trans (congrArg some (by kernel_rfl))
  f343 := Try.func89.trans (congrArg some (by kernel_rfl))
  t0 := Try.underlying0
  a0 := Try.isAgg0
  z0 := Try.sizeOf0
  v0 := Try.zeroValue0
  t3 := Try.underlying3
  a3 := Try.isAgg3
  z3 := Try.sizeOf3
  v3 := Try.zeroValue3
  t4 := Try.underlying4
  a4 := Try.isAgg4
  z4 := Try.sizeOf4
  v4 := Try.zeroValue4
  t5 := Try.underlying5
  a5 := Try.isAgg5
  z5 := Try.sizeOf5
  v5 := Try.zeroValue5
  t9 := Try.underlying9
  a9 := Try.isAgg9
  z9 := Try.sizeOf9
  v9 := Try.zeroValue9
  t28 := Try.underlying24
  a28 := Try.isAgg24
  z28 := Try.sizeOf24
  v28 := Try.zeroValue24
  t46 := Try.underlying30
  a46 := Try.isAgg30
  z46 := Try.sizeOf30
  v46 := Try.zeroValue30
  t51 := Try.underlying95
  a51 := Try.isAgg95
  z51 := Try.sizeOf95
  v51 := Try.zeroValue95
  t53 := Try.underlying97
  a53 := Try.isAgg97
  z53 := Try.sizeOf97
  v53 := Try.zeroValue97
  t131 := Try.underlying63
  a131 := Try.isAgg63
  z131 := Try.sizeOf63
  v131 := Try.zeroValue63
  t182 := Try.underlying88
  a182 := Try.isAgg88
  z182 := Try.sizeOf88
  v182 := Try.zeroValue88
  t183 := Try.underlying89
  a183 := Try.isAgg89
  z183 := Try.sizeOf89
  v183 := Try.zeroValue89
  t218 := Try.underlying104
  a218 := Try.isAgg104
  z218 := Try.sizeOf104
  v218 := Try.zeroValue104
  t222 := Try.underlying108
  a222 := Try.isAgg108
  z222 := Try.sizeOf108
  v222 := Try.zeroValue108
  t228 := Try.underlying115
  a228 := Try.isAgg115
  z228 := Try.sizeOf115
  v228 := Try.zeroValue115
  t229 := Try.underlying116
  a229 := Try.isAgg116
  z229 := Try.sizeOf116
  v229 := Try.zeroValue116 }
end Go.Proofs
end

section
namespace Go.Proofs.Ytdfbfcglacalmaa.Lo
open Go.RowKit Go.Seg Go.Open Rk TrTh Lossy

/-- The calls of a slice. -/
def CallsAt (W : World) (b off len : Nat) (F : Nat → C) : Prop := ∀ i, i < len → W.cell? ⟨b, off + i * 13, none⟩ = some (.int .i64 (F i).cl) ∧ W.cell? ⟨b, off + i * 13 + 1, none⟩ = some (.int .i64 (F i).id) ∧ W.cell? ⟨b, off + i * 13 + 2, none⟩ = some (.int .i64 (F i).kd) ∧ W.cell? ⟨b, off + i * 13 + 3, none⟩ = some (.int .i64 (F i).ky) ∧ W.cell? ⟨b, off + i * 13 + 4, none⟩ = some (.int .i64 (F i).vl) ∧ W.cell? ⟨b, off + i * 13 + 5, none⟩ = some (.int .i64 (F i).co) ∧ W.cell? ⟨b, off + i * 13 + 6, none⟩ = some (.int .i64 (F i).tt) ∧ W.cell? ⟨b, off + i * 13 + 7, none⟩ = some (.int .i64 (F i).be) ∧ W.cell? ⟨b, off + i * 13 + 8, none⟩ = some (.int .i64 (F i).wh) ∧ W.cell? ⟨b, off + i * 13 + 9, none⟩ = some (.int .i64 (F i).en) ∧ W.cell? ⟨b, off + i * 13 + 10, none⟩ = some (.int .i64 (F i).tk) ∧ W.cell? ⟨b, off + i * 13 + 11, none⟩ = some (.bool (F i).ok) ∧ W.cell? ⟨b, off + i * 13 + 12, none⟩ = some (.int .i64 (F i).rv)

theorem step_st (F : Nat → C) (k : Nat) (h : may (st F k).1 (st F k).2 (F k) = true) : step (st F k) (F k) = st F (k + 1) := by
  unfold step; rw [if_pos h]; rfl

set_option maxRecDepth 100000 in
set_option maxHeartbeats 4000000 in
theorem Replay_any (a : Option Addr) (len cap : Nat) (b off : Nat) (F : Nat → C) (w : World) (ha : 0 < len → a = some ⟨b, off, none⟩) (hl : len ≤ 40)
    (hF : ∀ W, Below w.heap.size w W → CallsAt W b off len F) :
    Calls Try.prog 24 #[.slice a len cap] w fun e w' => (∃ n : Nat, e = .returned (.int .i64 n) ∧ n ≤ len ∧ (∀ j, j < n → may (st F j).1 (st F j).2 (F j) = true) ∧ (n < len → may (st F n).1 (st F n).2 (F n) = false)) ∧ Below w.heap.size w w' := by
  have HAA := Lib.hid ha
  have HF := Lib.hid hF
  clear ha hF
  go_enter Try.func24, Try.ntmps24
  go_wp2_with fail
  refine (New_map _).mono ?_
  rintro e w1 ⟨bk, rfl, hbk, hM, hE⟩
  have HM := Lib.hid hM
  have HE := Lib.hid hE
  clear hM hE
  go_wp2_with fail
  go_loopg [9] len (fun g i wr => ∃ k : Nat, i = .int .i64 k ∧ k ≤ len ∧ isMap wr bk (st F k) ∧ (∀ j, j < k → may (st F j).1 (st F j).2 (F j) = true) ∧ Below w.heap.size w wr ∧ len - k ≤ g)
  case atStart => exact ⟨0, rfl, Nat.zero_le _, HM.out, fun _ h => absurd h (by omega), HE.out, Nat.le_refl _⟩
  case round =>
    obtain ⟨k, rfl, hk, hMk, hD, hBel, hg⟩ := hrel
    have HM := Lib.hid hMk
    have HD := Lib.hid hD
    have HE := Lib.hid hBel
    clear hMk hD hBel
    by_cases hik : k < len
    · obtain rfl := HAA.out (by omega)
      obtain ⟨x0, x1, x2, x3, x4, x5, x6, x7, x8, x9, x10, x11, x12⟩ := HF.out _ HE.out k hik
      have hst := Go.run_storeCells_new (P := Try.prog) wr 41 #[.int .i64 0, .int .i64 0, .int .i64 0, .int .i64 0, .int .i64 0, .int .i64 0, .int .i64 0, .int .i64 0, .int .i64 0, .int .i64 0, .int .i64 0, .bool false, .int .i64 0] #[.int .i64 (F k).cl, .int .i64 (F k).id, .int .i64 (F k).kd, .int .i64 (F k).ky, .int .i64 (F k).vl, .int .i64 (F k).co, .int .i64 (F k).tt, .int .i64 (F k).be, .int .i64 (F k).wh, .int .i64 (F k).en, .int .i64 (F k).tk, .bool (F k).ok, .int .i64 (F k).rv] (by kernel_rfl) rfl (by simp [Value.oneCell'])
      have hld := Go.run_loadCellsFrom_new (P := Try.prog) wr 41 #[.int .i64 (F k).cl, .int .i64 (F k).id, .int .i64 (F k).kd, .int .i64 (F k).ky, .int .i64 (F k).vl, .int .i64 (F k).co, .int .i64 (F k).tt, .int .i64 (F k).be, .int .i64 (F k).wh, .int .i64 (F k).en, .int .i64 (F k).tk, .bool (F k).ok, .int .i64 (F k).rv] 13 rfl
      have hA : Ext wr (wr.alloc (Obj.cells #[.int .i64 (F k).cl, .int .i64 (F k).id, .int .i64 (F k).kd, .int .i64 (F k).ky, .int .i64 (F k).vl, .int .i64 (F k).co, .int .i64 (F k).tt, .int .i64 (F k).be, .int .i64 (F k).wh, .int .i64 (F k).en, .int .i64 (F k).tk, .bool (F k).ok, .int .i64 (F k).rv] 41)) := (Below.refl _ _).alloc (Nat.le_refl _) _
      have hz := st_sz F k
      have HA := Lib.hid hA
      have HZ := Lib.hid hz
      clear hA hz
      go_wp2_with fail
      clear x0 x1 x2 x3 x4 x5 x6 x7 x8 x9 x10 x11 x12 hst hld
      refine (do_any bk (st F k) (F k) _ (HM.out.ext HA.out) (by have := HZ.out; omega)).mono ?_
      rintro e w2 ⟨rfl, hM2, hC2⟩
      have HM2 := Lib.hid hM2
      have HE2 := Lib.hid (below_chg (below_ext HE.out HA.out) hC2 (fun i hi => by rw [hi]; exact hbk))
      clear hM2 hC2
      by_cases hy : may (st F k).1 (st F k).2 (F k) = true
      · have HS := Lib.hid (step_st F k hy)
        go_wp2_with fail
        go_roundg (len - (k + 1))
        case measure => omega
        case rel => exact ⟨k + 1, by go_num, by omega, by rw [← HS.out]; exact HM2.out, fun j hj => by
            by_cases hjk : j = k
            · subst hjk; exact hy
            · exact HD.out j (by omega), HE2.out, Nat.le_refl _⟩
      · have hy' : may (st F k).1 (st F k).2 (F k) = false := by simpa using hy
        have HYN := Lib.hid hy'
        clear hy
        go_wp2_with fail
        go_ret
        exact ⟨⟨k, rfl, hk, HD.out, fun _ => HYN.out⟩, HE2.out⟩
    · obtain rfl : k = len := by omega
      clear hik
      have hdk : decide ((k : Int) < (k : Int)) = false := decide_eq_false (by omega)
      go_wp2_with fail
      go_ret
      exact ⟨⟨k, rfl, Nat.le_refl _, HD.out, fun h => absurd h (Nat.lt_irrefl _)⟩, HE.out⟩

end Go.Proofs.Ytdfbfcglacalmaa.Lo
end

section
namespace Go.Proofs.Ytdfbfcglacalmaa.Hs
open Go.RowKit Go.Seg Go.Open Go.Lib Go.Arr Go.Stab Go.Row Go.Shelf

/-- Each place once. -/
def Once (n : Nat) (o : List Int) : Prop := ∃ p : List Nat, o = p.map (fun (i : Nat) => (i : Int)) ∧ p.length = n ∧ p.Nodup ∧ ∀ k ∈ p, k < n
def sortZ (o : List Int) : List Int := o.mergeSort fun x y => decide (x ≤ y)
theorem sortZ_perm (o : List Int) : (sortZ o).Perm o := List.mergeSort_perm _ _
theorem range_up (n : Nat) : ((List.range n).map (fun (i : Nat) => (i : Int))).Pairwise (fun a b => a ≤ b) := by
  rw [List.pairwise_map]
  exact List.pairwise_lt_range.imp (fun h => by omega)
theorem once_iff (n : Nat) (o : List Int) (hl : o.length = n) : Once n o ↔ sortZ o = (List.range n).map (fun (i : Nat) => (i : Int)) := by
  constructor
  · rintro ⟨p, rfl, hp, hn, hlt⟩
    have h1 : (sortZ (p.map (fun (i : Nat) => (i : Int)))).Pairwise (fun a b => decide (a ≤ b) = true) := List.pairwise_mergeSort (fun a b c h1 h2 => by simp at *; omega) (fun a b => by simp; omega) _
    have h2 : p.Perm (List.range n) := by
      refine (List.perm_ext_iff_of_nodup hn List.nodup_range).2 (fun a => ⟨fun h => List.mem_range.2 (hlt a h), fun h => nodup_full hn hp hlt a (List.mem_range.1 h)⟩)
    exact List.Perm.eq_of_pairwise (le := fun a b => a ≤ b) (fun a b _ _ h1 h2 => by omega) (h1.imp (fun h => by simpa using h)) (range_up n) ((sortZ_perm _).trans (h2.map _))
  · intro h
    have h1 : o.Perm ((List.range n).map (fun (i : Nat) => (i : Int))) := by rw [← h]; exact (sortZ_perm o).symm
    have h3 : ∀ l : List Nat, (l.map (fun (i : Nat) => (i : Int))).map Int.toNat = l := fun l => by
      rw [List.map_map]
      exact (List.map_congr_left (fun a _ => Int.toNat_natCast a)).trans (List.map_id l)
    have h2 : (o.map Int.toNat).Perm (List.range n) := by
      have := h1.map Int.toNat
      rwa [h3] at this
    refine ⟨o.map Int.toNat, ?_, by rw [List.length_map]; exact hl, h2.nodup_iff.2 List.nodup_range, fun k hk => List.mem_range.1 (h2.mem_iff.1 hk)⟩
    rw [List.map_map]
    refine (List.map_id o).symm.trans (List.map_congr_left (fun a ha => ?_))
    obtain ⟨i, _, rfl⟩ := List.mem_map.1 (h1.mem_iff.1 ha)
    simp
/-- A copy of what is read. -/
theorem cloneZ (o : List Int) (oa : Option Addr) (m ocap ob ooff : Nat) (w : World) (hO : VZ w oa m ob ooff o) (hm : m ≤ 60) :
    Calls Try.prog 28 #[.slice oa m ocap] w fun e w' => (∃ v', e = .returned v' ∧ w'.ownsRow w.heap.size 3 1 v' m (o.map (Value.int .i64)) ∧ (0 < m → v' ≠ .slice none 0 0)) ∧ Ext w w' := by
  by_cases h0 : m = 0
  · subst h0
    have ho : o = [] := List.eq_nil_of_length_eq_zero hO.len
    subst ho
    cases oa with
    | none =>
      refine (Any.slices_Clone_int_nil Try.laysClone 0 ocap w).mono ?_
      rintro e w' ⟨rfl, rfl⟩
      exact ⟨⟨_, rfl, World.ownsRow_nil _ _ _ _, fun h => absurd h (by omega)⟩, Ext.refl _⟩
    | some a =>
      refine (Any.slices_Clone_int_zero Try.laysClone a ocap w).mono ?_
      rintro e w' ⟨v', rfl, ho, _, hb⟩
      exact ⟨⟨v', rfl, ho, fun h => absurd h (by omega)⟩, hb⟩
  · obtain rfl := hO.ad (by omega)
    refine (Any.slices_Clone_int Try.laysClone ob ooff m ocap o w (by rw [hO.len]; exact Nat.le_refl _) (by omega) (fun j hj => by rw [hO.cells w (Ext.refl _) j hj]; simp [List.getD_eq_getElem?_getD, hj])).mono ?_
    rintro e w' ⟨v', rfl, ho, hne, hb⟩
    rw [List.take_of_length_le (by rw [hO.len]; exact Nat.le_refl _)] at ho
    exact ⟨⟨v', rfl, ho, fun _ => hne⟩, hb⟩
/-- Sorted. -/
theorem sort_any (o : List Int) (v : Value) (m B : Nat) (w0 w : World) (h : w.ownsRow B 3 1 v m (o.map (Value.int .i64))) (hv : 0 < m → v ≠ .slice none 0 0) (hE : Ext w0 w) (hB : w0.heap.size ≤ B) (hm : m ≤ 60) :
    Calls Try.prog 33 #[v] w fun e w' => e = .returned (.tuple #[]) ∧ (∃ a cap b, v = .slice a m cap ∧ VZ w' a m b 0 (sortZ o)) ∧ Ext w0 w' := by
  have hol : o.length = m := by have := h.1; simpa using this
  by_cases h0 : m = 0
  · subst h0
    have ho : o = [] := List.eq_nil_of_length_eq_zero hol
    subst ho
    obtain ⟨a, cap, rfl⟩ : ∃ a cap, v = .slice a 0 cap := by
      rcases h.2 with ⟨rfl, _⟩ | ⟨g, cap, cur, rfl, _⟩
      · exact ⟨_, _, rfl⟩
      · exact ⟨_, _, rfl⟩
    refine (Go.calls_of_every_depth fun D => AnyS.slices_Sort_int_none_in Try.laysSort D a cap w).mono ?_
    rintro e w' ⟨rfl, rfl⟩
    exact ⟨rfl, ⟨a, cap, 0, rfl, ⟨(sortZ_perm []).length_eq, fun h => absurd h (by omega), fun W hW i hi => by rw [(sortZ_perm []).length_eq] at hi; exact absurd hi (by simp)⟩⟩, hE⟩
  · obtain ⟨g, cap, rfl, hbg, hgl, hncap, hcm, hlen, hH⟩ := Lib.holds_of_ownsRow h (hv (by omega))
    have hs := Any.slices_Sort_int Try.laysSort g 0 cap o w hH hgl (by omega)
    rw [hol] at hs
    refine hs.mono ?_
    rintro e w2 ⟨rfl, nn, os, hw2⟩
    have hH2 : Go.Sort.Holds (Value.int .i64) w2 g 0 (sortZ o).toArray := by
      subst hw2
      exact Go.Sort.holds_grow _ _ os g 0 _ (by simpa [Go.Sort.putRow, Go.Sort.mapBlock, Go.Sort.ahead] using hgl) (Go.Sort.holds_putRow _ _ g 0 _ _ (Go.Sort.holds_ahead _ w nn g 0 _ hH) (by simp))
    have hB2 : Ext w0 w2 := by
      subst hw2
      exact hE.grown (Go.grownBy_sortedI _) hE.size (fun j hj => by cases hj; omega)
    have hlt2 : g < w2.heap.size := Nat.lt_of_lt_of_le hgl (by subst hw2; exact (Go.grownBy_sortedI (g := g) (n := nn) (os := os) (w := w) (sortZ o).toArray).size)
    refine ⟨rfl, ⟨_, cap, g, rfl, ⟨by rw [(sortZ_perm o).length_eq, hol], fun _ => rfl, fun W hW i hi => ?_⟩⟩, hB2⟩
    rw [hW.cell (p := ⟨g, 0 + i, none⟩) hlt2, (hH2 i (by simpa using hi)).1]
    simp [hi]
set_option maxRecDepth 100000 in
set_option maxHeartbeats 2000000 in
theorem whole_any (o : List Int) (oa : Option Addr) (m ocap ob ooff n : Nat) (w : World) (hO : VZ w oa m ob ooff o) (hm : m ≤ 60) :
    Calls Try.prog 22 #[.slice oa m ocap, .int .i64 n] w fun e w' => (∃ r : Bool, e = .returned (.bool r) ∧ (r = true ↔ Once n o)) ∧ Ext w w' := by
  have HO := Lib.hid hO
  clear hO
  by_cases hmn : m = n
  · subst hmn
    have e0 : ((m : Int) != (m : Int)) = false := by simp
    have e0' : (m != m) = false := by simp
    go_enter Try.func22, Try.ntmps22
    go_wp2_with (first | go_guarded)
    refine (cloneZ o oa m ocap ob ooff _ HO.out hm).mono ?_
    rintro e w2 ⟨⟨v', rfl, ho, hne⟩, hE2⟩
    have HCL := Lib.hid (And.intro ho (And.intro hne hE2))
    clear ho hne hE2 e0 e0'
    go_wp2_with (first | go_guarded)
    refine (sort_any o v' m _ w _ HCL.out.1 HCL.out.2.1 HCL.out.2.2 (Nat.le_refl _) hm).mono ?_
    rintro e w3 ⟨rfl, ⟨a3, c3, b3, rfl, hz⟩, hE3⟩
    have HZ := Lib.hid hz
    have HE3 := Lib.hid hE3
    have HI := Lib.hid (once_iff m o HO.out.len)
    clear hz hE3 HCL
    go_wp2_with (first | go_guarded)
    go_loopg [18] m (fun g s wr => ∃ i : Nat, s = .int .i64 i ∧ i ≤ m ∧ Hid (Ext w3 wr ∧ (sortZ o).take i = (List.range i).map (fun (i : Nat) => (i : Int))) ∧ m - i ≤ g)
    case atStart => exact ⟨0, rfl, Nat.zero_le _, Lib.hid ⟨Ext.refl _, rfl⟩, Nat.le_refl _⟩
    case round =>
      obtain ⟨i, rfl, hi, HR, hg⟩ := hrel
      by_cases him : i < m
      · have d0 : decide (i < m) = true := decide_eq_true him
        have his : i < (sortZ o).length := by rw [HZ.out.len]; exact him
        obtain rfl := HZ.out.ad (by omega)
        obtain ⟨z, hz⟩ : ∃ z, (sortZ o)[i] = z := ⟨_, rfl⟩
        have x1 := HZ.out.cells wr HR.out.1 i his
        rw [hz, Nat.zero_add] at x1
        have HS := Lib.hid (show (sortZ o)[i]? = some z by rw [List.getElem?_eq_getElem his, hz])
        clear his hz
        by_cases hzi : z = (i : Int)
        · have d1 : ((i : Int) != z) = false := by simp [hzi]
          have HE := Lib.hid hzi
          clear hzi
          go_wp2_with (first | go_guarded)
          go_roundg (m - (i + 1))
          case measure => omega
          case rel =>
            refine ⟨i + 1, by go_num, by omega, Lib.hid ⟨HR.out.1, ?_⟩, Nat.le_refl _⟩
            rw [List.take_add_one, HR.out.2, HS.out, HE.out, List.range_succ]
            simp
        · have d1 : ((i : Int) != z) = true := by simp; exact fun e => hzi e.symm
          have HE := Lib.hid (show z < i ∨ (i : Int) < z by omega)
          clear hzi
          go_wp2_with (first | go_guarded)
          go_ret
          refine ⟨⟨false, rfl, ⟨fun h => (by cases h), fun h => ?_⟩⟩, HE3.out.trans HR.out.1⟩
          have h1 := HI.out.1 h
          have h2 := HS.out
          rw [h1, List.getElem?_map, List.getElem?_range him] at h2
          have := HE.out
          have h3 : (i : Int) = z := Option.some.inj h2
          omega
      · obtain rfl : i = m := by omega
        have d0 : decide (i < i) = false := decide_eq_false (by omega)
        go_wp2_with (first | go_guarded)
        go_ret
        refine ⟨⟨true, rfl, ⟨fun _ => HI.out.2 ?_, fun _ => rfl⟩⟩, HE3.out.trans HR.out.1⟩
        have h := HR.out.2
        rwa [List.take_of_length_le (by rw [HZ.out.len]; exact Nat.le_refl _)] at h
  · have e0 : ((m : Int) != (n : Int)) = true := by simp; omega
    have e0' : (m != n) = true := by simp; omega
    have HN := Lib.hid (show m < n ∨ n < m by omega)
    clear hmn
    go_enter Try.func22, Try.ntmps22
    go_wp2_with (first | go_guarded)
    go_ret
    refine ⟨⟨false, rfl, ⟨fun h => (by cases h), fun h => ?_⟩⟩, Ext.refl _⟩
    obtain ⟨p, h1, h2, _⟩ := h
    have h4 := HO.out.len
    rw [h1, List.length_map, h2] at h4
    have := HN.out
    omega
/-- Calls that a map does, counted. -/
theorem good_take (T : List C) (F : Nat → Lossy.C) (hF : ∀ i (h : i < T.length), F i = toLo T[i]) : ∀ n, n ≤ T.length → (good s0 (T.take n) = true ↔ ∀ j, j < n → Lossy.may (Lossy.st F j).1 (Lossy.st F j).2 (F j) = true)
  | 0, _ => by simp [good]
  | n + 1, h => by
    have ih := good_take T F hF n (by omega)
    rw [List.take_succ_eq_append_getElem (by omega), good_app, Bool.and_eq_true, ih]
    have hr : runS s0 (T.take n) = Lossy.st F n := runS_st n (T.take n) F (by rw [List.length_take]; omega) (fun i hi => by
      rw [List.length_take] at hi
      rw [hF i (by omega), List.getElem_take])
    rw [hr]
    simp only [good, Bool.and_true]
    have hm : mayS (Lossy.st F n) T[n] = Lossy.may (Lossy.st F n).1 (Lossy.st F n).2 (F n) := by rw [hF n (by omega)]; rfl
    rw [hm]
    constructor
    · rintro ⟨h1, h2⟩ j hj
      by_cases e : j = n
      · subst e; exact h2
      · exact h1 j (by omega)
    · exact fun h1 => ⟨fun j hj => h1 j (by omega), h1 n (by omega)⟩
theorem replay_vc (T : List C) (a : Option Addr) (len cap b off : Nat) (w : World) (hV : VC w a len b off T) (hl : len ≤ 40) :
    Calls Try.prog 24 #[.slice a len cap] w fun e w' => (∃ m : Nat, e = .returned (.int .i64 m) ∧ m ≤ len ∧ (m = len ↔ good s0 T = true)) ∧ Ext w w' := by
  have hF : ∀ W, Below w.heap.size w W → Lo.CallsAt W b off len (fun i => toLo (T.getD i default)) := fun W hW i hi => by
    have hi' : i < T.length := by rw [hV.len]; exact hi
    have hc := fun j hj => hV.cells W hW i hi' j hj
    have hg : T.getD i default = T[i] := by simp [List.getD_eq_getElem?_getD, hi']
    dsimp only
    rw [hg]
    exact ⟨hc 0 (by omega), hc 1 (by omega), hc 2 (by omega), hc 3 (by omega), hc 4 (by omega), hc 5 (by omega), hc 6 (by omega), hc 7 (by omega), hc 8 (by omega), hc 9 (by omega), hc 10 (by omega), hc 11 (by omega), hc 12 (by omega)⟩
  refine (Lo.Replay_any a len cap b off _ w hV.ad hl hF).mono ?_
  rintro e w' ⟨⟨m, rfl, hm, h1, h2⟩, hE⟩
  refine ⟨⟨m, rfl, hm, ?_⟩, hE⟩
  have hg := good_take T (fun i => toLo (T.getD i default)) (fun i h => by simp [List.getD_eq_getElem?_getD, h]) len (by rw [hV.len]; exact Nat.le_refl _)
  rw [List.take_of_length_le (by rw [hV.len]; exact Nat.le_refl _)] at hg
  rw [hg]
  constructor
  · intro e; subst e; exact h1
  · intro h
    by_cases e : m = len
    · exact e
    · have := h m (by omega)
      rw [h2 (by omega)] at this
      cases this
set_option maxRecDepth 100000 in
set_option maxHeartbeats 4000000 in
theorem sLine_any (T : List C) (la : Option Addr) (n lcap lb loff : Nat) (o : List Int) (oa : Option Addr) (m ocap ob ooff : Nat) (w : World) (hV : VC w la n lb loff T) (hO : VZ w oa m ob ooff o) (hn : n ≤ 40) (hm : m ≤ 60) :
    Calls Try.prog 14 #[.slice la n lcap, .slice oa m ocap] w fun e w' => (∃ r : Bool, e = .returned (.bool r) ∧ (r = true ↔ LineZ T o)) ∧ Ext w w' := by
  have HV := Lib.hid hV
  have HO := Lib.hid hO
  clear hV hO
  go_enter Try.func14, Try.ntmps14
  go_wp2_with (first | go_guarded)
  refine (whole_any o oa m ocap ob ooff n _ HO.out hm).mono ?_
  rintro e w2 ⟨⟨r, rfl, hr⟩, hE2⟩
  have HE2 := Lib.hid hE2
  have HW := Lib.hid hr
  clear hr hE2
  cases r with
  | false =>
    go_wp2_with (first | go_guarded)
    go_ret
    refine ⟨⟨false, rfl, ⟨fun h => (by cases h), fun h => ?_⟩⟩, HE2.out⟩
    obtain ⟨p, h1, h2⟩ := h
    have := HW.out.2 ⟨p, h1, by rw [h2.len, HV.out.len], h2.nd, fun k hk => by rw [← HV.out.len]; exact h2.lt k hk⟩
    cases this
  | true =>
    obtain ⟨p, hp, hpl, hpn, hplt⟩ := HW.out.1 rfl
    have hmn : m = n := by rw [← HO.out.len, hp, List.length_map, hpl]
    subst hmn
    have HP := Lib.hid (And.intro hp (And.intro hpl (And.intro hpn hplt)))
    clear hp hpl hpn hplt
    go_wp2_with (first | go_guarded)
    go_loopg [5, 15] m (fun g v s wr => ∃ i : Nat, s = .int .i64 i ∧ i ≤ m ∧ Hid (RowG RC enc wr w.heap.size v ((p.take i).map (cat T)) ∧ Ext w wr) ∧ m - i ≤ g)
    case atStart => exact ⟨0, rfl, Nat.zero_le _, Lib.hid ⟨RowG.nil _ _, HE2.out⟩, Nat.le_refl _⟩
    case round =>
      obtain ⟨i, rfl, hi, HR, hg⟩ := hrel
      obtain ⟨Lc, hLc⟩ : ∃ Lc, (p.take i).map (cat T) = Lc := ⟨_, rfl⟩
      have hpl : Lc.length = i := by rw [← hLc, List.length_map, List.length_take, HP.out.2.1]; omega
      have HLC := Lib.hid hLc
      have hrow := HR.out.1
      rw [hLc] at hrow
      obtain ⟨av, cv, hv⟩ := hrow.val
      rw [hpl] at hv
      subst hv
      have HRow := Lib.hid hrow
      have HPL := Lib.hid hpl
      clear hpl hLc hrow
      by_cases him : i < m
      · have d0 : decide (i < m) = true := decide_eq_true him
        have hio : i < o.length := by rw [HO.out.len]; exact him
        have hip : i < p.length := by rw [HP.out.2.1]; exact him
        obtain rfl := HO.out.ad (by omega)
        obtain ⟨q, hq⟩ : ∃ q, p[i] = q := ⟨_, rfl⟩
        have hoq : o[i] = (q : Int) := by
          have h1 := HP.out.1
          rw [← hq]
          have h2 : o[i]? = (p.map (fun (i : Nat) => (i : Int)))[i]? := by rw [← h1]
          rw [List.getElem?_eq_getElem hio, List.getElem?_map, List.getElem?_eq_getElem hip] at h2
          exact Option.some.inj h2
        have hqm : q < m := by rw [← hq]; exact HP.out.2.2.2 _ (List.getElem_mem hip)
        have x1 := HO.out.cells wr HR.out.2 i hio
        rw [hoq] at x1
        obtain ⟨S, x, R, eT, hS, hx⟩ := HV.out.get hqm
        obtain rfl := HV.out.ad (by omega)
        have HX := Lib.hid (cat_at eT hS)
        have HTK := Lib.hid (show p.take (i + 1) = p.take i ++ [q] by rw [List.take_succ_eq_append_getElem hip, hq])
        have l3 := hx.ld wr HR.out.2
        have hz : w.heap.size ≤ wr.heap.size := HR.out.2.size
        unfold CV enc at l3
        clear hx eT hS hoq hio hip hq
        go_wp2_with (first | refine Arr.wpList_ldA rfl _ _ rfl _ l3 ?_ | (at_builtin; refine appQ (R := RC) (f := enc) rfl _ _ rfl _ Lc rfl HRow.out x _ rfl rfl (enc_one _) wr.heap.size rfl rfl (by rw [HPL.out]; omega) hz ?_))
        intro a1 c1 w4 h4 hc4
        rw [HPL.out] at h4 ⊢
        have hB4 := below_of_chg HR.out.2 hc4 (fun j hj => (Row.Own.lt (R := RC) HRow.out j hj).1)
        have HG := Lib.hid (And.intro h4 hc4)
        have HX4 := Lib.hid hB4
        clear h4 hc4 hB4 l3 x1
        go_wp2_with (first | go_guarded)
        go_roundg (m - (i + 1))
        case measure => omega
        case rel =>
          refine ⟨i + 1, by go_num, by omega, Lib.hid ⟨?_, HX4.out⟩, Nat.le_refl _⟩
          rw [HTK.out, List.map_append, HLC.out, List.map_singleton, HX.out]
          exact HG.out.1
      · obtain rfl : i = m := by omega
        have d0 : decide (i < i) = false := decide_eq_false (by omega)
        have hfull : p.take i = p := List.take_of_length_le (by rw [HP.out.2.1]; exact Nat.le_refl _)
        have HFL := Lib.hid (show p.map (cat T) = Lc by rw [← hfull]; exact HLC.out)
        have HA : Hid (LineZ T o ↔ swaps Lc = 0 ∧ good s0 Lc = true) := Lib.hid (by
          rw [← HFL.out, HP.out.1, lineZ_nat]
          exact ⟨fun h => ⟨h.sw, h.good⟩, fun h => ⟨by rw [HP.out.2.1, HV.out.len], HP.out.2.2.1, fun k hk => by rw [HV.out.len]; exact HP.out.2.2.2 k hk, h.1, h.2⟩⟩)
        obtain ⟨b', hvc, hnc, -, -⟩ := row_vc HRow.out
        have HVC := Lib.hid hvc
        clear hvc hfull
        go_wp2_with (first | go_guarded)
        refine (Swaps_any _ av i cv b' 0 _ HVC.out (by omega) hnc).mono ?_
        rintro e w3 ⟨rfl, hE3⟩
        have HE3 := Lib.hid hE3
        clear hE3
        by_cases hs : swaps Lc = 0
        · have HS := Lib.hid hs
          rw [hs]
          clear hs
          go_wp2_with (first | go_guarded)
          refine (replay_vc _ av i cv b' 0 _ (HVC.out.ext HE3.out) hn).mono ?_
          rintro e w4 ⟨⟨r, rfl, hr, hrg⟩, hE4⟩
          have HE4 := Lib.hid hE4
          have HRG := Lib.hid hrg
          clear hE4 hrg
          by_cases hri : r = i
          · subst hri
            have e1 : ((r : Int) == (r : Int)) = true := by simp
            go_wp2_with (first | go_guarded)
            go_ret
            exact ⟨⟨true, rfl, ⟨fun _ => HA.out.2 ⟨HS.out, HRG.out.1 (by first | rfl | trivial)⟩, fun _ => rfl⟩⟩, HR.out.2.trans (HE3.out.trans HE4.out)⟩
          · have e1 : ((r : Int) == (i : Int)) = false := beq_eq_false_iff_ne.2 (by omega)
            have e1' : (r == i) = false := beq_eq_false_iff_ne.2 hri
            have HN := Lib.hid (show r < i by omega)
            clear hri
            go_wp2_with (first | go_guarded)
            go_ret
            refine ⟨⟨false, rfl, ⟨fun h => (by cases h), fun h => ?_⟩⟩, HR.out.2.trans (HE3.out.trans HE4.out)⟩
            have := HRG.out.2 (HA.out.1 h).2
            have := HN.out
            omega
        · obtain ⟨sn, hsn⟩ : ∃ sn, swaps Lc = sn + 1 := ⟨_, (Nat.succ_pred hs).symm⟩
          have HS := Lib.hid hs
          rw [hsn]
          have e1 : (((sn + 1 : Nat) : Int) == 0) = false := beq_eq_false_iff_ne.2 (by omega)
          have e1' : ((sn : Int) + 1 == 0) = false := beq_eq_false_iff_ne.2 (by omega)
          clear hs hsn
          go_wp2_with (first | go_guarded)
          go_ret
          exact ⟨⟨false, rfl, ⟨fun h => (by cases h), fun h => absurd (HA.out.1 h).1 HS.out⟩⟩, HR.out.2.trans HE3.out⟩
end Go.Proofs.Ytdfbfcglacalmaa.Hs
end

section
namespace Go.Proofs.Ytdfbfcglacalmaa.Hs
open Go.RowKit Go.Seg Go.Open Go.Lib Go.Arr Go.Stab Go.Row Lo Go.Shelf
attribute [local go_sem] Oper.semAt_some

theorem vz_of {w : World} {v : Value} {a : Option Addr} {len cap : Nat} (h : IsSl w v [.i .i64] a len cap) : ∃ (b off : Nat) (o : List Int), VZ w a len b off o := by
  obtain ⟨b, off, F, ha, -, hc⟩ := h.ints
  refine ⟨b, off, (List.range len).map F, by simp, ha, fun W hW i hi => ?_⟩
  have hi' : i < len := by simpa using hi
  rw [hc W hW i hi']
  simp
theorem row_off {P : Program} {α : Type} {R : Ty P} {f : α → List Value} {S : Nat → Prop} {w w' : World} {B : Nat} {v : Value} {l : List α} (h : RowG R f w B v l) (hc : Chg S w w') (hS : ∀ k, v.ownBlock = some k → ¬ S k) : RowG R f w' B v l := by
  refine ⟨h.1, ?_⟩
  rcases h.2 with h6 | ⟨g, cap', cur, h6, h7, h8, h9⟩
  · exact .inl h6
  · refine .inr ⟨g, cap', cur, h6, h7, ?_, h9⟩
    rw [hc.block g (Array.getElem?_eq_some_iff.1 h8).1 (hS g (by rw [h6]; rfl))]
    exact h8
theorem VZ.lt {w : World} {a : Option Addr} {n b off : Nat} {o : List Int} (h : VZ w a n b off o) (h0 : 0 < n) : b < w.heap.size :=
  World.block_lt_of_cell? w _ (h.cells w (Ext.refl _) 0 (by rw [h.len]; exact h0))
theorem VZ.chg {S : Nat → Prop} {w w' : World} {a : Option Addr} {n b off : Nat} {o : List Int} (h : VZ w a n b off o) (hc : Chg S w w') (hS : 0 < n → ¬ S b) : VZ w' a n b off o := by
  refine ⟨h.len, h.ad, fun W hW i hi => ?_⟩
  have h0 : 0 < n := by have := h.len; omega
  have hb := h.lt h0
  rw [← h.cells w (Ext.refl _) i hi]
  have h1 : W.heap[b]? = w.heap[b]? := by rw [hW.block b (Nat.lt_of_lt_of_le hb hc.size), hc.block b hb (hS h0)]
  exact World.cell?_of_block h1
/-- One of rows of orders. -/
theorem Rows2.get {w : World} {B : Nat} {v : Value} {items : List (Value × List Nat)} (h : Rows2 w B v items) : ∃ (a : Option Addr) (cap b : Nat), v = .slice a items.length cap ∧ (0 < items.length → a = some ⟨b, 0, none⟩) ∧ ∀ W, Ext w W → ∀ j (hj : j < items.length), W.cell? ⟨b, j, none⟩ = some items[j].1 := by
  obtain ⟨a, cap, b, hv, _, _, ha, _, hc⟩ := Own.open' h.row
  refine ⟨a, cap, b, hv, ha, fun W hW j hj => ?_⟩
  have e1 : RL.size = 1 := rfl
  have h1 := hc W hW j (by rw [e1]; omega)
  have h2 := flat_get encL 1 (fun _ => rfl) items j hj 0 (by omega)
  rw [Nat.mul_one, Nat.add_zero] at h2
  rw [h1, h2]
  rfl
/-- All of it lies below a place. -/
def Rows2Lt (N : Nat) (v : Value) (items : List (Value × List Nat)) : Prop := (∀ k, v.ownBlock = some k → k < N) ∧ ∀ x ∈ items, ∀ k, x.1.ownBlock = some k → k < N
theorem Rows2.lt {w : World} {B : Nat} {v : Value} {items : List (Value × List Nat)} (h : Rows2 w B v items) : Rows2Lt w.heap.size v items := ⟨fun k hk => (Own.lt h.row k hk).2, fun x hx k hk => (Own.lt (h.each x hx) k hk).2⟩
theorem Rows2.chg {S : Nat → Prop} {w w' : World} {B N : Nat} {v : Value} {items : List (Value × List Nat)} (h : Rows2 w B v items) (hl : Rows2Lt N v items) (hc : Chg S w w') (hS : ∀ k, S k → N ≤ k) : Rows2 w' B v items :=
  ⟨row_off h.row hc (fun k hk hs => by have := hl.1 k hk; have := hS k hs; omega), fun x hx => row_off (h.each x hx) hc (fun k hk hs => by have := hl.2 x hx k hk; have := hS k hs; omega)⟩
theorem Linear_any (T : List C) (la : Option Addr) (n lcap lb loff : Nat) (w : World) (hV : VC w la n lb loff T) (hn : n ≤ 60) : Calls Try.prog 13 #[.slice la n lcap] w fun e w' => (∃ r : Bool, e = .returned (.bool r) ∧ (r = true ↔ told T 1 ≠ [])) ∧ Ext w w' := by
  have HV := Lib.hid hV
  clear hV
  go_enter Try.func13, Try.ntmps13
  go_wp2_with fail
  refine (Find_any T la n lcap lb loff _ HV.out hn).mono ?_
  rintro e w2 ⟨v, r, rfl, hf, hE⟩
  have HR : Hid (r = true ↔ told T 1 ≠ []) := Lib.hid (by
    rcases hf with ⟨rfl, o, ho, -⟩ | ⟨rfl, -, h⟩
    · exact ⟨fun _ e => by rw [e] at ho; simp at ho, fun _ => rfl⟩
    · exact ⟨fun h => (by cases h), fun h2 => absurd h h2⟩)
  have HE := Lib.hid hE
  clear hf hE
  go_wp2_with fail
  go_ret
  exact ⟨⟨r, rfl, HR.out⟩, HE.out⟩
theorem told_one {T : List C} {o : List Nat} (h : [o] <+: told T 1) : told T 1 = [o] := by
  have hl : (told T 1).length ≤ 1 := by
    unfold told
    split
    · exact List.length_take_le _ _
    · simp
  exact (h.eq_of_length_le hl).symm
/-- What the loop over the lines keeps. -/
structure SI (w : World) (T : List C) (la : Option Addr) (n lb loff : Nat) (oa : Option Addr) (m ob ooff : Nat) (o : List Int) (n8 n10 : Nat) (v : Value) (items : List (Value × List Nat)) (pre : List (List Nat)) (W : World) : Prop where
  res : Boxed W w.heap.size 4 (.bool false)
  want : Boxed W n8 31 v
  got : Boxed W n10 3 (.int .i64 ((pre.length : Nat) : Int))
  rows : Rows2 W w.heap.size v items
  vc : VC W la n lb loff T
  vz : VZ W oa m ob ooff o
  ext : Below w.heap.size w W
set_option maxRecDepth 100000 in
set_option maxHeartbeats 8000000 in
theorem lines_go (T : List C) (la : Option Addr) (n lcap lb loff : Nat) (o : List Int) (oa : Option Addr) (m ocap ob ooff : Nat) (mst : Int) (w : World) (hV : VC w la n lb loff T) (hO : VZ w oa m ob ooff o) (hn : n ≤ 5) (hm : m ≤ 6) (h0 : 0 ≤ mst) (h1 : mst ≤ 18446744073709551615) :
    Calls Try.prog 4 #[.slice la n lcap, .slice oa m ocap, .int .u64 mst] w fun e w' => e = .returned (.bool true) ∧ Ext w w' := by
  have HV := Lib.hid hV
  have HO := Lib.hid hO
  obtain ⟨L, hL⟩ : ∃ L : Nat, mst % 20 = (L : Int) := ⟨(mst % 20).toNat, by omega⟩
  have hL20 : L < 20 := by omega
  have e1 : decide (5 < n) = false := decide_eq_false (by omega)
  have e2 : decide (6 < m) = false := decide_eq_false (by omega)
  clear hV hO
  refine (callsIn_wide (n := 3)).1 ?_
  refine callsIn_of_wp_marks Try.func4 rfl trivial ?_ rfl
  simp only [Try.ntmps4, List.size_toArray, List.length_cons, List.length_nil, Nat.reduceAdd, Nat.reduceSub, Array.replicate_succ, Array.replicate_zero, List.push_toArray, List.append_toArray, List.nil_append, List.cons_append]
  refine wpIn_wide.2 ?_
  go_upto_region 4 with (first | go_guarded)
  obtain ⟨W1, hW1⟩ : ∃ W, w.alloc (.cells #[.bool false] 4) = W := ⟨_, rfl⟩
  have HE1 := Lib.hid (show Ext w W1 by rw [← hW1]; exact ext_alloc _ _)
  have HB1 := Lib.hid (show Boxed W1 w.heap.size 4 (.bool false) by rw [← hW1]; exact Boxed.new w 4 _)
  rw [hW1]
  have HLL := Lib.hid hL20
  clear hW1 e1 e2 hL
  go_wp2_with (first | go_guarded)
  refine (rLines_any T la n lcap lb loff L _ (HV.out.ext HE1.out) hn (by omega)).mono ?_
  rintro e W2 ⟨⟨v, items, rfl, hr2, hit⟩, hE2⟩
  obtain ⟨gv, cv, bv, rfl, hgv, hcells⟩ := hr2.get
  obtain ⟨N, hN⟩ : ∃ N, items.length = N := ⟨_, rfl⟩
  rw [hN] at hr2 hgv ⊢
  have HR2 := Lib.hid (show Rows2 W2 w.heap.size (.slice gv N cv) items from ⟨hr2.row.base HE1.out.size, fun x hx => (hr2.each x hx).base HE1.out.size⟩)
  have HIT := Lib.hid (And.intro hit (And.intro hN (And.intro hgv hcells)))
  have HE2 := Lib.hid (HE1.out.trans hE2)
  have HB2 := Lib.hid (show Boxed W2 w.heap.size 4 (.bool false) from (hE2.block _ HB1.out.lt).trans HB1.out)
  clear hr2 hit hN hgv hcells hE2
  go_upto_region 5 with (first | go_guarded)
  obtain ⟨W3, hW3⟩ : ∃ W, W2.alloc (.cells #[.slice gv N cv] 31) = W := ⟨_, rfl⟩
  have HE3 := Lib.hid (show Ext W2 W3 by rw [← hW3]; exact ext_alloc _ _)
  have HB8 := Lib.hid (show Boxed W3 W2.heap.size 31 (.slice gv N cv) by rw [← hW3]; exact Boxed.new W2 _ _)
  rw [hW3]
  clear hW3
  go_wp2_with (first | go_guarded)
  refine (Lines_any la n lcap L _).mono ?_
  rintro e W4 ⟨⟨b1, b2, rfl, c1, c2⟩, hE4⟩
  have HE4 := Lib.hid (HE3.out.trans hE4)
  have HC4 := Lib.hid (And.intro c1 c2)
  have HB84 := Lib.hid (show Boxed W4 W2.heap.size 31 (.slice gv N cv) from (hE4.block _ HB8.out.lt).trans HB8.out)
  have hfn := fun (w : World) (f : Fn) (x y : Array Value) => run_eq_func_nil (P := Try.prog) Try.underlying34 f x y w
  clear c1 c2 hE4
  go_upto_region 9 with (first | go_guarded)
  clear hfn
  obtain ⟨W5, hW5⟩ : ∃ W, W4.alloc (.cells #[.int .i64 0] 3) = W := ⟨_, rfl⟩
  have HE5 := Lib.hid (show Ext W4 W5 by rw [← hW5]; exact ext_alloc _ _)
  have HB10 := Lib.hid (show Boxed W5 W4.heap.size 3 (.int .i64 0) by rw [← hW5]; exact Boxed.new W4 _ _)
  have hz5 : W5.heap.size = W4.heap.size + 1 := by rw [← hW5]; simp
  rw [hW5]
  clear hW5
  have HSI := Lib.hid (show SI w T la n lb loff oa m ob ooff o W2.heap.size W4.heap.size (.slice gv N cv) items [] W5 from
    ⟨(HE5.out.block _ (Nat.lt_of_lt_of_le HB2.out.lt HE4.out.size)).trans ((HE4.out.block _ HB2.out.lt).trans HB2.out), (HE5.out.block _ HB84.out.lt).trans HB84.out, HB10.out, HR2.out.ext (HE4.out.trans HE5.out), HV.out.ext (HE2.out.trans (HE4.out.trans HE5.out)), HO.out.ext (HE2.out.trans (HE4.out.trans HE5.out)), HE2.out.trans (HE4.out.trans HE5.out)⟩)
  have HLT := Lib.hid (show Rows2Lt W5.heap.size (.slice gv N cv) items from HSI.out.rows.lt)
  have HS := Lib.hid (lines_seq (3 - 1) T lb loff la n lcap b1 b2 L W5 HSI.out.vc (by omega) (by omega) ((HE5.out.cell (World.block_lt_of_cell? _ _ HC4.out.1)).trans HC4.out.1) ((HE5.out.cell (World.block_lt_of_cell? _ _ HC4.out.2)).trans HC4.out.2))
  have hz : w.heap.size < W2.heap.size := HB2.out.lt
  have HLT4 := Lib.hid (show Rows2Lt W4.heap.size (.slice gv N cv) items from ⟨fun k hk => Nat.lt_of_lt_of_le (HR2.out.lt.1 k hk) HE4.out.size, fun x hx k hk => Nat.lt_of_lt_of_le (HR2.out.lt.2 x hx k hk) HE4.out.size⟩)
  have hz2 : W2.heap.size < W4.heap.size := HB84.out.lt
  have HLB := Lib.hid (fun hp : 0 < n => HV.out.lt hp)
  have HOB := Lib.hid (fun hp : 0 < m => HO.out.lt hp)
  go_wp2_with (first | go_guarded)
  refine wpIn_wide (n := 3).1 ?_
  refine wpIn_range_B (n := 3) (gf := 19) (lb := #[.pointer (some ⟨b1, 0, none⟩), .pointer (some ⟨b2, 0, none⟩)]) rfl (enters_of Try.func19 (by kernel_rfl) rfl)
    HS.out ?hKt ?hKb (Below.refl _ _) (fun _ => rfl) ?hHd (SI w T la n lb loff oa m ob ooff o W2.heap.size W4.heap.size (.slice gv N cv) items) (fun _ _ _ _ => False) ?hI (fun _ _ _ _ _ h _ => h) HSI.out ?hab ?done ?stop
  case hKt => exact fun h k => ⟨h.1.trans k.1, fun hp o ho => k.2 hp o (h.2 hp o ho)⟩
  case hKb =>
    intro W l o o' hl ho hc hw
    have key : ∀ E, Prg.KeepsTy E W (W.putObj l o') := fun E k cs f hk => by
      rw [World.putObj_heap_other (fun e => by subst e; rw [ho] at hk; cases hk; cases hc)]
      exact hk
    refine ⟨⟨key _, key _, key _⟩, fun hp o2 ho2 => ?_⟩
    have hlt := HLB.out hp
    rw [World.putObj_heap_other (by omega)]
    exact ho2
  case hHd =>
    intro x v c W l o o' h hl ho hc
    exact row_keep (S := (· = l)) h (chg_putObj _ rfl) (fun k hk => by omega)
  case hI =>
    rintro s A A' h hc
    exact ⟨boxed_chg h.res hc (by omega), boxed_chg h.want hc (by omega), boxed_chg h.got hc (by omega), h.rows.chg HLT.out hc (fun k hk => hk), h.vc.chg hc (fun hp => by have := HLB.out hp; omega), h.vz.chg hc (fun hp => by have := HOB.out hp; omega), below_of_chg h.ext hc (fun i hi => by omega)⟩
  case hab =>
    apply Exists.intro
    refine ⟨?assign, ?body⟩
    case assign =>
      intro l x W K hK
      gi_wp2
      exact hK
    case body =>
      rintro lo pre x v c Wr hlo hlc _ hr hI hpre
      have hlen : pre.length + 1 ≤ N := by
        have h := hpre.length_le
        rw [← HIT.out.1, List.length_map, HIT.out.2.1, List.length_append] at h
        exact h
      obtain ⟨j, hj⟩ : ∃ j, pre.length = j := ⟨_, rfl⟩
      have hjN : j < items.length := by rw [HIT.out.2.1]; omega
      have hx2 : items[j].2 = x := by
        have h1 : (items.map Prod.snd)[j]? = some x := by
          rw [HIT.out.1]
          obtain ⟨R, hR⟩ := hpre
          rw [← hR, List.append_assoc, List.getElem?_append_right (by omega), hj, Nat.sub_self]
          rfl
        rw [List.getElem?_map, List.getElem?_eq_getElem hjN] at h1
        exact Option.some.inj h1
      obtain ⟨ga, gc, gb, hge, hga, hgc⟩ := hI.rows.get
      simp only [Value.slice.injEq] at hge
      obtain ⟨rfl, -, rfl⟩ := hge
      obtain rfl := hga (by omega)
      have c8 := hI.want.cell
      have c10 := hI.got.cell
      have f10 := hI.got.frozen
      have y1 := hgc Wr (Ext.refl _) j hjN
      obtain ⟨ia, ic, ib, hie, hiz⟩ := row_vz (hI.rows.each _ (List.getElem_mem hjN))
      obtain ⟨xa, xc, xb, rfl, hxz⟩ := row_vz hr
      rw [hie, hx2] at y1
      rw [hx2] at hiz
      rw [hj] at c10
      obtain ⟨xl, hxl⟩ : ∃ xl, x.length = xl := ⟨_, rfl⟩
      rw [hxl] at hiz hxz y1 ⊢
      have hx60 : xl ≤ 60 := by
        have h1 : x ∈ told T L := hpre.subset (by simp)
        unfold told at h1
        split at h1
        · have h2 := (mem_lns T x).1 (List.mem_of_mem_take h1)
          rw [← hxl, h2.len, HV.out.len]
          omega
        · cases h1
      have HXZ := Lib.hid (And.intro hiz hxz)
      have HI := Lib.hid hI
      have HJ := Lib.hid hj
      have hjN' : j < N := by rw [← HIT.out.2.1]; exact hjN
      have d1 : decide (N ≤ j) = false := decide_eq_false (by omega)
      have hN100 : N ≤ 1000 := by
        rw [← HIT.out.2.1, ← List.length_map (f := Prod.snd), HIT.out.1]
        unfold told
        split
        · have := List.length_take_le L (lns T T.length [] s0); omega
        · simp
      clear hr hI hpre hlen hj hjN hx2 hgc hga hie hiz hxz hxl
      gi_wp2
      refine ⟨trivial, (CallsIn.inRound lo (callsIn_wide.2 (rSame_any _ _ xa ia xl xc xb 0 xl ic ib 0 _ HXZ.out.2 HXZ.out.1 hx60 hx60))).mono ?_⟩
      rintro e W6 ⟨rfl, hE6⟩
      have hd : decide ((x.map fun (i : Nat) => (i : Int)) = x.map fun (i : Nat) => (i : Int)) = true := decide_eq_true rfl
      rw [hd]
      have hb10 : Boxed W6 W4.heap.size 3 (.int .i64 (j : Int)) := by
        have h := HI.out.got
        rw [HJ.out] at h
        exact (hE6.block _ h.lt).trans h
      have c10 := hb10.cell
      have f10 := hb10.frozen
      have HB6 := Lib.hid (And.intro hb10 hE6)
      clear hd hb10 hE6 y1 c8
      gi_wp2
      have hc1 : Chg (· = W4.heap.size) Wr (W6.setCell ⟨W4.heap.size, 0, none⟩ (.int .i64 ((j : Int) + 1))) := (Chg.of_below HB6.out.2).trans (Chg.set _ _ _ _)
      have off : ∀ E, E ≠ 3 → Off (· = W4.heap.size) Wr E := fun E h1 k hk cs f hh => by
        subst hk
        rw [show Wr.heap[W4.heap.size]? = _ from HI.out.got] at hh
        simp only [Option.some.injEq, Obj.cells.injEq] at hh
        exact h1 hh.2.1.symm
      refine ⟨HiFrom.of_chg hc1 (fun k hk => by omega), ⟨Kq.of_chg hc1 (off _ (by decide)) (off _ (by decide)) (off _ (by decide)), fun hp o ho => ?_⟩, ⟨boxed_chg HI.out.res hc1 (by omega), boxed_chg HI.out.want hc1 (by omega), ?_, HI.out.rows.chg HLT4.out hc1 (fun k hk => by omega), HI.out.vc.chg hc1 (fun hp => by have := HLB.out hp; omega), HI.out.vz.chg hc1 (fun hp => by have := HOB.out hp; omega), below_of_chg HI.out.ext hc1 (fun i hi => by omega)⟩⟩
      · have := HLB.out hp
        rw [hc1.block lb (Array.getElem?_eq_some_iff.1 ho).1 (by omega)]
        exact ho
      · rw [show (((pre ++ [x]).length : Nat) : Int) = (j : Int) + 1 by rw [List.length_append, HJ.out]; rfl]
        exact HB6.out.1.set _
  case done =>
    rintro D xs W6 hD hxs hI hK
    subst hxs
    have hN : ((told T L).length : Nat) = N := by rw [← HIT.out.1, List.length_map, HIT.out.2.1]
    have HI := Lib.hid hI
    have HK := Lib.hid hK
    have HN := Lib.hid hN
    clear hI hK hN
    rename_i Kk hKk
    refine hKk _ _ ?_
    clear hKk
    go_wp2_with (first | go_guarded)
    refine (Find_any T la n lcap lb loff _ HI.out.vc (by omega)).mono ?_
    rintro e W7 ⟨fv, fr, rfl, hf, hE7⟩
    have HE7 := Lib.hid hE7
    have HF := Lib.hid hf
    clear hE7 hf
    go_wp2_with (first | go_guarded)
    refine (rLines_any T la n lcap lb loff 1 _ (HI.out.vc.ext HE7.out) hn (by omega)).mono ?_
    rintro e W8 ⟨⟨ov, its, rfl, hr8, hi8⟩, hE8⟩
    have HE8 := Lib.hid (HE7.out.trans hE8)
    have h8 := (HE8.out.block _ HI.out.want.lt).trans HI.out.want
    have h10 := (HE8.out.block _ HI.out.got.lt).trans HI.out.got
    have c8 := (show Boxed W8 W2.heap.size 31 _ from h8).cell
    have c10 := (show Boxed W8 W4.heap.size 3 _ from h10).cell
    rw [HN.out] at c10
    have dN : ((N : Int) == (N : Int)) = true := by simp
    have dN' : (N == N) = true := by simp
    obtain ⟨oga, ogc, ogb, rfl, hga, hgc⟩ := hr8.get
    rcases HF.out with ⟨rfl, fo, hfo, hfr⟩ | ⟨rfl, rfl, hft⟩
    · have ht := told_one hfo
      rw [ht] at hi8
      obtain ⟨it, rfl⟩ : ∃ it, its = [it] := by
        match its, hi8 with
        | [], h => cases h
        | [it], _ => exact ⟨it, rfl⟩
        | _ :: _ :: _, h => simp at h
      have hit2 : it.2 = fo := by simpa using hi8
      obtain rfl := hga (by simp)
      have y1 := hgc W8 (Ext.refl _) 0 (by simp)
      obtain ⟨ia, ic, ib, hie, hiz⟩ := row_vz (hr8.each it (by simp))
      obtain ⟨xa, xc, xb, rfl, hxz⟩ := row_vz (hfr.ext hE8)
      simp only [List.getElem_cons_zero] at y1
      rw [hie, hit2] at y1
      rw [hit2] at hiz
      obtain ⟨xl, hxl⟩ : ∃ xl, fo.length = xl := ⟨_, rfl⟩
      rw [hxl] at hiz hxz y1 ⊢
      have hx60 : xl ≤ 60 := by
        have h2 := told_line hfo
        rw [← hxl, h2.len, HV.out.len]
        omega
      have HXZ := Lib.hid (And.intro hiz hxz)
      have HTO := Lib.hid ht
      have dl : ([it] : List (Value × List Nat)).length = 1 := rfl
      rw [dl]
      clear hE8 hr8 hi8 h8 h10 hga hgc hfo hfr ht hit2 hie hiz hxz hxl dl HF
      go_wp2_with (first | go_guarded)
      refine (rSame_any _ _ xa ia xl xc xb 0 xl ic ib 0 _ HXZ.out.2 HXZ.out.1 hx60 hx60).mono ?_
      rintro e W9 ⟨rfl, hE9⟩
      have HE9 := Lib.hid (HE8.out.trans hE9)
      have hd : decide ((fo.map fun (i : Nat) => (i : Int)) = fo.map fun (i : Nat) => (i : Int)) = true := decide_eq_true rfl
      rw [hd]
      clear hd hE9 y1 c8 c10 dN dN'
      go_wp2_with (first | go_guarded)
      refine (Linear_any T la n lcap lb loff _ (HI.out.vc.ext HE9.out) (by omega)).mono ?_
      rintro e Wa ⟨⟨r2, rfl, hr2⟩, hEa⟩
      obtain rfl : r2 = true := hr2.2 (by rw [HTO.out]; simp)
      have HEa := Lib.hid (HE9.out.trans hEa)
      clear hr2 hEa
      go_wp2_with (first | go_guarded)
      refine (sLine_any T la n lcap lb loff o oa m ocap ob ooff _ (HI.out.vc.ext HEa.out) (HI.out.vz.ext HEa.out) (by omega) (by omega)).mono ?_
      rintro e Wb ⟨⟨r3, rfl, hr3⟩, hEb⟩
      have HR3 := Lib.hid hr3
      have HEb := Lib.hid (HEa.out.trans hEb)
      clear hr3 hEb
      go_wp2_with (first | go_guarded)
      refine (rLine_any T la n lcap lb loff o oa m ocap ob ooff _ (HI.out.vc.ext HEb.out) (HI.out.vz.ext HEb.out) (by omega) (by omega)).mono ?_
      rintro e Wc ⟨⟨r4, rfl, hr4⟩, hEc⟩
      obtain rfl : r4 = r3 := by rw [Bool.eq_iff_iff, hr4, ← HR3.out]
      have HEc := Lib.hid (HEb.out.trans hEc)
      clear hr4 hEc
      have e9 : (r4 == r4) = true := by simp
      go_wp2_with (first | go_guarded)
      refine (seAwake_any _).mono ?_
      rintro e Wd ⟨rfl, hEd⟩
      have HEd := Lib.hid (HEc.out.trans hEd)
      have hb6 : Boxed Wd w.heap.size 4 (.bool false) := (HEd.out.block _ HI.out.res.lt).trans HI.out.res
      have c6 := hb6.cell
      have f6 := hb6.frozen
      have HB6 := Lib.hid hb6
      clear hEd hb6 e9
      go_wp2_with (first | go_guarded)
      have k1 := HB6.out.set (.bool true)
      have hKd : (Wd.setCell ⟨w.heap.size, 0, none⟩ (.bool true)).heap[D]? = some (.deferred (some [])) := by
        rw [Below.heap_setCell _ _ _ _ (show D ≠ w.heap.size by omega), HEd.out.block D (Array.getElem?_eq_some_iff.1 HK.out).1]
        exact HK.out
      have hBd : Below w.heap.size w (Wd.setCell ⟨w.heap.size, 0, none⟩ (.bool true)) := ((HI.out.ext).trans (HEd.out.mono HI.out.ext.size)).setCell (p := ⟨w.heap.size, 0, none⟩) (Nat.le_refl _) _
      have g1 := (boxed_put (o := .deferred none) k1 (show w.heap.size ≠ D by omega)).cell
      have hB2 := below_of_chg (S := (· = D)) hBd (chg_putObj (.deferred none) rfl) (fun i hi => by omega)
      refine ⟨by simp, .inl ⟨_, _, rfl, run_takeDeferred hKd, ?_⟩⟩
      refine ⟨.bool true, ?_, rfl, hB2⟩
      simp [results, go_sem, g1]
    · rw [hft] at hi8
      obtain rfl : its = [] := by simpa using hi8
      have HTO := Lib.hid hft
      have dl : ([] : List (Value × List Nat)).length = 0 := rfl
      rw [dl]
      clear hE8 hr8 hi8 h8 h10 hga hgc hft dl HF
      go_wp2_with (first | go_guarded)
      refine (Linear_any T la n lcap lb loff _ (HI.out.vc.ext HE8.out) (by omega)).mono ?_
      rintro e Wa ⟨⟨r2, rfl, hr2⟩, hEa⟩
      obtain rfl : r2 = false := (by cases r2 with | false => rfl | true => exact absurd HTO.out (hr2.1 rfl))
      have HEa := Lib.hid (HE8.out.trans hEa)
      clear hr2 hEa
      go_wp2_with (first | go_guarded)
      refine (sLine_any T la n lcap lb loff o oa m ocap ob ooff _ (HI.out.vc.ext HEa.out) (HI.out.vz.ext HEa.out) (by omega) (by omega)).mono ?_
      rintro e Wb ⟨⟨r3, rfl, hr3⟩, hEb⟩
      have HR3 := Lib.hid hr3
      have HEb := Lib.hid (HEa.out.trans hEb)
      clear hr3 hEb
      go_wp2_with (first | go_guarded)
      refine (rLine_any T la n lcap lb loff o oa m ocap ob ooff _ (HI.out.vc.ext HEb.out) (HI.out.vz.ext HEb.out) (by omega) (by omega)).mono ?_
      rintro e Wc ⟨⟨r4, rfl, hr4⟩, hEc⟩
      obtain rfl : r4 = r3 := by rw [Bool.eq_iff_iff, hr4, ← HR3.out]
      have HEc := Lib.hid (HEb.out.trans hEc)
      clear hr4 hEc
      have e9 : (r4 == r4) = true := by simp
      go_wp2_with (first | go_guarded)
      refine (seAwake_any _).mono ?_
      rintro e Wd ⟨rfl, hEd⟩
      have HEd := Lib.hid (HEc.out.trans hEd)
      have hb6 : Boxed Wd w.heap.size 4 (.bool false) := (HEd.out.block _ HI.out.res.lt).trans HI.out.res
      have c6 := hb6.cell
      have f6 := hb6.frozen
      have HB6 := Lib.hid hb6
      clear hEd hb6 e9
      go_wp2_with (first | go_guarded)
      have k1 := HB6.out.set (.bool true)
      have hKd : (Wd.setCell ⟨w.heap.size, 0, none⟩ (.bool true)).heap[D]? = some (.deferred (some [])) := by
        rw [Below.heap_setCell _ _ _ _ (show D ≠ w.heap.size by omega), HEd.out.block D (Array.getElem?_eq_some_iff.1 HK.out).1]
        exact HK.out
      have hBd : Below w.heap.size w (Wd.setCell ⟨w.heap.size, 0, none⟩ (.bool true)) := ((HI.out.ext).trans (HEd.out.mono HI.out.ext.size)).setCell (p := ⟨w.heap.size, 0, none⟩) (Nat.le_refl _) _
      have g1 := (boxed_put (o := .deferred none) k1 (show w.heap.size ≠ D by omega)).cell
      have hB2 := below_of_chg (S := (· = D)) hBd (chg_putObj (.deferred none) rfl) (fun i hi => by omega)
      refine ⟨by simp, .inl ⟨_, _, rfl, run_takeDeferred hKd, ?_⟩⟩
      refine ⟨.bool true, ?_, rfl, hB2⟩
      simp [results, go_sem, g1]
  case stop => exact fun _ _ _ _ _ _ _ _ h _ => h.elim
theorem leaves_ret {n : Nat} {P : Program} {fn : Func} {R : Ending → World → Prop} {tmps : Array Value} {w : World} {v : Value} (h : (results fn tmps).run P w = .ok v w) (hR : R (.returned v) w) : bodyPostM Fence.wide n P fn R .ret { tmps, defers := [] } w :=
  ⟨v, h, hR⟩
set_option maxRecDepth 100000 in
set_option maxHeartbeats 2000000 in
theorem lines_off (la : Option Addr) (n lcap : Nat) (oa : Option Addr) (m ocap : Nat) (mst : Int) (w : World) (h : 5 < n ∨ (n ≤ 5 ∧ 6 < m)) :
    Calls Try.prog 4 #[.slice la n lcap, .slice oa m ocap, .int .u64 mst] w fun e w' => e = .returned (.bool true) ∧ Ext w w' := by
  have key : ∀ b1 b2 : Bool, b1 = decide (5 < n) → b2 = decide (6 < m) → (b1 || b2) = true → Calls Try.prog 4 #[.slice la n lcap, .slice oa m ocap, .int .u64 mst] w fun e w' => e = .returned (.bool true) ∧ Ext w w' := by
    intro b1 b2 h1 h2 h3
    have e1 : decide (5 < n) = b1 := h1.symm
    have e2 : decide (6 < m) = b2 := h2.symm
    have e1' : decide (5 < (n : Int)) = b1 := by rw [h1]; exact decide_eq_decide.2 (by omega)
    have e2' : decide (6 < (m : Int)) = b2 := by rw [h2]; exact decide_eq_decide.2 (by omega)
    clear h1 h2 h
    refine (callsIn_wide (n := 3)).1 ?_
    refine callsIn_of_wp_marks Try.func4 rfl trivial ?_ rfl
    simp only [Try.ntmps4, List.size_toArray, List.length_cons, List.length_nil, Nat.reduceAdd, Nat.reduceSub, Array.replicate_succ, Array.replicate_zero, List.push_toArray, List.append_toArray, List.nil_append, List.cons_append]
    refine wpIn_wide.2 ?_
    cases b1 with
    | true =>
      go_wp2_with (first | go_guarded)
      refine (seAwake_any _).mono ?_
      rintro e w1 ⟨rfl, hE⟩
      have hb2 : Boxed w1 w.heap.size 4 (.bool false) := (hE.block _ (Boxed.new w 4 (.bool false)).lt).trans (Boxed.new w 4 _)
      have r0 := hb2.cell
      have r1 := hb2.frozen
      go_wp2_with (first | go_guarded)
      have r2 := (hb2.set (.bool true)).cell
      refine leaves_ret (v := .bool true) (by simp [results, go_sem, r2]) ⟨rfl, ?_⟩
      exact ((ext_alloc _ _).trans hE).setCell (p := ⟨w.heap.size, 0, none⟩) (Nat.le_refl _) _
    | false =>
      obtain rfl : b2 = true := by simpa using h3
      go_wp2_with (first | go_guarded)
      refine (seAwake_any _).mono ?_
      rintro e w1 ⟨rfl, hE⟩
      have hb2 : Boxed w1 w.heap.size 4 (.bool false) := (hE.block _ (Boxed.new w 4 (.bool false)).lt).trans (Boxed.new w 4 _)
      have r0 := hb2.cell
      have r1 := hb2.frozen
      go_wp2_with (first | go_guarded)
      have r2 := (hb2.set (.bool true)).cell
      refine leaves_ret (v := .bool true) (by simp [results, go_sem, r2]) ⟨rfl, ?_⟩
      exact ((ext_alloc _ _).trans hE).setCell (p := ⟨w.heap.size, 0, none⟩) (Nat.le_refl _) _
  rcases h with h | ⟨h1, h2⟩
  · exact key _ _ rfl rfl (by rw [decide_eq_true h]; rfl)
  · exact key _ _ rfl rfl (by rw [decide_eq_true h2]; simp)
theorem lines_walk (T : List C) (la : Option Addr) (n lcap lb loff : Nat) (o : List Int) (oa : Option Addr) (m ocap ob ooff : Nat) (mst : Int) (w : World) (hV : VC w la n lb loff T) (hO : VZ w oa m ob ooff o) (h0 : 0 ≤ mst) (h1 : mst ≤ 18446744073709551615) :
    Calls Try.prog 4 #[.slice la n lcap, .slice oa m ocap, .int .u64 mst] w fun e w' => e = .returned (.bool true) ∧ Ext w w' := by
  by_cases hn : 5 < n
  · exact lines_off la n lcap oa m ocap mst w (.inl hn)
  · by_cases hm : 6 < m
    · exact lines_off la n lcap oa m ocap mst w (.inr ⟨by omega, hm⟩)
    · exact lines_go T la n lcap lb loff o oa m ocap ob ooff mst w hV hO (by omega) (by omega) h0 h1
end Go.Proofs.Ytdfbfcglacalmaa.Hs
end
