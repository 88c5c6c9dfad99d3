/-
  slices.Clone, Insert, Delete, BinarySearch at a slice of whole numbers of one's own, in the words of its list.
-/
import Derived.Test.YtnjohjicmhobdaaOwnSet
import Derived.Test.YtnjohjicmhobdaaLockSh
import Derived.Test.YtnjohjicmhobdaaLockRT
import Derived.Lib.Hide
namespace Go.Proofs.Ytnjohjicmhobdaa.Lo1
open Go.RowKit Go.Seg Go.Open Go.Lib Go.Shelf Go.Deep Go.ChangeShapes Go.WideShapes Lk

def ints (rs : List Int) : List Value := rs.map (Value.int .i64)
/-- A slice of whole numbers of one's own. -/
def Ints (w : World) (B : Nat) (v : Value) (rs : List Int) : Prop := w.ownsRow B 3 1 v rs.length (ints rs)
theorem Ints.ext {w w' : World} {B : Nat} {v : Value} {rs : List Int} (h : Ints w B v rs) (e : Ext w w') : Ints w' B v rs := own_ext h e
theorem Ints.chg {S : Nat → Prop} {w w' : World} {B : Nat} {v : Value} {rs : List Int} (h : Ints w B v rs) (hc : Chg S w w') (hn : Off S w 3) : Ints w' B v rs := own_chg h hc hn
theorem Ints.base {w : World} {B B' : Nat} {v : Value} {rs : List Int} (h : Ints w B v rs) (hB : B' ≤ B) : Ints w B' v rs := own_base h hB
theorem Ints.openI {w : World} {B : Nat} {v : Value} {rs : List Int} (h : Ints w B v rs) : ∃ (a : Option Addr) (cap b : Nat), v = .slice a rs.length cap ∧ rs.length ≤ cap ∧ cap ≤ maxLen ∧ (0 < rs.length → a = some ⟨b, 0, none⟩) ∧ (0 < rs.length → B ≤ b ∧ b < w.heap.size) ∧
    (∀ W, Ext w W → ∀ j, j < rs.length → W.cell? ⟨b, 0 + j, none⟩ = some (.int .i64 (rs.getD j 0))) := by
  obtain ⟨a, cap, b, hv, h1, h2, h3, h4, h5⟩ := own_open h
  refine ⟨a, cap, b, hv, h1, h2, h3, h4, fun W e j hj => ?_⟩
  rw [Nat.zero_add, h5 W e j (by omega)]
  unfold ints
  simp [List.getD_eq_getElem?_getD, hj]

/-- Is somebody among them? -/
def has (rs : List Int) (x : Int) : Bool := rs.contains x
theorem search_any (B : Nat) (v : Value) (rs : List Int) (hu : rs.Pairwise (· < ·)) (x : Int) (w : World) (h : Ints w B v rs) (hl : rs.length ≤ 1000000) :
    Calls Try.prog 58 #[v, .int .i64 x] w fun e w' => e = .returned (.tuple #[.int .i64 (cnt rs x), .bool (has rs x)]) ∧ Ext w w' := by
  obtain ⟨a, cap, b, rfl, h1, h2, h3, h4, h5⟩ := h.openI
  cases rs with
  | nil =>
    refine (Any.slices_BinarySearch_int_empty Try.laysSearch a cap x w).mono ?_
    rintro e w' ⟨rfl, rfl⟩
    exact ⟨rfl, Ext.refl _⟩
  | cons y rs =>
    obtain rfl := h3 (by simp)
    refine (Any.slices_BinarySearch_int Try.laysSearch b 0 (y :: rs).length cap (y :: rs) x w (Nat.le_refl _) (by omega) (h5 w (Ext.refl _)) ?_).mono ?_
    · rw [List.take_length]
      exact hu.imp (fun h => by omega)
    · rintro e w' ⟨rfl, q, rfl⟩
      rw [List.take_length]
      exact ⟨rfl, ext_drewN w q⟩
theorem ints_getElem (rs : List Int) (j : Nat) (v : Value) (h : (ints rs)[j]? = some v) : j < rs.length ∧ v = .int .i64 (rs.getD j 0) := by
  unfold ints at h
  rw [List.getElem?_map] at h
  cases hj : rs[j]? with
  | none => rw [hj] at h; cases h
  | some x =>
    rw [hj] at h
    simp at h
    obtain ⟨hlt, _⟩ := List.getElem?_eq_some_iff.1 hj
    exact ⟨hlt, by rw [← h]; simp [List.getD_eq_getElem?_getD, hj]⟩
theorem ints_one (rs : List Int) : ∀ v ∈ ints rs, v.oneCell' = true := by
  intro v hv
  unfold ints at hv
  obtain ⟨x, _, rfl⟩ := List.mem_map.1 hv
  rfl

/-- A new row whose first cells are these. -/
theorem ints_new {w : World} {g cap : Nat} {cur : Array Value} {rs : List Int} {B : Nat} (hg : w.heap[g]? = some (.cells cur 3 (0, 0))) (hB : B ≤ g) (hn : rs.length ≤ cap) (hm : cap ≤ maxLen) (hs : cur.size = cap) (ht : cur.toList.take rs.length = ints rs) : Ints w B (.slice (some ⟨g, 0, none⟩) rs.length cap) rs :=
  ⟨by unfold ints; simp, .inr ⟨g, cap, cur, rfl, hB, hg, hn, hm, by omega, by simpa using ht⟩⟩

def insAt (rs : List Int) (i : Nat) (x : Int) : List Int := rs.take i ++ x :: rs.drop i
theorem insAt_length {rs : List Int} {i : Nat} (h : i ≤ rs.length) (x : Int) : (insAt rs i x).length = rs.length + 1 := by
  unfold insAt
  simp
  omega

theorem zero_size (n : Nat) : (Builtin.zeroCells (Value.int .i64 0).cells n).size = n := by
  unfold Builtin.zeroCells
  simp [Value.cells]

set_option maxHeartbeats 1000000 in
theorem insert_any (B : Nat) (v : Value) (rs : List Int) (i : Nat) (x : Int) (vb : Nat) (w : World) (h : Ints w B v rs) (hB : B ≤ w.heap.size) (hl : rs.length ≤ 1000000) (hi : i ≤ rs.length) (hvb : Blk w vb #[.int .i64 x] 3) (hne : v.ownBlock ≠ some vb) :
    Calls Try.prog 61 #[v, .int .i64 i, .slice (some ⟨vb, 0, none⟩) 1 1] w fun e w' => ∃ v', e = .returned v' ∧ Ints w' B v' (insAt rs i x) ∧ Chg (fun k => v.ownBlock = some k) w w' := by
  have hx0 : w.cell? ⟨vb, 0, none⟩ = some (.int .i64 x) := hvb.cell (i := 0) rfl
  have hvs : ∀ (j : Nat) (u : Value), [Value.int .i64 x][j]? = some u → w.cell? ⟨vb, 0 + j, none⟩ = some u := by
    intro j u hj
    cases j with
    | zero => simp at hj; subst hj; simpa using hx0
    | succ j => simp at hj
  have h1v : ∀ u ∈ [Value.int .i64 x], u.oneCell' = true := by intro u hu; simp at hu; subst hu; rfl
  have hmx : (rs.length + 1) * 8 ≤ 140737488355328 := by omega
  obtain ⟨hlen, hrow⟩ := h
  rcases hrow with ⟨rfl, hz⟩ | ⟨g, cap, cur, rfl, hg, hh, hn, hm, hs, ht⟩
  · have hrs : rs = [] := List.length_eq_zero_iff.1 hz
    subst hrs
    obtain rfl : i = 0 := by simpa using hi
    refine (Any2.slices_Insert_int_end_grow Try.laysInsert none 0 0 vb 0 1 1 [] [.int .i64 x] w (by omega) (Nat.le_refl _) (by omega) (by omega) rfl rfl (fun _ => rfl) (fun a h => by cases h) hvs h1v).mono ?_
    rintro e w' ⟨rfl, rfl⟩
    rw [show (Try.laysInsert_ren.t 3) = 3 from rfl]
    have g1 := grownCap_ge w (0 + 1) 0 3
    have g2 := grownCap_le_maxLen w (0 + 1) 0 3 (by unfold maxLen; omega)
    refine ⟨_, rfl, ints_new (rs := insAt [] 0 x) (g := w.heap.size) (heap_alloc_new w.drew _) hB g1 g2 ?_ ?_, ?_⟩
    · simp only [Array.size_append, zero_size]
      simp
      have g1' : 1 ≤ grownCap w 1 0 3 := g1
      omega
    · simp [insAt, ints]
    · exact Chg.of_below ((Below.refl _ _).drew.alloc (Nat.le_refl _) _)
  · have hcl : (ints rs).length = rs.length := by unfold ints; simp
    have hcs : ∀ (j : Nat) (u : Value), (ints rs)[j]? = some u → w.cell? ⟨g, 0 + j, none⟩ = some u := by
      intro j u hj
      obtain ⟨hlt, _⟩ := List.getElem?_eq_some_iff.1 hj
      rw [Nat.zero_add, cell_of_row w g j cur 3 (0, 0) hh]
      rw [Nat.mul_one] at ht
      rw [← ht, List.getElem?_take] at hj
      split at hj
      · simpa using hj
      · cases hj
    have hfz : ∀ j, w.frozen? ⟨g, j, none⟩ = false := fun j => Blk.frozen (cs := cur) (E := 3) hh j
    have hsz : cur.size = cap := by omega
    have hvb' : vb ≠ g := fun e => hne (by rw [e]; rfl)
    have hmm := hm
    unfold maxLen at hmm
    have hold : ∀ {w' : World}, Chg (· = g) w w' → Chg (fun k => (Value.slice (some ⟨g, 0, none⟩) rs.length cap).ownBlock = some k) w w' := fun hc => hc.mono (fun k hk => by subst hk; rfl)
    rw [Nat.mul_one] at ht
    by_cases hroom : rs.length + 1 ≤ cap
    · by_cases hend : i = rs.length
      · subst hend
        refine (Any2.slices_Insert_int_end_room Try.laysInsert g 0 rs.length cap vb 0 1 1 [.int .i64 x] w (by omega) hroom (by omega) rfl ?_ ?_ hvs h1v).mono ?_
        · intro j hj
          rw [cell_of_row w g _ cur 3 (0, 0) hh]
          rw [Array.getElem?_eq_getElem (by omega)]
          rfl
        · intro j hj
          exact hfz _
        · rintro e w' ⟨rfl, rfl⟩
          obtain ⟨cur', k1, k2⟩ := heap_setCells g 3 [.int .i64 x] (0 + rs.length) w cur hh (by simp; omega)
          refine ⟨_, rfl, ?_, hold (chg_setCells g _ _ _)⟩
          have hL := insAt_length (rs := rs) (Nat.le_refl _) x
          rw [← hL]
          refine ints_new (cur := cur') k1 hg (by omega) hm ?_ ?_
          · have : cur'.toList.length = cur.toList.length := by rw [k2]; exact over_length (by simp; omega)
            simpa [hsz] using this
          · rw [k2, hL]
            unfold over
            rw [Nat.zero_add, ht]
            unfold insAt
            rw [List.take_append_of_le_length (by simp [hcl]), List.take_of_length_le (by simp [hcl])]
            unfold ints
            simp
      · have hlt : i < rs.length := by omega
        refine (Any2.slices_Insert_int_shift Try.laysInsert g 0 rs.length cap i vb 0 1 1 (ints rs) [.int .i64 x] w hlt (by omega) hroom (by omega) hvb' hcl rfl hcs ?_ ?_ hvs (ints_one rs) h1v 3 3 1 cap ?_ ?_ (by omega) ?_ ?_).mono ?_
        · intro j hj
          rw [cell_of_row w g _ cur 3 (0, 0) hh]
          rw [Array.getElem?_eq_getElem (by omega)]
          rfl
        · intro j hj
          exact hfz _
        · unfold Blk at hvb
          simp [World.shape?, hvb]
        · simp [World.shape?, hh, hsz]
        · exact hvb.frozen 0
        · exact hvb.frozen 1
        · rintro e w' ⟨rfl, rfl⟩
          have hh' : w.drew.heap[g]? = some (.cells cur 3 (0, 0)) := hh
          obtain ⟨c1, k1, k2⟩ := heap_setCells g 3 ((ints rs).drop i) (0 + (i + 1)) w.drew cur hh' (by simp [hcl]; omega)
          have hc1 : c1.toList.length = cur.toList.length := by rw [k2]; exact over_length (by simp [hcl]; omega)
          obtain ⟨c2, k3, k4⟩ := heap_setCells g 3 [.int .i64 x] (0 + i) _ c1 k1 (by simp at hc1 ⊢; omega)
          have hc2 : c2.toList.length = c1.toList.length := by rw [k4]; exact over_length (by simp at hc1 ⊢; omega)
          refine ⟨_, rfl, ?_, hold ((Chg.refl w).drew.trans ((chg_setCells g _ _ _).trans (chg_setCells g _ _ _)))⟩
          have hL := insAt_length (rs := rs) hi x
          rw [← hL]
          refine ints_new (cur := c2) k3 hg (by omega) hm (by simp at hc1 hc2; omega) ?_
          rw [k4, k2, hL]
          have e1 : (over cur.toList (0 + (i + 1)) ((ints rs).drop i)).take i = (ints rs).take i := by
            unfold over
            rw [Nat.zero_add, List.append_assoc, List.take_append_of_le_length (by simp; omega), List.take_take, Nat.min_eq_left (by omega), ← ht, List.take_take, Nat.min_eq_left (by omega)]
          have e2 : (over cur.toList (0 + (i + 1)) ((ints rs).drop i)).drop (i + 1) = (ints rs).drop i ++ cur.toList.drop (0 + (i + 1) + ((ints rs).drop i).length) := by
            unfold over
            rw [Nat.zero_add, List.append_assoc, List.drop_append_of_le_length (by simp; omega)]
            rw [List.drop_eq_nil_of_le (by simp; omega), List.nil_append]
          unfold over at e1 e2 ⊢
          rw [show 0 + i = i from Nat.zero_add i, show i + [Value.int .i64 x].length = i + 1 from rfl, e1, e2]
          unfold insAt ints
          rw [List.map_append, List.map_take, List.map_cons, List.map_drop]
          rw [← List.append_assoc, List.take_append_of_le_length (by simp; omega), List.take_of_length_le (by simp; omega)]
          simp
    · by_cases hend : i = rs.length
      · subst hend
        refine (Any2.slices_Insert_int_end_grow Try.laysInsert (some ⟨g, 0, none⟩) rs.length cap vb 0 1 1 (ints rs) [.int .i64 x] w (by omega) hn (by omega) (by omega) hcl rfl (fun h => by cases h) (fun a h j u hj => by cases h; rw [add_plain]; exact hcs j u hj) hvs h1v).mono ?_
        rintro e w' ⟨rfl, rfl⟩
        rw [show (Try.laysInsert_ren.t 3) = 3 from rfl]
        have g1 := grownCap_ge w (rs.length + 1) cap 3
        have g2 := grownCap_le_maxLen w (rs.length + 1) cap 3 (by unfold maxLen; omega)
        have hL := insAt_length (rs := rs) (Nat.le_refl _) x
        refine ⟨_, rfl, ?_, Chg.of_below ((Below.refl _ _).drew.alloc (Nat.le_refl _) _)⟩
        rw [← hL] at g1 g2 ⊢
        refine ints_new (g := w.heap.size) (heap_alloc_new w.drew _) hB g1 g2 ?_ ?_
        · simp only [Array.size_append, zero_size]
          simp [hcl]
          omega
        · rw [hL]
          simp only [Array.toList_append]
          rw [List.take_append_of_le_length (by simp [hcl]), List.take_of_length_le (by simp [hcl])]
          unfold insAt ints
          simp
      · have hlt : i < rs.length := by omega
        refine (Any2.slices_Insert_int_grow Try.laysInsert g 0 rs.length cap i vb 0 1 1 (ints rs) [.int .i64 x] w hlt (by omega) hn (by omega) (by omega) hcl rfl hcs hvs (ints_one rs) h1v).mono ?_
        rintro e w' ⟨rfl, rfl⟩
        rw [show (Try.laysInsert_ren.t 3) = 3 from rfl]
        have g1 := grownCap_ge w (rs.length + 1) cap 3
        have g2 := grownCap_le_maxLen w (rs.length + 1) cap 3 (by unfold maxLen; omega)
        have hL := insAt_length (rs := rs) hi x
        obtain ⟨gc, hgc⟩ : ∃ gc, grownCap w (rs.length + 1) cap 3 = gc := ⟨_, rfl⟩
        rw [hgc]
        rw [hgc] at g1 g2
        obtain ⟨c0, hc0⟩ : ∃ c0, (((ints rs).take i).toArray ++ Builtin.zeroCells (Value.int .i64 0).cells (rs.length + 1 - i) ++ Builtin.zeroCells (Value.int .i64 0).cells (gc - (rs.length + 1))) = c0 := ⟨_, rfl⟩
        rw [hc0]
        have s0 : c0.size = gc := by
          rw [← hc0]
          simp only [Array.size_append, zero_size]
          simp [hcl]
          omega
        have t0 : c0.toList.take i = (ints rs).take i := by
          rw [← hc0]
          simp only [Array.toList_append]
          rw [List.append_assoc, List.take_append_of_le_length (by simp [hcl]; omega), List.take_of_length_le (by rw [List.length_take]; omega)]
        have hh' : ((w.alloc (.cells c0 3)).drew).heap[w.heap.size]? = some (.cells c0 3 (0, 0)) := heap_alloc_new w _
        obtain ⟨c1, k1, k2⟩ := heap_setCells w.heap.size 3 [.int .i64 x] i _ c0 hh' (by simp; omega)
        have hc1 : c1.toList.length = c0.toList.length := by rw [k2]; exact over_length (by simp; omega)
        have k1' : ((((w.alloc (.cells c0 3)).drew).setCells w.heap.size i [.int .i64 x]).drew).heap[w.heap.size]? = some (.cells c1 3 (0, 0)) := k1
        have hsz2 : c1.size = c0.size → i + 1 + ((ints rs).drop i).length ≤ c1.size := fun h => by rw [List.length_drop, hcl]; omega
        obtain ⟨c2, k3, k4⟩ := heap_setCells w.heap.size 3 ((ints rs).drop i) (i + 1) _ c1 k1' (hsz2 (by simpa using hc1))
        have hc2 : c2.toList.length = c1.toList.length := by rw [k4]; exact over_length (by have := hsz2 (by simpa using hc1); simpa using this)
        have hE : Ext w ((((w.alloc (.cells c0 3)).drew).setCells w.heap.size i [.int .i64 x]).drew.setCells w.heap.size (i + 1) ((ints rs).drop i)) := by
          have e0 : Below w.heap.size w (w.alloc (.cells c0 3)).drew := ((Below.refl _ _).alloc (Nat.le_refl _) _).drew
          have e1 := below_chg e0 (chg_setCells w.heap.size [.int .i64 x] i _) (fun i hi => by omega)
          exact below_chg e1.drew (chg_setCells w.heap.size ((ints rs).drop i) (i + 1) _) (fun i hi => by omega)
        refine ⟨_, rfl, ?_, Chg.of_below hE⟩
        rw [← hL] at g1 ⊢
        refine ints_new (cur := c2) k3 hB g1 g2 (by simp at hc1 hc2; omega) ?_
        rw [k4, k2, hL]
        have e1 : (over c0.toList i [.int .i64 x]).take (i + 1) = (ints rs).take i ++ [.int .i64 x] := by
          unfold over
          rw [t0, List.take_append_of_le_length (by simp [hcl]; omega), List.take_of_length_le (by simp [hcl]; omega)]
        have hlE : (ints rs).take i ++ [Value.int .i64 x] ++ (ints rs).drop i = ints (insAt rs i x) := by
          unfold insAt ints
          simp
        conv => lhs; unfold over
        unfold over at e1
        rw [e1, List.take_append_of_le_length (by simp [hcl]; omega), List.take_of_length_le (by simp [hcl]; omega), hlE]
end Go.Proofs.Ytnjohjicmhobdaa.Lo1
