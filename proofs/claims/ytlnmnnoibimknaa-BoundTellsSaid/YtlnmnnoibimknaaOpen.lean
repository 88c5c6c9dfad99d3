/-
  What comes in, opened by its type: a struct of plain fields is a row of cells of known kinds; a slice of such is a row of such rows.
  No program in sight; no condition.
-/
import Derived.ProofKit
import Derived.OpenShut
import Derived.Deep.Slices
import Derived.Below
namespace Go.Open
open Go.RowKit Go.ChangeShapes Go.WideShapes Go.Deep

/-- Kinds of cells. -/
inductive CK where
  | i (k : IntKind)
  | b
  | s
  | sl
  | p

def fits : CK → Value → Prop
  | .i k, v => ∃ n, v = .int k n ∧ (Lit.int k n).wf = true
  | .b, v => ∃ x, v = .bool x
  | .s, v => ∃ x : ByteArray, v = .string x ∧ x.size ≤ maxLen
  | .sl, v => ∃ a n c, v = .slice a n c
  | .p, v => ∃ a, v = .pointer a

def FitsAll : List CK → List Value → Prop
  | [], [] => True
  | k :: ks, v :: vs => fits k v ∧ FitsAll ks vs
  | _, _ => False

theorem FitsAll.length : ∀ {ks : List CK} {vs : List Value}, FitsAll ks vs → vs.length = ks.length
  | [], [], _ => rfl
  | _ :: _, _ :: _, h => by simp [FitsAll.length h.2]
  | [], _ :: _, h => h.elim
  | _ :: _, [], h => h.elim

theorem FitsAll.app : ∀ {ks : List CK} {vs : List Value} {ks' : List CK} {vs' : List Value}, FitsAll ks vs → FitsAll ks' vs' → FitsAll (ks ++ ks') (vs ++ vs')
  | [], [], _, _, _, h' => h'
  | _ :: _, _ :: _, _, _, h, h' => ⟨h.1, h.2.app h'⟩
  | [], _ :: _, _, _, h, _ => h.elim
  | _ :: _, [], _, _, h, _ => h.elim

def times {α : Type} : Nat → List α → List α
  | 0, _ => []
  | n + 1, l => l ++ times n l

theorem times_length {α : Type} (l : List α) : ∀ n, (times n l).length = n * l.length
  | 0 => by simp [times]
  | n + 1 => by simp [times, times_length l n, Nat.succ_mul]; omega

def flatFields (P : Program) (g : TypeId → Option (List CK)) : List Field → Nat → Option (List CK)
  | [], _ => some []
  | f :: fs, off => if f.offset = off then
      match g f.type with
      | some ks => if ks.length = P.cellsOf f.type then (flatFields P g fs (off + ks.length)).map (ks ++ ·) else none
      | none => none
    else none
def flat (P : Program) : Nat → TypeId → Option (List CK)
  | 0, _ => none
  | d + 1, t => match P.underlying t with
    | some (.int k) => some [.i k]
    | some .bool => some [.b]
    | some .string => some [.s]
    | some (.slice _) => some [.sl]
    | some (.pointer _) => some [.p]
    | some (.struct fs) => match flatFields P (flat P d) fs.toList 0 with
      | some ks => if ks.length = P.cellsOf t then some ks else none
      | none => none
    | some (.array n e) => match flat P d e with
      | some ks => if ks.length = P.cellsOf e ∧ n * ks.length = P.cellsOf t then some (times n ks) else none
      | none => none
    | _ => none

variable {H : Type} {enc : TypeId × Value → H} {P : Program} {w : World} {base : Nat} {spare : Nat → Bool} {held : Bool}

theorem trod_bool' {t : TypeId} {fuel : Nat} {cs : List Value} {x : DataW H × List MemPlace} (ht : P.underlying t = some .bool) (h : DataW.trod enc P w base spare held fuel t cs = some x) : ∃ b, cs = [.bool b] := by
  cases fuel with
  | zero => simp [DataW.trod] at h
  | succ n =>
    unfold DataW.trod at h
    rw [ht] at h
    split at h <;> simp_all

theorem trod_pointer' {t e : TypeId} {fuel : Nat} {cs : List Value} {x : DataW H × List MemPlace} (ht : P.underlying t = some (.pointer e)) (h : DataW.trod enc P w base spare held fuel t cs = some x) : ∃ a, cs = [.pointer a] := by
  rcases DataW.trod_pointer ht h with ⟨rfl, _⟩ | ⟨a, _, _, _, _, rfl, _⟩ <;> exact ⟨_, rfl⟩

theorem fields_fit (d n : Nat) (cs : List Value) (ih : ∀ (t : TypeId) (ks : List CK) (c : List Value) (x : DataW H × List MemPlace), flat P d t = some ks → DataW.trod enc P w base spare held n t c = some x → FitsAll ks c) :
    ∀ (fs : List Field) (off : Nat) (ks : List CK), flatFields P (flat P d) fs off = some ks → (∀ f ∈ fs, ∃ x, DataW.trod enc P w base spare held n f.type ((cs.drop f.offset).take (P.cellsOf f.type)) = some x) →
      FitsAll ks ((cs.drop off).take ks.length)
  | [], off, ks, h, _ => by simp [flatFields] at h; subst h; simp [FitsAll]
  | f :: fs, off, ks, h, hx => by
    unfold flatFields at h
    split at h
    · rename_i hoff
      split at h
      · rename_i k1 hk1
        split at h
        · rename_i hlen
          obtain ⟨k2, hk2, rfl⟩ := Option.map_eq_some_iff.1 h
          obtain ⟨x, hx1⟩ := hx f (by simp)
          have h1 := ih _ _ _ _ hk1 hx1
          have h2 := fields_fit d n cs ih fs (off + k1.length) k2 hk2 (fun g hg => hx g (by simp [hg]))
          have e : (cs.drop off).take (k1 ++ k2).length = (cs.drop off).take k1.length ++ (cs.drop (off + k1.length)).take k2.length := by
            rw [List.length_append, List.take_add, List.drop_drop]
          rw [e]
          refine FitsAll.app ?_ h2
          rw [hoff, ← hlen] at h1
          exact h1
        · cases h
      · cases h
    · cases h

theorem flat_fit : ∀ (d : Nat) (t : TypeId) (ks : List CK) (n : Nat) (c : List Value) (x : DataW H × List MemPlace), flat P d t = some ks → DataW.trod enc P w base spare held n t c = some x → FitsAll ks c := by
  intro d
  induction d using Nat.strongRecOn with
  | _ d ih =>
    intro t ks n c x hf ht
    cases d with
    | zero => simp [flat] at hf
    | succ d =>
      unfold flat at hf
      split at hf
      · rename_i k hu
        obtain rfl : [CK.i k] = ks := by simpa using hf
        obtain ⟨m, rfl, _, hw⟩ := DataW.trod_int hu ht
        exact ⟨⟨m, rfl, hw⟩, trivial⟩
      · rename_i hu
        obtain rfl : [CK.b] = ks := by simpa using hf
        obtain ⟨m, rfl⟩ := trod_bool' hu ht
        exact ⟨⟨m, rfl⟩, trivial⟩
      · rename_i hu
        obtain rfl : [CK.s] = ks := by simpa using hf
        obtain ⟨m, rfl, _, hw⟩ := DataW.trod_string hu ht
        exact ⟨⟨m, rfl, hw⟩, trivial⟩
      · rename_i hu
        obtain rfl : [CK.sl] = ks := by simpa using hf
        rcases open_slice hu ht with ⟨rfl, _⟩ | ⟨a, len, cap, _, _, _, _, rfl, _⟩ <;> exact ⟨⟨_, _, _, rfl⟩, trivial⟩
      · rename_i hu
        obtain rfl : [CK.p] = ks := by simpa using hf
        obtain ⟨m, rfl⟩ := trod_pointer' hu ht
        exact ⟨⟨m, rfl⟩, trivial⟩
      · rename_i fs hu
        obtain ⟨xs, m, rfl, _, hlen, hxs, hget⟩ := DataW.trod_struct hu ht
        split at hf
        · rename_i k1 hk1
          split at hf
          · rename_i hl
            obtain rfl : k1 = ks := by simpa using hf
            have hall : (c.drop 0).take k1.length = c := by rw [hl, ← hlen]; simp
            have h1 := fields_fit (P := P) (w := w) d m c (fun t ks c x hf ht => ih d (by omega) t ks m c x hf ht) fs.toList 0 k1 hk1 (fun f hfm => by
              obtain ⟨i, hi⟩ := List.mem_iff_getElem?.1 hfm
              have hi' : fs[i]? = some f := by simpa using hi
              have hlt : i < xs.length := by rw [hxs]; exact (Array.getElem?_eq_some_iff.1 hi').1
              exact ⟨xs[i], by rw [hget i f hi', List.getElem?_eq_getElem hlt]⟩)
            rw [hall] at h1
            exact h1
          · cases hf
        · cases hf
      · rename_i k e hu
        obtain ⟨xs, m, rfl, _, hlen, hxs, hget⟩ := DataW.trod_array hu ht
        split at hf
        · rename_i k1 hk1
          split at hf
          · rename_i hl
            obtain ⟨hl1, hl2⟩ := hl
            obtain rfl : times k k1 = ks := by simpa using hf
            have key : ∀ j i, i + j = k → FitsAll (times j k1) (c.drop (i * k1.length)) := by
              intro j
              induction j with
              | zero =>
                intro i hi
                have : c.drop (i * k1.length) = [] := by
                  apply List.drop_eq_nil_of_le
                  rw [hlen, ← hl2, show i = k by omega]; exact Nat.le_refl _
                rw [this]; trivial
              | succ j ihj =>
                intro i hi
                have hlt : i < xs.length := by omega
                have h1 := ih d (by omega) e k1 m _ xs[i] hk1 (by rw [hget i (by omega), List.getElem?_eq_getElem hlt])
                rw [← hl1] at h1
                have h2 := ihj (i + 1) (by omega)
                have e : c.drop (i * k1.length) = (c.drop (i * k1.length)).take k1.length ++ c.drop ((i + 1) * k1.length) := by
                  rw [Nat.succ_mul, ← List.drop_drop, List.take_append_drop]
                rw [e]
                exact h1.app h2
            have := key k 0 (by omega)
            simpa using this
          · cases hf
        · cases hf
      · cases hf

/-- A slice that came in: nothing is known where it is empty; else its rows of cells lie there. -/
structure IsSl (w : World) (v : Value) (ks : List CK) (a : Option Addr) (len cap : Nat) : Prop where
  val : v = .slice a len cap
  le : len ≤ maxLen
  cells : 0 < len → ∃ b off, a = some ⟨b, off, none⟩ ∧ ∀ i, i < len → ∃ cs, FitsAll ks cs ∧ ∀ j, j < ks.length → w.cell? ⟨b, off + (i * ks.length + j), none⟩ = cs[j]?

theorem sl_open {t e : TypeId} {d : Nat} {ks : List CK} (ht : P.underlying t = some (.slice e)) (hk : flat P d e = some ks) (hl : ks.length = P.cellsOf e) (hp : 0 < ks.length) {v : Value} {x : DataW H × List MemPlace} {fuel : Nat}
    (h : DataW.trod enc P w base spare held fuel t [v] = some x) : ∃ a len cap, IsSl w v ks a len cap := by
  rcases open_slice ht h with ⟨hv, _⟩ | ⟨a, len, cap, m, n, D, Pl, hv, hb, hle, hm, hmm, _, hx⟩
  · obtain rfl : v = .slice none 0 0 := by simpa using hv
    exact ⟨none, 0, 0, rfl, Nat.zero_le _, fun h => absurd h (by omega)⟩
  · obtain rfl : v = .slice (some a) len cap := by simpa using hv
    refine ⟨some a, len, cap, rfl, by omega, fun h0 => ?_⟩
    have hlm : len ≤ m := by rw [hmm]; split <;> omega
    obtain ⟨b, off, spot⟩ := a
    have hsp : spot = none := by
      obtain ⟨cs', h1, _⟩ := hx 0 (by omega)
      obtain ⟨_, hlen, hcell⟩ := World.cells?_some h1
      have := hcell 0 (by omega)
      rw [List.getElem?_eq_getElem (by omega)] at this
      simpa [Addr.add] using World.cell?_spot this
    subst hsp
    refine ⟨b, off, rfl, fun i hi => ?_⟩
    obtain ⟨cs', h1, h2⟩ := hx i (by omega)
    obtain ⟨_, hlen, hcell⟩ := World.cells?_some h1
    refine ⟨cs', flat_fit d e ks n cs' _ hk h2, fun j hj => ?_⟩
    have := hcell j (by omega)
    rw [← hl, add_plain, add_plain, Nat.add_assoc] at this
    exact this

/-- What came in as one value of a struct's or an array's type. -/
theorem agg_open {t : TypeId} {d : Nat} {ks : List CK} (hk : flat P d t = some ks) {c : Array Value} {x : DataW H × List MemPlace} {fuel : Nat} (h : DataW.trod enc P w base spare held fuel t c.toList = some x) : FitsAll ks c.toList :=
  flat_fit d t ks fuel _ _ hk h

theorem fitsAll_cons {k : CK} {ks : List CK} {vs : List Value} (h : FitsAll (k :: ks) vs) : ∃ v r, vs = v :: r ∧ fits k v ∧ FitsAll ks r := by
  cases vs with
  | nil => exact h.elim
  | cons v r => exact ⟨v, r, rfl, h.1, h.2⟩
theorem fitsAll_nil {vs : List Value} (h : FitsAll [] vs) : vs = [] := by
  cases vs with
  | nil => rfl
  | cons v r => exact h.elim

/-- A field of a struct that came in. -/
theorem field_open {t : TypeId} {fs : Array Field} {f : Field} (i : Nat) (ht : P.underlying t = some (.struct fs)) (hf : fs[i]? = some f) {c : List Value} {x : DataW H × List MemPlace} {fuel : Nat} (h : DataW.trod enc P w base spare held fuel t c = some x) :
    ∃ n y, DataW.trod enc P w base spare held n f.type ((c.drop f.offset).take (P.cellsOf f.type)) = some y := by
  obtain ⟨xs, m, rfl, _, hlen, hxs, hget⟩ := DataW.trod_struct ht h
  have hlt : i < xs.length := by rw [hxs]; exact (Array.getElem?_eq_some_iff.1 hf).1
  exact ⟨m, xs[i], by rw [hget i f hf, List.getElem?_eq_getElem hlt]⟩

/-- A slice of slices: what each row's value is. -/
theorem IsSl.sls {v : Value} {a : Option Addr} {len cap : Nat} (h : IsSl w v [.sl] a len cap) : ∃ (b off : Nat) (F : Nat → Option Addr × Nat × Nat), (0 < len → a = some ⟨b, off, none⟩) ∧ ∀ i, i < len → w.cell? ⟨b, off + i, none⟩ = some (.slice (F i).1 (F i).2.1 (F i).2.2) := by
  by_cases h0 : 0 < len
  · obtain ⟨b, off, ha, hc⟩ := h.cells h0
    have key : ∀ i, i < len → ∃ f : Option Addr × Nat × Nat, w.cell? ⟨b, off + i, none⟩ = some (.slice f.1 f.2.1 f.2.2) := fun i hi => by
      obtain ⟨cs, hf, hcell⟩ := hc i hi
      obtain ⟨v, r, rfl, ⟨a, n, c, rfl⟩, hr⟩ := fitsAll_cons hf
      have := hcell 0 (by simp)
      simp at this
      exact ⟨(a, n, c), this⟩
    obtain ⟨F, hF⟩ := choose_lt key
    exact ⟨b, off, F, fun _ => ha, hF⟩
  · exact ⟨0, 0, fun _ => (none, 0, 0), fun h => absurd h h0, fun i hi => absurd hi (by omega)⟩

/-- A block of cells. -/
def Blk (w : World) (b : Nat) (cs : Array Value) (E : TypeId) : Prop := w.heap[b]? = some (.cells cs E (0, 0))

theorem Blk.lt {w : World} {b : Nat} {cs : Array Value} {E : TypeId} (h : Blk w b cs E) : b < w.heap.size := (Array.getElem?_eq_some_iff.1 h).1
theorem Blk.ext {w w' : World} {b : Nat} {cs : Array Value} {E : TypeId} (h : Blk w b cs E) (e : Below w.heap.size w w') : Blk w' b cs E := by
  unfold Blk at *
  rw [e.block b (Array.getElem?_eq_some_iff.1 h).1]; exact h
theorem Blk.new (w : World) (cs : Array Value) (E : TypeId) : Blk (w.alloc (.cells cs E)) w.heap.size cs E := Array.getElem?_push_size
theorem Blk.drew {w : World} {b : Nat} {cs : Array Value} {E : TypeId} (h : Blk w b cs E) : Blk w.drew b cs E := h
theorem Blk.cell {w : World} {b : Nat} {cs : Array Value} {E : TypeId} (h : Blk w b cs E) {i : Nat} {v : Value} (hv : cs[i]? = some v) : w.cell? ⟨b, i, none⟩ = some v := by
  unfold Blk at h
  simp only [World.cell?, h]
  exact hv
theorem Blk.frozen {w : World} {b : Nat} {cs : Array Value} {E : TypeId} (h : Blk w b cs E) (i : Nat) : w.frozen? ⟨b, i, none⟩ = false := by
  unfold Blk at h
  simp [World.frozen?, h]
end Go.Open
