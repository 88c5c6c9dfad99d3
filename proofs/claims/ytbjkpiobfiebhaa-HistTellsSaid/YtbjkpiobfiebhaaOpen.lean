/-
  What comes in, opened by its type: a struct of plain fields is a row of cells of known kinds; a slice of such is a row of such rows.
  No program in sight; no condition.
-/
import Derived.ProofKit
import Derived.OpenShut
import Derived.Deep.Slices
import Derived.Below
namespace Go.Open
open Go.RowKit Go.ChangeShapes Go.WideShapes Go.Deep

/-- Kinds of cells. -/
inductive CK where
  | i (k : IntKind)
  | b
  | s
  | sl
  | p

def fits : CK → Value → Prop
  | .i k, v => ∃ n, v = .int k n ∧ (Lit.int k n).wf = true
  | .b, v => ∃ x, v = .bool x
  | .s, v => ∃ x : ByteArray, v = .string x ∧ x.size ≤ maxLen
  | .sl, v => ∃ a n c, v = .slice a n c
  | .p, v => ∃ a, v = .pointer a

def FitsAll : List CK → List Value → Prop
  | [], [] => True
  | k :: ks, v :: vs => fits k v ∧ FitsAll ks vs
  | _, _ => False

theorem FitsAll.length : ∀ {ks : List CK} {vs : List Value}, FitsAll ks vs → vs.length = ks.length
  | [], [], _ => rfl
  | _ :: _, _ :: _, h => by simp [FitsAll.length h.2]
  | [], _ :: _, h => h.elim
  | _ :: _, [], h => h.elim

theorem FitsAll.app : ∀ {ks : List CK} {vs : List Value} {ks' : List CK} {vs' : List Value}, FitsAll ks vs → FitsAll ks' vs' → FitsAll (ks ++ ks') (vs ++ vs')
  | [], [], _, _, _, h' => h'
  | _ :: _, _ :: _, _, _, h, h' => ⟨h.1, h.2.app h'⟩
  | [], _ :: _, _, _, h, _ => h.elim
  | _ :: _, [], _, _, h, _ => h.elim

def times {α : Type} : Nat → List α → List α
  | 0, _ => []
  | n + 1, l => l ++ times n l

theorem times_length {α : Type} (l : List α) : ∀ n, (times n l).length = n * l.length
  | 0 => by simp [times]
  | n + 1 => by simp [times, times_length l n, Nat.succ_mul]; omega

def flatFields (P : Program) (g : TypeId → Option (List CK)) : List Field → Nat → Option (List CK)
  | [], _ => some []
  | f :: fs, off => if f.offset = off then
      match g f.type with
      | some ks => if ks.length = P.cellsOf f.type then (flatFields P g fs (off + ks.length)).map (ks ++ ·) else none
      | none => none
    else none
def flat (P : Program) : Nat → TypeId → Option (List CK)
  | 0, _ => none
  | d + 1, t => match P.underlying t with
    | some (.int k) => some [.i k]
    | some .bool => some [.b]
    | some .string => some [.s]
    | some (.slice _) => some [.sl]
    | some (.pointer _) => some [.p]
    | some (.struct fs) => match flatFields P (flat P d) fs.toList 0 with
      | some ks => if ks.length = P.cellsOf t then some ks else none
      | none => none
    | some (.array n e) => match flat P d e with
      | some ks => if ks.length = P.cellsOf e ∧ n * ks.length = P.cellsOf t then some (times n ks) else none
      | none => none
    | _ => none

variable {H : Type} {enc : TypeId × Value → H} {P : Program} {w : World} {base : Nat} {spare : Nat → Bool} {held : Bool}

theorem trod_bool' {t : TypeId} {fuel : Nat} {cs : List Value} {x : DataW H × List MemPlace} (ht : P.underlying t = some .bool) (h : DataW.trod enc P w base spare held fuel t cs = some x) : ∃ b, cs = [.bool b] := by
  cases fuel with
  | zero => simp [DataW.trod] at h
  | succ n =>
    unfold DataW.trod at h
    rw [ht] at h
    split at h <;> simp_all

theorem trod_pointer' {t e : TypeId} {fuel : Nat} {cs : List Value} {x : DataW H × List MemPlace} (ht : P.underlying t = some (.pointer e)) (h : DataW.trod enc P w base spare held fuel t cs = some x) : ∃ a, cs = [.pointer a] := by
  rcases DataW.trod_pointer ht h with ⟨rfl, _⟩ | ⟨a, _, _, _, _, rfl, _⟩ <;> exact ⟨_, rfl⟩

theorem fields_fit (d n : Nat) (cs : List Value) (ih : ∀ (t : TypeId) (ks : List CK) (c : List Value) (x : DataW H × List MemPlace), flat P d t = some ks → DataW.trod enc P w base spare held n t c = some x → FitsAll ks c) :
    ∀ (fs : List Field) (off : Nat) (ks : List CK), flatFields P (flat P d) fs off = some ks → (∀ f ∈ fs, ∃ x, DataW.trod enc P w base spare held n f.type ((cs.drop f.offset).take (P.cellsOf f.type)) = some x) →
      FitsAll ks ((cs.drop off).take ks.length)
  | [], off, ks, h, _ => by simp [flatFields] at h; subst h; simp [FitsAll]
  | f :: fs, off, ks, h, hx => by
    unfold flatFields at h
    split at h
    · rename_i hoff
      split at h
      · rename_i k1 hk1
        split at h
        · rename_i hlen
          obtain ⟨k2, hk2, rfl⟩ := Option.map_eq_some_iff.1 h
          obtain ⟨x, hx1⟩ := hx f (by simp)
          have h1 := ih _ _ _ _ hk1 hx1
          have h2 := fields_fit d n cs ih fs (off + k1.length) k2 hk2 (fun g hg => hx g (by simp [hg]))
          have e : (cs.drop off).take (k1 ++ k2).length = (cs.drop off).take k1.length ++ (cs.drop (off + k1.length)).take k2.length := by
            rw [List.length_append, List.take_add, List.drop_drop]
          rw [e]
          refine FitsAll.app ?_ h2
          rw [hoff, ← hlen] at h1
          exact h1
        · cases h
      · cases h
    · cases h

theorem flat_fit : ∀ (d : Nat) (t : TypeId) (ks : List CK) (n : Nat) (c : List Value) (x : DataW H × List MemPlace), flat P d t = some ks → DataW.trod enc P w base spare held n t c = some x → FitsAll ks c := by
  intro d
  induction d using Nat.strongRecOn with
  | _ d ih =>
    intro t ks n c x hf ht
    cases d with
    | zero => simp [flat] at hf
    | succ d =>
      unfold flat at hf
      split at hf
      · rename_i k hu
        obtain rfl : [CK.i k] = ks := by simpa using hf
        obtain ⟨m, rfl, _, hw⟩ := DataW.trod_int hu ht
        exact ⟨⟨m, rfl, hw⟩, trivial⟩
      · rename_i hu
        obtain rfl : [CK.b] = ks := by simpa using hf
        obtain ⟨m, rfl⟩ := trod_bool' hu ht
        exact ⟨⟨m, rfl⟩, trivial⟩
      · rename_i hu
        obtain rfl : [CK.s] = ks := by simpa using hf
        obtain ⟨m, rfl, _, hw⟩ := DataW.trod_string hu ht
        exact ⟨⟨m, rfl, hw⟩, trivial⟩
      · rename_i hu
        obtain rfl : [CK.sl] = ks := by simpa using hf
        rcases open_slice hu ht with ⟨rfl, _⟩ | ⟨a, len, cap, _, _, _, _, rfl, _⟩ <;> exact ⟨⟨_, _, _, rfl⟩, trivial⟩
      · rename_i hu
        obtain rfl : [CK.p] = ks := by simpa using hf
        obtain ⟨m, rfl⟩ := trod_pointer' hu ht
        exact ⟨⟨m, rfl⟩, trivial⟩
      · rename_i fs hu
        obtain ⟨xs, m, rfl, _, hlen, hxs, hget⟩ := DataW.trod_struct hu ht
        split at hf
        · rename_i k1 hk1
          split at hf
          · rename_i hl
            obtain rfl : k1 = ks := by simpa using hf
            have hall : (c.drop 0).take k1.length = c := by rw [hl, ← hlen]; simp
            have h1 := fields_fit (P := P) (w := w) d m c (fun t ks c x hf ht => ih d (by omega) t ks m c x hf ht) fs.toList 0 k1 hk1 (fun f hfm => by
              obtain ⟨i, hi⟩ := List.mem_iff_getElem?.1 hfm
              have hi' : fs[i]? = some f := by simpa using hi
              have hlt : i < xs.length := by rw [hxs]; exact (Array.getElem?_eq_some_iff.1 hi').1
              exact ⟨xs[i], by rw [hget i f hi', List.getElem?_eq_getElem hlt]⟩)
            rw [hall] at h1
            exact h1
          · cases hf
        · cases hf
      · rename_i k e hu
        obtain ⟨xs, m, rfl, _, hlen, hxs, hget⟩ := DataW.trod_array hu ht
        split at hf
        · rename_i k1 hk1
          split at hf
          · rename_i hl
            obtain ⟨hl1, hl2⟩ := hl
            obtain rfl : times k k1 = ks := by simpa using hf
            have key : ∀ j i, i + j = k → FitsAll (times j k1) (c.drop (i * k1.length)) := by
              intro j
              induction j with
              | zero =>
                intro i hi
                have : c.drop (i * k1.length) = [] := by
                  apply List.drop_eq_nil_of_le
                  rw [hlen, ← hl2, show i = k by omega]; exact Nat.le_refl _
                rw [this]; trivial
              | succ j ihj =>
                intro i hi
                have hlt : i < xs.length := by omega
                have h1 := ih d (by omega) e k1 m _ xs[i] hk1 (by rw [hget i (by omega), List.getElem?_eq_getElem hlt])
                rw [← hl1] at h1
                have h2 := ihj (i + 1) (by omega)
                have e : c.drop (i * k1.length) = (c.drop (i * k1.length)).take k1.length ++ c.drop ((i + 1) * k1.length) := by
                  rw [Nat.succ_mul, ← List.drop_drop, List.take_append_drop]
                rw [e]
                exact h1.app h2
            have := key k 0 (by omega)
            simpa using this
          · cases hf
        · cases hf
      · cases hf

/-- A slice that came in: nothing is known where it is empty; else its rows of cells lie there. -/
structure IsSl (w : World) (v : Value) (ks : List CK) (a : Option Addr) (len cap : Nat) : Prop where
  val : v = .slice a len cap
  le : len ≤ maxLen
  cells : 0 < len → ∃ b off, a = some ⟨b, off, none⟩ ∧ ∀ i, i < len → ∃ cs, FitsAll ks cs ∧ ∀ j, j < ks.length → w.cell? ⟨b, off + (i * ks.length + j), none⟩ = cs[j]?

theorem sl_open {t e : TypeId} {d : Nat} {ks : List CK} (ht : P.underlying t = some (.slice e)) (hk : flat P d e = some ks) (hl : ks.length = P.cellsOf e) (hp : 0 < ks.length) {v : Value} {x : DataW H × List MemPlace} {fuel : Nat}
    (h : DataW.trod enc P w base spare held fuel t [v] = some x) : ∃ a len cap, IsSl w v ks a len cap := by
  rcases open_slice ht h with ⟨hv, _⟩ | ⟨a, len, cap, m, n, D, Pl, hv, hb, hle, hm, hmm, _, hx⟩
  · obtain rfl : v = .slice none 0 0 := by simpa using hv
    exact ⟨none, 0, 0, rfl, Nat.zero_le _, fun h => absurd h (by omega)⟩
  · obtain rfl : v = .slice (some a) len cap := by simpa using hv
    refine ⟨some a, len, cap, rfl, by omega, fun h0 => ?_⟩
    have hlm : len ≤ m := by rw [hmm]; split <;> omega
    obtain ⟨b, off, spot⟩ := a
    have hsp : spot = none := by
      obtain ⟨cs', h1, _⟩ := hx 0 (by omega)
      obtain ⟨_, hlen, hcell⟩ := World.cells?_some h1
      have := hcell 0 (by omega)
      rw [List.getElem?_eq_getElem (by omega)] at this
      simpa [Addr.add] using World.cell?_spot this
    subst hsp
    refine ⟨b, off, rfl, fun i hi => ?_⟩
    obtain ⟨cs', h1, h2⟩ := hx i (by omega)
    obtain ⟨_, hlen, hcell⟩ := World.cells?_some h1
    refine ⟨cs', flat_fit d e ks n cs' _ hk h2, fun j hj => ?_⟩
    have := hcell j (by omega)
    rw [← hl, add_plain, add_plain, Nat.add_assoc] at this
    exact this

/-- What came in as one value of a struct's or an array's type. -/
theorem agg_open {t : TypeId} {d : Nat} {ks : List CK} (hk : flat P d t = some ks) {c : Array Value} {x : DataW H × List MemPlace} {fuel : Nat} (h : DataW.trod enc P w base spare held fuel t c.toList = some x) : FitsAll ks c.toList :=
  flat_fit d t ks fuel _ _ hk h

theorem fitsAll_cons {k : CK} {ks : List CK} {vs : List Value} (h : FitsAll (k :: ks) vs) : ∃ v r, vs = v :: r ∧ fits k v ∧ FitsAll ks r := by
  cases vs with
  | nil => exact h.elim
  | cons v r => exact ⟨v, r, rfl, h.1, h.2⟩
theorem fitsAll_nil {vs : List Value} (h : FitsAll [] vs) : vs = [] := by
  cases vs with
  | nil => rfl
  | cons v r => exact h.elim

/-- A field of a struct that came in. -/
theorem field_open {t : TypeId} {fs : Array Field} {f : Field} (i : Nat) (ht : P.underlying t = some (.struct fs)) (hf : fs[i]? = some f) {c : List Value} {x : DataW H × List MemPlace} {fuel : Nat} (h : DataW.trod enc P w base spare held fuel t c = some x) :
    ∃ n y, DataW.trod enc P w base spare held n f.type ((c.drop f.offset).take (P.cellsOf f.type)) = some y := by
  obtain ⟨xs, m, rfl, _, hlen, hxs, hget⟩ := DataW.trod_struct ht h
  have hlt : i < xs.length := by rw [hxs]; exact (Array.getElem?_eq_some_iff.1 hf).1
  exact ⟨m, xs[i], by rw [hget i f hf, List.getElem?_eq_getElem hlt]⟩

/-- A slice of slices: what each row's value is. -/
theorem IsSl.sls {v : Value} {a : Option Addr} {len cap : Nat} (h : IsSl w v [.sl] a len cap) : ∃ (b off : Nat) (F : Nat → Option Addr × Nat × Nat), (0 < len → a = some ⟨b, off, none⟩) ∧ ∀ i, i < len → w.cell? ⟨b, off + i, none⟩ = some (.slice (F i).1 (F i).2.1 (F i).2.2) := by
  by_cases h0 : 0 < len
  · obtain ⟨b, off, ha, hc⟩ := h.cells h0
    have key : ∀ i, i < len → ∃ f : Option Addr × Nat × Nat, w.cell? ⟨b, off + i, none⟩ = some (.slice f.1 f.2.1 f.2.2) := fun i hi => by
      obtain ⟨cs, hf, hcell⟩ := hc i hi
      obtain ⟨v, r, rfl, ⟨a, n, c, rfl⟩, hr⟩ := fitsAll_cons hf
      have := hcell 0 (by simp)
      simp at this
      exact ⟨(a, n, c), this⟩
    obtain ⟨F, hF⟩ := choose_lt key
    exact ⟨b, off, F, fun _ => ha, hF⟩
  · exact ⟨0, 0, fun _ => (none, 0, 0), fun h => absurd h h0, fun i hi => absurd hi (by omega)⟩

/-- A block of cells. -/
def Blk (w : World) (b : Nat) (cs : Array Value) (E : TypeId) : Prop := w.heap[b]? = some (.cells cs E (0, 0))

theorem Blk.lt {w : World} {b : Nat} {cs : Array Value} {E : TypeId} (h : Blk w b cs E) : b < w.heap.size := (Array.getElem?_eq_some_iff.1 h).1
theorem Blk.ext {w w' : World} {b : Nat} {cs : Array Value} {E : TypeId} (h : Blk w b cs E) (e : Below w.heap.size w w') : Blk w' b cs E := by
  unfold Blk at *
  rw [e.block b (Array.getElem?_eq_some_iff.1 h).1]; exact h
theorem Blk.new (w : World) (cs : Array Value) (E : TypeId) : Blk (w.alloc (.cells cs E)) w.heap.size cs E := Array.getElem?_push_size
theorem Blk.drew {w : World} {b : Nat} {cs : Array Value} {E : TypeId} (h : Blk w b cs E) : Blk w.drew b cs E := h
theorem Blk.cell {w : World} {b : Nat} {cs : Array Value} {E : TypeId} (h : Blk w b cs E) {i : Nat} {v : Value} (hv : cs[i]? = some v) : w.cell? ⟨b, i, none⟩ = some v := by
  unfold Blk at h
  simp only [World.cell?, h]
  exact hv
theorem Blk.frozen {w : World} {b : Nat} {cs : Array Value} {E : TypeId} (h : Blk w b cs E) (i : Nat) : w.frozen? ⟨b, i, none⟩ = false := by
  unfold Blk at h
  simp [World.frozen?, h]
theorem run_eq_func_nil {t : TypeId} {a b : Array TypeId} {v : Bool} (h : P.underlying t = some (.func a b v)) (fn : Fn) (x y : Array Value) (w : World) : (binOp .eql t (.func fn x y) .nilFunc).run P w = .ok (.bool false) w := by
  show (Sem.bind (Op.equalIn (9999 + 1) t (.func fn x y) .nilFunc) _).run P w = _
  unfold Op.equalIn
  simp [underlying, program, h, Sem.bind, Sem.run, bind, pure]

/-- Only blocks of which S speaks may have changed; new ones may be there. -/
structure Chg (S : Nat → Prop) (w w' : World) : Prop where
  os : w'.os = w.os
  tape : w'.tape = w.tape
  output : w'.output = w.output
  size : w.heap.size ≤ w'.heap.size
  block : ∀ k, k < w.heap.size → ¬ S k → w'.heap[k]? = w.heap[k]?

theorem Chg.of_below {S : Nat → Prop} {w w' : World} (h : Below w.heap.size w w') : Chg S w w' := ⟨h.os, h.tape, h.output, h.size, fun k hk _ => h.block k hk⟩
theorem Chg.trans {S : Nat → Prop} {a b c : World} (h : Chg S a b) (k : Chg S b c) : Chg S a c :=
  ⟨k.os.trans h.os, k.tape.trans h.tape, k.output.trans h.output, Nat.le_trans h.size k.size, fun i hi hs => (k.block i (Nat.lt_of_lt_of_le hi h.size) hs).trans (h.block i hi hs)⟩
theorem Chg.drew {S : Nat → Prop} {a b : World} (h : Chg S a b) : Chg S a b.drew := ⟨h.os, h.tape, h.output, h.size, h.block⟩
theorem Chg.refl {S : Nat → Prop} (w : World) : Chg S w w := ⟨rfl, rfl, rfl, Nat.le_refl _, fun _ _ _ => rfl⟩
theorem Chg.setCell {S : Nat → Prop} {w w' : World} (h : Chg S w w') {a : Addr} (ha : S a.block) (v : Value) : Chg S w (w'.setCell a v) :=
  h.trans ⟨rfl, rfl, rfl, by simp [World.setCell], fun k _ hs => Below.heap_setCell _ _ _ _ (fun e => hs (e ▸ ha))⟩
theorem Chg.mono {S S' : Nat → Prop} {w w' : World} (h : Chg S w w') (hs : ∀ k, S k → S' k) : Chg S' w w' := ⟨h.os, h.tape, h.output, h.size, fun k hk hn => h.block k hk (fun x => hn (hs k x))⟩
/-- What has changed lies at new blocks. -/
theorem Chg.below {S : Nat → Prop} {w w' : World} (h : Chg S w w') {B : Nat} (hB : B ≤ w.heap.size) (hs : ∀ k, S k → B ≤ k) : Below B w w' :=
  ⟨h.os, h.tape, h.output, h.size, fun k hk => h.block k (Nat.lt_of_lt_of_le hk hB) (fun x => by have := hs k x; omega)⟩

/-- No block of which S speaks is one of these. -/
def Off (S : Nat → Prop) (w : World) (E : TypeId) : Prop := ∀ k, S k → ∀ cs f, w.heap[k]? ≠ some (.cells cs E f)

theorem Blk.chg {S : Nat → Prop} {w w' : World} {b : Nat} {cs : Array Value} {E : TypeId} (h : Blk w b cs E) (hc : Chg S w w') (hn : Off S w E) : Blk w' b cs E := by
  have hs : ¬ S b := fun x => hn b x _ _ h
  have hl := h.lt
  unfold Blk at *
  rw [hc.block b hl hs]; exact h
theorem Off.one {w : World} {b : Nat} {cs : Array Value} {E E' : TypeId} (h : Blk w b cs E) (hE : E ≠ E') : Off (· = b) w E' := by
  rintro k rfl cs' f h'
  unfold Blk at h
  rw [h] at h'
  cases h'
  exact hE rfl
theorem Blk.set {w : World} {b : Nat} {cs cs' : Array Value} {E : TypeId} (h : Blk w b cs E) (i : Nat) (v : Value) (hc : cs.setIfInBounds i v = cs') : Blk (w.setCell ⟨b, i, none⟩ v) b cs' E := by
  subst hc
  unfold Blk at *
  simp only [World.setCell, Array.getElem?_modify, if_true, h]
  rfl
theorem Chg.set (w : World) (b i : Nat) (v : Value) : Chg (· = b) w (w.setCell ⟨b, i, none⟩ v) := Chg.setCell (S := (· = b)) (Chg.refl w) (a := ⟨b, i, none⟩) rfl v
/-- What lay below stays, behind new blocks. -/
theorem below_ext {w a b : World} (h : Below w.heap.size w a) (k : Below a.heap.size a b) : Below w.heap.size w b := h.trans (k.mono h.size)
theorem below_chg {S : Nat → Prop} {w a b : World} (h : Below w.heap.size w a) (k : Chg S a b) (hs : ∀ i, S i → w.heap.size ≤ i) : Below w.heap.size w b := h.trans (k.below h.size hs)

/-- A slice of pairs of whole numbers. -/
theorem IsSl.pairs {v : Value} {a : Option Addr} {len cap : Nat} (h : IsSl w v [.i .i64, .i .i64] a len cap) : ∃ (b off : Nat) (F : Nat → Int × Int), (0 < len → a = some ⟨b, off, none⟩) ∧ (0 < len → b < w.heap.size) ∧ ∀ W, Below w.heap.size w W → ∀ i, i < len → W.cell? ⟨b, off + i * 2, none⟩ = some (.int .i64 (F i).1) ∧ W.cell? ⟨b, off + i * 2 + 1, none⟩ = some (.int .i64 (F i).2) := by
  by_cases h0 : 0 < len
  · obtain ⟨b, off, ha, hc⟩ := h.cells h0
    have key : ∀ i, i < len → ∃ f : Int × Int, w.cell? ⟨b, off + i * 2, none⟩ = some (.int .i64 f.1) ∧ w.cell? ⟨b, off + i * 2 + 1, none⟩ = some (.int .i64 f.2) := fun i hi => by
      obtain ⟨cs, hf, hcell⟩ := hc i hi
      obtain ⟨v, r, rfl, ⟨x, rfl, _⟩, hr⟩ := fitsAll_cons hf
      obtain ⟨v, r, rfl, ⟨y, rfl, _⟩, hr⟩ := fitsAll_cons hr
      have h1 := hcell 0 (by simp)
      have h2 := hcell 1 (by simp)
      simp at h1 h2
      exact ⟨(x, y), h1, by rw [Nat.add_assoc]; exact h2⟩
    obtain ⟨F, hF⟩ := choose_lt key
    have hlt : b < w.heap.size := World.block_lt_of_cell? w _ (hF 0 h0).1
    exact ⟨b, off, F, fun _ => ha, fun _ => hlt, fun W hW i hi => ⟨(hW.cell (p := ⟨b, off + i * 2, none⟩) hlt).trans (hF i hi).1, (hW.cell (p := ⟨b, off + i * 2 + 1, none⟩) hlt).trans (hF i hi).2⟩⟩
  · exact ⟨0, 0, fun _ => (0, 0), fun h => absurd h h0, fun h => absurd h h0, fun W hW i hi => absurd hi (by omega)⟩
end Go.Open
