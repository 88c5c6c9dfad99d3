/-
  Package trace: numbers, names and stages as texts; the document's too.
  The library's table of powers lies there; no other condition.
-/
import Derived.Test.YtjlomdhaigejhaaDoorPrgD
import Derived.Test.YtjlomdhaigejhaaDoorShf
import Derived.Test.YtjlomdhaigejhaaDoorShJ
import Derived.Lib.ItoaLen
import Derived.Lib.ItoaMem
import Derived.Laws.IdiomStrings
import Derived.Deep.LoopGhost
namespace Go.Proofs.YtjlomdhaigejhaaDoor.Trc
open Go.RowKit Go.Shelf Go.Seg Go.Open Go.Lib Prg

/-- A text of bytes. -/
def Str (l : List UInt8) : ByteArray := ⟨l.toArray⟩
def cat (a b : ByteArray) : ByteArray := Str (a.data.toList ++ b.data.toList)
theorem cat_size (a b : ByteArray) : (cat a b).size = a.size + b.size := by
  show (a.data.toList ++ b.data.toList).toArray.size = a.data.size + b.data.size
  simp
theorem str_size (l : List UInt8) : (Str l).size = l.length := by
  show l.toArray.size = l.length
  simp
theorem cat_str (a b : List UInt8) : cat (Str a) (Str b) = Str (a ++ b) := by simp [cat, Str]
theorem cat_assoc (a b c : ByteArray) : cat (cat a b) c = cat a (cat b c) := by simp [cat, Str]
theorem add_cat (a b : ByteArray) (ha : a.size ≤ 8388608) (hb : b.size ≤ 8388608) (W : World) : (Op.stringOp .add a b).run Tryd.prog W = .ok (.string (cat a b)) W := by
  have e1 : a.data.toList.length = a.size := Array.length_toList
  have e2 : b.data.toList.length = b.size := Array.length_toList
  have h := run_string_add_lists (P := Tryd.prog) W a.data.toList b.data.toList (by omega) (by omega)
  simpa [cat, Str] using h
/-- A sum of two texts, named. -/
theorem sum (a b c : ByteArray) (h : cat a b = c) (ha : a.size ≤ 8388608) (hb : b.size ≤ 8388608) : ∀ W, (Op.stringOp .add a b).run Tryd.prog W = .ok (.string c) W := fun W => by rw [add_cat a b ha hb W, h]

abbrev Tab (w : World) : Prop := Lib.TabIs Tryd.prog w "internal/strconv.uint64pow10" .u64 Lib.pow10Tab
theorem tab_ext {P : Program} {w w' : World} {name : String} {k : IntKind} {zs : List Int} (h : Lib.TabIs P w name k zs) (e : Ext w w') : Lib.TabIs P w' name k zs := by
  unfold Lib.TabIs World.var? at *
  cases hg : P.globalNamed name with
  | none => simp [hg] at h
  | some g =>
    simp only [hg, Option.bind_some] at h ⊢
    have hlt : g < w.heap.size := by
      rcases Nat.lt_or_ge g w.heap.size with h' | h'
      · exact h'
      · rw [Array.getElem?_eq_none h'] at h; simp at h
    rw [e.block g hlt]
    exact h
def I64 (n : Int) : Prop := -9223372036854775808 ≤ n ∧ n ≤ 9223372036854775807
def intS (n : Int) : ByteArray := Str (itoa n)
def decS (u : Nat) : ByteArray := Str (decDigits u)
theorem intS_size {n : Int} (h : I64 n) : (intS n).size ≤ 21 := by unfold intS; rw [str_size]; exact itoa_length_le n h.1 h.2
theorem decS_size {u : Nat} (h : u < 18446744073709551616) : (decS u).size ≤ 20 := by unfold decS; rw [str_size, decDigits_length]; exact nDigits_le20 u h
theorem ext_grow {w : World} (k : Nat) (os : Array Obj) : Ext w (Go.Sort.grow (w.drewN k) os) := ⟨rfl, rfl, rfl, by simp [Go.Sort.grow], fun i hi => by
  show ((w.drewN k).heap ++ os)[i]? = _
  rw [Array.getElem?_append_left (by simpa using hi)]; rfl⟩
theorem Int_any (n : Int) (h : I64 n) (w : World) (hT : Tab w) : Calls Tryd.prog 14 #[.int .i64 n] w fun e w' => e = .returned (.string (intS n)) ∧ Ext w w' := by
  have HT := Lib.hid hT
  have H := Lib.hid h
  clear hT h
  go_enter Tryd.func14, Tryd.ntmps14
  go_wp2_with fail
  refine (Tryd.strconv_Itoa n H.out.1 H.out.2 _ HT.out).mono ?_
  rintro e w' ⟨rfl, k, os, rfl⟩
  have HE := Lib.hid (ext_grow (w := w) k os)
  revert HE
  generalize Go.Sort.grow (w.drewN k) os = w1
  intro HE
  go_wp2_with fail
  go_ret
  exact ⟨rfl, HE.out⟩
theorem answer_any (b : Bool) (w : World) : Calls Tryd.prog 19 #[.bool b] w fun e w' => e = .returned (.string (if b then ⟨#[111, 107]⟩ else ⟨#[110, 111]⟩)) ∧ w = w' := by
  cases b
  · go_enter Tryd.func19, Tryd.ntmps19
    go_wp2_with fail
    go_ret
    exact ⟨rfl, rfl⟩
  · go_enter Tryd.func19, Tryd.ntmps19
    go_wp2_with fail
    go_ret
    exact ⟨rfl, rfl⟩
/-- One of a row of texts; none, if there is none there. -/
def pickS (L : List ByteArray) (i : Int) : ByteArray := if 0 ≤ i ∧ i < L.length then L.getD i.toNat ⟨#[]⟩ else ⟨#[]⟩
theorem stage_any (N n : Nat) (L : List ByteArray) (hn : L.length = n) (i : Int) (w : World) (hB : ∀ j, j < n → w.cell? ⟨N, j, none⟩ = some (.string (L.getD j ⟨#[]⟩))) : Calls Tryd.prog 23 #[.slice (some ⟨N, 0, none⟩) n n, .int .i64 i] w fun e w' => e = .returned (.string (pickS L i)) ∧ w = w' := by
  unfold pickS
  rw [hn]
  by_cases h0 : 0 ≤ i
  · by_cases h1 : i < n
    · rw [if_pos ⟨h0, h1⟩]
      obtain ⟨k, rfl⟩ : ∃ k : Nat, i = k := ⟨i.toNat, by omega⟩
      rw [Int.toNat_natCast]
      have hc := hB k (by omega)
      obtain ⟨s, hs⟩ : ∃ s, L.getD k ⟨#[]⟩ = s := ⟨_, rfl⟩
      rw [hs] at hc ⊢
      have d0 : decide ((k : Int) < 0) = false := decide_eq_false (by omega)
      have d1 : decide ((n : Int) ≤ (k : Int)) = false := decide_eq_false (by omega)
      have d1' : decide (n ≤ k) = false := decide_eq_false (by omega)
      have b0 : (0 : Int) ≤ (k : Int) := by omega
      have b1 : (k : Int) < (n : Int) := by omega
      clear hB hn hs h0
      go_enter Tryd.func23, Tryd.ntmps23
      go_wp2_with fail
      go_ret
      exact ⟨rfl, rfl⟩
    · rw [if_neg (fun h => h1 h.2)]
      have d0 : decide (i < 0) = false := decide_eq_false (by omega)
      have d1 : decide ((n : Int) ≤ i) = true := decide_eq_true (by omega)
      clear hB hn h0 h1
      go_enter Tryd.func23, Tryd.ntmps23
      go_wp2_with fail
      go_ret
      exact ⟨rfl, rfl⟩
  · rw [if_neg (fun h => h0 h.1)]
    have d0 : decide (i < 0) = true := decide_eq_true (by omega)
    clear hB hn h0
    go_enter Tryd.func23, Tryd.ntmps23
    go_wp2_with fail
    go_ret
    exact ⟨rfl, rfl⟩
theorem word_any (N n : Nat) (L : List ByteArray) (hn : L.length = n) (i : Int) (w : World) (hB : ∀ j, j < n → w.cell? ⟨N, j, none⟩ = some (.string (L.getD j ⟨#[]⟩))) : Calls Tryd.prog 24 #[.slice (some ⟨N, 0, none⟩) n n, .int .i64 i] w fun e w' => e = .returned (.string (pickS L i)) ∧ w = w' := by
  unfold pickS
  rw [hn]
  by_cases h0 : 0 ≤ i
  · by_cases h1 : i < n
    · rw [if_pos ⟨h0, h1⟩]
      obtain ⟨k, rfl⟩ : ∃ k : Nat, i = k := ⟨i.toNat, by omega⟩
      rw [Int.toNat_natCast]
      have hc := hB k (by omega)
      obtain ⟨s, hs⟩ : ∃ s, L.getD k ⟨#[]⟩ = s := ⟨_, rfl⟩
      rw [hs] at hc ⊢
      have d0 : decide ((k : Int) < 0) = false := decide_eq_false (by omega)
      have d1 : decide ((n : Int) ≤ (k : Int)) = false := decide_eq_false (by omega)
      have d1' : decide (n ≤ k) = false := decide_eq_false (by omega)
      have b0 : (0 : Int) ≤ (k : Int) := by omega
      have b1 : (k : Int) < (n : Int) := by omega
      clear hB hn hs h0
      go_enter Tryd.func24, Tryd.ntmps24
      go_wp2_with fail
      go_ret
      exact ⟨rfl, rfl⟩
    · rw [if_neg (fun h => h1 h.2)]
      have d0 : decide (i < 0) = false := decide_eq_false (by omega)
      have d1 : decide ((n : Int) ≤ i) = true := decide_eq_true (by omega)
      clear hB hn h0 h1
      go_enter Tryd.func24, Tryd.ntmps24
      go_wp2_with fail
      go_ret
      exact ⟨rfl, rfl⟩
  · rw [if_neg (fun h => h0 h.1)]
    have d0 : decide (i < 0) = true := decide_eq_true (by omega)
    clear hB hn h0
    go_enter Tryd.func24, Tryd.ntmps24
    go_wp2_with fail
    go_ret
    exact ⟨rfl, rfl⟩

def nameE (c : Int) : ByteArray := if c = 1 then ⟨#[101, 118, 105, 99, 116]⟩ else if c = 2 then ⟨#[101, 120, 112, 105, 114, 101]⟩ else if c = 3 then ⟨#[100, 101, 108]⟩ else if c = 4 then ⟨#[99, 108, 101, 97, 114]⟩ else if c = 5 then ⟨#[99, 108, 111, 115, 101]⟩ else if c = 6 then ⟨#[114, 101, 106, 101, 99, 116]⟩ else ⟨#[]⟩
theorem nameE_size (c : Int) : (nameE c).size ≤ 6 := by unfold nameE; repeat' split
                                                        all_goals decide
theorem Known_any (kind : Int) (w : World) : Calls Tryd.prog 36 #[.int .i64 kind] w fun e w' => e = .returned (.bool (decide (1 ≤ kind ∧ kind ≤ 6))) ∧ w = w' := by
  by_cases h0 : 1 ≤ kind
  · by_cases h1 : kind ≤ 6
    · have e : decide (1 ≤ kind ∧ kind ≤ 6) = true := decide_eq_true ⟨h0, h1⟩
      rw [e]
      clear e
      have d0 : decide (1 ≤ kind) = true := decide_eq_true h0
      have d1 : decide (kind ≤ 6) = true := decide_eq_true h1
      clear h0 h1
      go_enter Tryd.func36, Tryd.ntmps36
      go_wp2_with fail
      go_ret
      exact ⟨rfl, rfl⟩
    · have e : decide (1 ≤ kind ∧ kind ≤ 6) = false := decide_eq_false (fun h => h1 h.2)
      rw [e]
      clear e
      have d0 : decide (1 ≤ kind) = true := decide_eq_true h0
      have d1 : decide (kind ≤ 6) = false := decide_eq_false h1
      clear h0 h1
      go_enter Tryd.func36, Tryd.ntmps36
      go_wp2_with fail
      go_ret
      exact ⟨rfl, rfl⟩
  · have e : decide (1 ≤ kind ∧ kind ≤ 6) = false := decide_eq_false (fun h => h0 h.1)
    rw [e]
    clear e
    have d0 : decide (1 ≤ kind) = false := decide_eq_false h0
    clear h0
    go_enter Tryd.func36, Tryd.ntmps36
    go_wp2_with fail
    go_ret
    exact ⟨rfl, rfl⟩
theorem ev_index (i : Int) (k : Nat) (hi : i = k) (h : k < 6) (W : World) : (Instr.index 73 (.agg #[.string ⟨#[101, 118, 105, 99, 116]⟩, .string ⟨#[101, 120, 112, 105, 114, 101]⟩, .string ⟨#[100, 101, 108]⟩, .string ⟨#[99, 108, 101, 97, 114]⟩, .string ⟨#[99, 108, 111, 115, 101]⟩, .string ⟨#[114, 101, 106, 101, 99, 116]⟩]) (.int .i64 i)).run Tryd.prog W = .ok (.string (nameE (k + 1))) W := by
  subst hi
  have hb : (0 : Int) ≤ (k : Int) ∧ (k : Int) < ((6 : Nat) : Int) := by omega
  have hx : ∀ cs : Array Value, ∀ v, cs[k]? = some v → (part 9 cs k).run Tryd.prog W = .ok v W := fun cs v hv => by
    simp [part, Tryd.isAgg9, Result.andThen, hv]
  simp only [Instr.index, asIntOf, Sem.run_bind, Sem.run_pure, Result.andThen, run_underlying Tryd.underlying73, if_pos hb, Tryd.sizeOf9, Int.toNat_natCast, Nat.mul_one]
  refine hx _ _ ?_
  match k, h with
  | 0, _ => rfl
  | 1, _ => rfl
  | 2, _ => rfl
  | 3, _ => rfl
  | 4, _ => rfl
  | 5, _ => rfl
set_option maxRecDepth 100000 in
theorem EName_any (c : Int) (w : World) : Calls Tryd.prog 25 #[.int .i64 c] w fun e w' => e = .returned (.string (nameE c)) ∧ w = w' := by
  by_cases h : 1 ≤ c ∧ c ≤ 6
  · have hk := fun (c : Int) (h : 1 ≤ c ∧ c ≤ 6) (w : World) => (show Calls Tryd.prog 36 #[.int .i64 c] w fun e w' => e = .returned (.bool true) ∧ w = w' from (decide_eq_true h) ▸ Known_any c w)
    obtain h1 | h1 | h1 | h1 | h1 | h1 : c = 1 ∨ c = 2 ∨ c = 3 ∨ c = 4 ∨ c = 5 ∨ c = 6 := by omega
    all_goals (
      subst h1
      clear h
      have e0 := fun W => ev_index 0 0 rfl (by decide) W
      have e1 := fun W => ev_index 1 1 rfl (by decide) W
      have e2 := fun W => ev_index 2 2 rfl (by decide) W
      have e3 := fun W => ev_index 3 3 rfl (by decide) W
      have e4 := fun W => ev_index 4 4 rfl (by decide) W
      have e5 := fun W => ev_index 5 5 rfl (by decide) W
      go_enter Tryd.func25, Tryd.ntmps25
      go_wp2_with fail
      refine (hk _ (by decide) _).mono ?_
      rintro e w' ⟨rfl, rfl⟩
      clear hk
      go_wp2_with fail
      go_ret
      exact ⟨rfl, rfl⟩)
  · have e : nameE c = ⟨#[]⟩ := by unfold nameE; rw [if_neg (by omega), if_neg (by omega), if_neg (by omega), if_neg (by omega), if_neg (by omega), if_neg (by omega)]
    rw [e]
    have HK := Lib.hid (show decide (1 ≤ c ∧ c ≤ 6) = false from decide_eq_false h)
    clear e h
    go_enter Tryd.func25, Tryd.ntmps25
    go_wp2_with fail
    refine (Known_any _ _).mono ?_
    rw [HK.out]
    rintro e w' ⟨rfl, rfl⟩
    go_wp2_with fail
    go_ret
    exact ⟨rfl, rfl⟩
/-- The kinds' names. -/
def nmS : Nat → ByteArray
  | 0 => ⟨#[110, 111, 110, 101]⟩ | 1 => ⟨#[103, 101, 116]⟩ | 2 => ⟨#[115, 101, 116]⟩ | 3 => ⟨#[100, 101, 108]⟩ | 4 => ⟨#[119, 97, 105, 116]⟩ | 5 => ⟨#[99, 108, 101, 97, 114]⟩ | 6 => ⟨#[99, 108, 111, 115, 101]⟩ | 7 => ⟨#[108, 105, 109, 105, 116]⟩ | _ => ⟨#[]⟩
theorem nmS_size (k : Nat) : (nmS k).size ≤ 5 := by
  unfold nmS
  split
  all_goals decide
def NamesAt (w : World) : Prop := ∀ k, k < 8 → w.cell? ⟨0, k, none⟩ = some (.string (nmS k))
theorem NamesAt.ext {w w' : World} (h : NamesAt w) (e : Ext w w') : NamesAt w' := fun k hk => (e.cell (p := ⟨0, k, none⟩) (World.block_lt_of_cell? w _ (h k hk))).trans (h k hk)
theorem Name_yes (kind : Int) (hk : 0 ≤ kind ∧ kind ≤ 7) (w : World) (hN : NamesAt w) : Calls Tryd.prog 17 #[.int .i64 kind] w fun e w' => e = .returned (.string (nmS kind.toNat)) ∧ w = w' := by
  obtain ⟨k, rfl⟩ : ∃ k : Nat, kind = k := ⟨kind.toNat, by omega⟩
  have hk' : k < 8 := by omega
  have hc := hN k hk'
  have b0 : (0 : Int) ≤ (k : Int) := by omega
  have b1 : (k : Int) < 8 := by omega
  rw [Int.toNat_natCast]
  have HK := Lib.hid hk
  clear hk hN
  go_enter Tryd.func17, Tryd.ntmps17
  go_wp2_with fail
  refine (known_yes HK.out _).mono ?_
  rintro e w' ⟨rfl, rfl⟩
  go_wp2_with fail
  go_ret
  exact ⟨rfl, rfl⟩
end Go.Proofs.YtjlomdhaigejhaaDoor.Trc
