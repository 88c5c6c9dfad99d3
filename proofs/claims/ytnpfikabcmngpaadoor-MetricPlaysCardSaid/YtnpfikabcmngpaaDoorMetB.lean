/-
  Package metric: names, the evenness, copies, the text.
  The counters are uint64s; no other condition.
-/
import Derived.Test.YtnpfikabcmngpaaDoorMetA
import Derived.Test.YtnpfikabcmngpaaDoorBuildS
import Derived.Deep.LoopGhost
import Derived.Lib.ItoaLen
namespace Go.Proofs.YtnpfikabcmngpaaDoor.Met
open Go.RowKit Go.Seg Go.Open Go.Lib

def names : List (List UInt8) := [[104, 105, 116], [109, 105, 115, 115], [99, 97, 108, 108, 101, 100], [97, 100, 100, 101, 100], [117, 112, 100, 97, 116, 101, 100], [114, 101, 106, 101, 99, 116, 101, 100], [100, 114, 111, 112, 112, 101, 100], [100, 105, 115, 99, 97, 114, 100, 101, 100], [99, 111, 115, 116, 45, 97, 100, 100, 101, 100], [99, 111, 115, 116, 45, 103, 111, 110, 101], [103, 111, 110, 101], [98, 97, 116, 99, 104, 45, 115, 101, 110, 116], [98, 97, 116, 99, 104, 45, 108, 111, 115, 116]]
def nm (k : Nat) : List UInt8 := names.getD k []
theorem nm_len (k : Nat) : (nm k).length ≤ 12 := by
  by_cases h : k < 13
  · have : ∀ k, k < 13 → (nm k).length ≤ 12 := by decide
    exact this k h
  · have : nm k = [] := by unfold nm; rw [List.getD_eq_getElem?_getD, List.getElem?_eq_none (by simp [names]; omega)]; rfl
    rw [this]; simp
def nameOf (kind : Int) : List UInt8 := if 0 ≤ kind ∧ kind < 13 then nm kind.toNat else []
/-- The package's names lie there. -/
def NamesAt (w : World) : Prop := ∀ k, k < 13 → w.cell? ⟨0, k, none⟩ = some (.string ⟨(nm k).toArray⟩)
theorem NamesAt.ext {w w' : World} (h : NamesAt w) (e : Ext w w') : NamesAt w' := fun k hk => (e.cell (p := ⟨0, k, none⟩) (World.block_lt_of_cell? w _ (h k hk))).trans (h k hk)
theorem tab_ext {P : Program} {w w' : World} {name : String} {k : IntKind} {zs : List Int} (h : Lib.TabIs P w name k zs) (e : Ext w w') : Lib.TabIs P w' name k zs := by
  unfold Lib.TabIs World.var? at *
  cases hg : P.globalNamed name with
  | none => simp [hg] at h
  | some g =>
    simp only [hg, Option.bind_some] at h ⊢
    have hlt : g < w.heap.size := by
      rcases Nat.lt_or_ge g w.heap.size with h' | h'
      · exact h'
      · rw [Array.getElem?_eq_none h'] at h; simp at h
    rw [e.block g hlt]
    exact h
abbrev Tab (w : World) : Prop := Lib.TabIs Tryd.prog w "internal/strconv.uint64pow10" .u64 Lib.pow10Tab

theorem Name_any (kind : Int) (w : World) (hN : NamesAt w) : Calls Tryd.prog 17 #[.int .i64 kind] w fun e w' => e = .returned (.string ⟨(nameOf kind).toArray⟩) ∧ w = w' := by
  unfold nameOf
  by_cases hk : 0 ≤ kind ∧ kind < 13
  · rw [if_pos hk]
    obtain ⟨k, rfl⟩ : ∃ k : Nat, kind = k := ⟨kind.toNat, by omega⟩
    have hk' : k < 13 := by omega
    have hc := hN k hk'
    have b0 : (0 : Int) ≤ (k : Int) := by omega
    have b1 : (k : Int) < 13 := by omega
    rw [Int.toNat_natCast]
    clear hk hN
    go_enter Tryd.func17, Tryd.ntmps17
    go_wp2_with fail
    refine (known_yes k hk' _).mono ?_
    rintro e w' ⟨rfl, rfl⟩
    go_wp2_with fail
    go_ret
    exact ⟨rfl, rfl⟩
  · rw [if_neg hk]
    have HK := Lib.hid hk
    clear hk hN
    go_enter Tryd.func17, Tryd.ntmps17
    go_wp2_with fail
    refine (known_no kind HK.out _).mono ?_
    rintro e w' ⟨rfl, rfl⟩
    go_wp2_with fail
    go_ret
    exact ⟨rfl, rfl⟩

/-- What is left of the calls. -/
def lefts (g : Int → Int) : Nat → Int
  | 0 => g 2
  | j + 1 => wr (lefts g j - g (3 + j))
def evenG (g : Int → Int) : Bool := lefts g 5 == 0
theorem Even_gen (p : Option Addr) (g : Int → Int) (w : World) (hg : ∀ k, Calls Tryd.prog 16 #[.pointer p, .int .i64 k] w fun e w' => e = .returned (.int .u64 (g k)) ∧ w = w') :
    Calls Tryd.prog 19 #[.pointer p] w fun e w' => e = .returned (.bool (evenG g)) ∧ w = w' := by
  have HG := Lib.hid hg
  clear hg
  go_enter Tryd.func19, Tryd.ntmps19
  go_wp2_with fail
  refine (HG.out 2).mono ?_
  rintro e w' ⟨rfl, rfl⟩
  go_wp2_with fail
  go_loopg [3, 4] 5 (fun m l i wr => ∃ j : Nat, j ≤ 5 ∧ l = .int .u64 (lefts g j) ∧ i = .int .i64 (3 + j) ∧ wr = w ∧ 5 - j ≤ m)
  case atStart => exact ⟨0, by omega, rfl, rfl, rfl, by omega⟩
  case round =>
    obtain ⟨j, hj, rfl, rfl, rfl, hm⟩ := hrel
    by_cases hlt : j < 5
    · have d : decide ((3 : Int) + (j : Int) ≤ 7) = true := decide_eq_true (by omega)
      go_wp2_with fail
      refine (HG.out _).mono ?_
      rintro e w' ⟨rfl, rfl⟩
      go_wp2_with fail
      go_roundg (5 - (j + 1))
      case measure => omega
      case rel => exact ⟨j + 1, by omega, rfl, by go_num, rfl, by omega⟩
    · obtain rfl : j = 5 := by omega
      go_wp2_with fail
      go_ret
      exact ⟨rfl, rfl⟩
theorem Even_nil (w : World) : Calls Tryd.prog 19 #[.pointer none] w fun e w' => e = .returned (.bool true) ∧ w = w' :=
  (Even_gen none (fun _ => 0) w (fun k => Get_nil k w)).mono fun e w' h => ⟨by rw [h.1]; rfl, h.2⟩
theorem Even_any (b : Nat) (l : List Int) (w : World) (h : BoardAt w b l) : Calls Tryd.prog 19 #[.pointer (some ⟨b, 0, none⟩)] w fun e w' => e = .returned (.bool (evenG (getL l))) ∧ w = w' :=
  Even_gen _ (getL l) w (fun k => Get_any b l k w h)

/-- Counters less others. -/
def sinceL (l : List Int) (g : Int → Int) : List Int := (List.range 13).map fun k => wr (l.getD k 0 - g k)
def sinceTo (l : List Int) (g : Int → Int) (k : Nat) : List Int := (List.range k).map (fun k => wr (l.getD k 0 - g k)) ++ List.replicate (13 - k) 0
theorem sinceTo_len (l : List Int) (g : Int → Int) {k : Nat} (h : k ≤ 13) : (sinceTo l g k).length = 13 := by simp [sinceTo]; omega
theorem sinceTo_set (l : List Int) (g : Int → Int) {k : Nat} (h : k < 13) : (sinceTo l g k).set k (wr (l.getD k 0 - g k)) = sinceTo l g (k + 1) := by
  unfold sinceTo
  rw [List.set_append_right _ _ (by simp), List.range_succ, List.map_append, List.length_map, List.length_range, Nat.sub_self]
  obtain ⟨m, hm⟩ : ∃ m, 13 - k = m + 1 := ⟨12 - k, by omega⟩
  rw [hm, List.replicate_succ, show 13 - (k + 1) = m by omega]
  simp
theorem sinceTo_done (l : List Int) (g : Int → Int) : sinceTo l g 13 = sinceL l g := by simp [sinceTo, sinceL]
theorem Since_none (p : Option Addr) (w : World) : Calls Tryd.prog 14 #[.pointer none, .pointer p] w fun e w' => e = .returned (.pointer none) ∧ w = w' := by
  go_enter Tryd.func14, Tryd.ntmps14
  go_wp2_with fail
  go_ret
  exact ⟨rfl, rfl⟩
set_option maxHeartbeats 1000000 in
theorem Since_gen (b : Nat) (l : List Int) (p : Option Addr) (g : Int → Int) (w : World) (h : BoardAt w b l) (hg : ∀ k W, Ext w W → Calls Tryd.prog 16 #[.pointer p, .int .i64 k] W fun e w' => e = .returned (.int .u64 (g k)) ∧ W = w') :
    Calls Tryd.prog 14 #[.pointer (some ⟨b, 0, none⟩), .pointer p] w fun e w' => e = .returned (.pointer (some ⟨w.heap.size, 0, none⟩)) ∧ BoardAt w' w.heap.size (sinceL l g) ∧ Ext w w' := by
  have HG := Lib.hid hg
  have HB := Lib.hid h
  have hlb := h.lt
  clear hg h
  go_enter Tryd.func14, Tryd.ntmps14
  go_wp2_with fail
  refine (New_any _).mono ?_
  rintro e w1 ⟨rfl, hN, hE⟩
  have HN := Lib.hid hN
  have HE := Lib.hid hE
  clear hN hE
  go_wp2_with fail
  go_loopg [6, 10] 13 (fun m _ i wr => ∃ k : Nat, k ≤ 13 ∧ i = .int .i64 k ∧ BoardAt wr w.heap.size (sinceTo l g k) ∧ Ext w wr ∧ 13 - k ≤ m)
  case atStart => exact ⟨0, by omega, rfl, HN.out, HE.out, by omega⟩
  case round =>
    obtain ⟨k, hk, rfl, hO, hX, hm⟩ := hrel
    have HO := Lib.hid hO
    have HX := Lib.hid hX
    clear hO hX
    by_cases hlt : k < 13
    · have d : decide ((k : Int) < 13) = true := decide_eq_true (by omega)
      have b0 : (0 : Int) ≤ (k : Int) := by omega
      have b1 : (k : Int) < 13 := by omega
      have hc := (HB.out.ext HX.out).cell k hlt
      have ho := HO.out.cell k hlt
      have hf := HO.out.2.frozen k
      go_wp2_with fail
      refine wp_region_segsK [([7, 1, 2, 2, 2, 2], 0, 0), ([1, 4], 3, 11), ([2, 1], 0, 0), ([1], 1, 0)] (by kernel_rfl) (by kernel_rfl) ?_
      apply segsK_pure
      · intro W
        simp only [runsT, runsF, rep, pick]
        go_wp2_with fail
        exact ⟨rfl, rfl⟩
      simp only [runsT, runsF, rep, left]
      apply segsK_class
      · intro W hW
        have hc := ((HB.out.ext HX.out).ext (Ext.trans (Ext.drew _) hW)).cell k hlt
        simp only [runsT, runsF, rep, pick]
        go_wp2_with fail
        exact ⟨rfl, rfl⟩
      simp only [runsT, runsF, rep, left]
      go_wp2_with fail
      refine (HG.out k _ (HX.out.trans (Ext.drew _))).mono ?_
      rintro e w' ⟨rfl, rfl⟩
      go_wp2_with fail
      refine ⟨fun _ => Ext.refl _, ?_⟩
      apply segsK_pure
      · intro W
        simp only [runsT, runsF, rep, pick]
        go_wp2_with fail
        exact ⟨rfl, rfl⟩
      simp only [runsT, runsF, rep, left]
      apply segsK_op
      go_wp2_with fail
      refine ⟨fun h => (by cases h), ?_⟩
      apply segsK_nil
      go_wp2_with fail
      go_roundg (13 - (k + 1))
      case measure => omega
      case rel => exact ⟨k + 1, by omega, by go_num, by rw [← sinceTo_set l g hlt]; exact (HO.out.set k _).ext (Ext.drew _), (HX.out.setCell (Nat.le_refl _) _).drew, by omega⟩
    · obtain rfl : k = 13 := by omega
      have d : decide (((13 : Nat) : Int) < 13) = false := by decide
      go_wp2_with fail
      go_ret
      exact ⟨rfl, by rw [← sinceTo_done]; exact HO.out, HX.out⟩
theorem Clone_nil (w : World) : Calls Tryd.prog 9 #[.pointer none] w fun e w' => e = .returned (.pointer none) ∧ w = w' := by
  go_enter Tryd.func9, Tryd.ntmps9
  go_wp2_with fail
  refine (Since_none _ _).mono ?_
  rintro e w' ⟨rfl, rfl⟩
  go_wp2_with fail
  go_ret
  exact ⟨rfl, rfl⟩
/-- All counters are uint64s. -/
def InR (l : List Int) : Prop := ∀ k, 0 ≤ l.getD k 0 ∧ l.getD k 0 < 18446744073709551616
theorem wr_id {n : Int} (h : 0 ≤ n ∧ n < 18446744073709551616) : wr n = n := by unfold wr; rw [IntKind.wrap_u64]; omega
theorem wr_in (n : Int) : 0 ≤ wr n ∧ wr n < 18446744073709551616 := by unfold wr; rw [IntKind.wrap_u64]; omega
theorem since_nil {l : List Int} (hl : l.length = 13) (hr : InR l) : sinceL l (fun _ => 0) = l := by
  unfold sinceL
  apply List.ext_getElem
  · simp [hl]
  · intro i h1 h2
    have := hr i
    rw [List.getElem_map, List.getElem_range, Int.sub_zero, wr_id this]
    simp [List.getD_eq_getElem?_getD, h2]
theorem Clone_any (b : Nat) (l : List Int) (w : World) (h : BoardAt w b l) (hr : InR l) : Calls Tryd.prog 9 #[.pointer (some ⟨b, 0, none⟩)] w fun e w' => e = .returned (.pointer (some ⟨w.heap.size, 0, none⟩)) ∧ BoardAt w' w.heap.size l ∧ Ext w w' := by
  have HB := Lib.hid h
  have HR := Lib.hid hr
  clear h hr
  go_enter Tryd.func9, Tryd.ntmps9
  go_wp2_with fail
  refine (Since_gen b l none (fun _ => 0) _ HB.out (fun k W _ => Get_nil k W)).mono ?_
  rintro e w' ⟨rfl, hO, hE⟩
  rw [since_nil HB.out.1 HR.out] at hO
  have H := Lib.hid (And.intro hO hE)
  clear hO hE
  go_wp2_with fail
  go_ret
  exact ⟨rfl, H.out⟩

theorem builder_ext {T e : TypeId} {B b : Nat} {bs : List Value} {w w' : World} (h : Lib.IsBuilderF T e B b bs w) (hE : Ext w w') : Lib.IsBuilderF T e B b bs w' := by
  have lt : ∀ {g : Nat} {x : Obj}, w.heap[g]? = some x → g < w.heap.size := fun {g x} hg => by
    rcases Nat.lt_or_ge g w.heap.size with h' | h'
    · exact h'
    · rw [Array.getElem?_eq_none h'] at hg; simp at hg
  have one : ∀ {p : Value}, Lib.BuilderAtF T e B b p bs w → Lib.BuilderAtF T e B b p bs w' := by
    rintro p ⟨hB, v, hb, ⟨hl, ho⟩, hne⟩
    refine ⟨hB, v, (hE.block b (lt hb)).trans hb, ⟨hl, ?_⟩, hne⟩
    rcases ho with hn | ⟨g, cap, cur, fz, hv, hbg, hg, rest⟩
    · exact .inl hn
    · exact .inr ⟨g, cap, cur, fz, hv, hbg, (hE.block g (lt hg)).trans hg, rest⟩
  exact h.elim (fun x => .inl (one x)) (fun x => .inr (one x))
/-- The text's line of a counter, and the first lines. -/
def line (l : List Int) (k : Nat) : List UInt8 := if 0 < l.getD k 0 then nm k ++ [32] ++ Lib.decDigits (l.getD k 0).toNat ++ [10] else []
def textTo (l : List Int) : Nat → List UInt8
  | 0 => []
  | k + 1 => textTo l k ++ line l k
theorem line_len {l : List Int} (hr : InR l) (k : Nat) : (line l k).length ≤ 34 := by
  unfold line
  have h0 := hr k
  generalize l.getD k 0 = n at h0 ⊢
  split
  · have h1 := nm_len k
    have h2 := Lib.nDigits_le20 n.toNat (by omega)
    simp only [List.length_append, Lib.decDigits_length, List.length_cons, List.length_nil]; omega
  · simp
theorem textTo_len {l : List Int} (hr : InR l) : ∀ k, (textTo l k).length ≤ 34 * k
  | 0 => by simp [textTo]
  | k + 1 => by
    have := textTo_len hr k
    have := line_len hr k
    simp only [textTo, List.length_append]; omega
def text (l : List Int) : List UInt8 := textTo l 13
theorem Text_nil (w : World) : Calls Tryd.prog 20 #[.pointer none] w fun e w' => e = .returned (.string ⟨#[]⟩) ∧ Ext w w' := by
  go_enter Tryd.func20, Tryd.ntmps20
  go_wp2_with fail
  have hI0 : Lib.IsBuilderF 72 5 w.heap.size w.heap.size (Lib.byteCells []) (w.alloc (.cells #[.pointer none, .slice none 0 0] 72)) := Lib.IsBuilderF.of (Lib.fresh_isBuilder 72 5 w)
  have HI0 := Lib.hid hI0
  clear hI0
  go_loopg [4, 5, 6] 13 (fun m _ _ i wr => ∃ k : Nat, k ≤ 13 ∧ i = .int .i64 k ∧ Lib.IsBuilderF 72 5 w.heap.size w.heap.size (Lib.byteCells []) wr ∧ Ext w wr ∧ 13 - k ≤ m)
  case atStart => exact ⟨0, by omega, rfl, HI0.out, (Below.refl _ _).alloc (Nat.le_refl _) _, by omega⟩
  case round =>
    obtain ⟨k, hk, rfl, hO, hX, hm⟩ := hrel
    have HO := Lib.hid hO
    have HX := Lib.hid hX
    clear hO hX
    by_cases hlt : k < 13
    · have d : decide ((k : Int) < 13) = true := decide_eq_true (by omega)
      go_wp2_with fail
      refine (Get_nil _ _).mono ?_
      rintro e w' ⟨rfl, rfl⟩
      go_wp2_with fail
      go_roundg (13 - (k + 1))
      case measure => omega
      case rel => exact ⟨k + 1, by omega, by go_num, HO.out, HX.out, by omega⟩
    · obtain rfl : k = 13 := by omega
      have d : decide (((13 : Nat) : Int) < 13) = false := by decide
      go_wp2_with fail
      refine (Tryd.Builder_String_any_k w.heap.size w.heap.size [] _ HO.out HX.out.size).mono ?_
      rintro e w' ⟨rfl, -, hB, -⟩
      have HB := Lib.hid hB
      clear hB
      go_wp2_with fail
      go_ret
      exact ⟨rfl, Below.trans HX.out HB.out⟩
set_option maxHeartbeats 1000000 in
theorem Text_any (b : Nat) (l : List Int) (w : World) (h : BoardAt w b l) (hr : InR l) (hN : NamesAt w) (hT : Tab w) : Calls Tryd.prog 20 #[.pointer (some ⟨b, 0, none⟩)] w fun e w' => e = .returned (.string ⟨(text l).toArray⟩) ∧ Ext w w' := by
  have HBo := Lib.hid h
  have HR := Lib.hid hr
  have HN := Lib.hid hN
  have HT := Lib.hid hT
  clear h hr hN hT
  go_enter Tryd.func20, Tryd.ntmps20
  go_wp2_with fail
  have hI0 : Lib.IsBuilderF 72 5 w.heap.size w.heap.size (Lib.byteCells []) (w.alloc (.cells #[.pointer none, .slice none 0 0] 72)) := Lib.IsBuilderF.of (Lib.fresh_isBuilder 72 5 w)
  have HI0 := Lib.hid hI0
  clear hI0
  go_loopg [4, 5, 6] 13 (fun m _ _ i wr => ∃ k : Nat, k ≤ 13 ∧ i = .int .i64 k ∧ Lib.IsBuilderF 72 5 w.heap.size w.heap.size (Lib.byteCells (textTo l k)) wr ∧ Ext w wr ∧ 13 - k ≤ m)
  case atStart => exact ⟨0, by omega, rfl, HI0.out, (Below.refl _ _).alloc (Nat.le_refl _) _, by omega⟩
  case round =>
    obtain ⟨k, hk, rfl, hO, hX, hm⟩ := hrel
    have HO := Lib.hid hO
    have HX := Lib.hid hX
    clear hO hX
    by_cases hlt : k < 13
    · have d : decide ((k : Int) < 13) = true := decide_eq_true (by omega)
      obtain ⟨u, hu⟩ : ∃ u : Nat, getL l k = u := ⟨(getL l k).toNat, by have := HR.out k; unfold getL; rw [if_pos (by omega), Int.toNat_natCast]; omega⟩
      have hu' : l.getD k 0 = u := by unfold getL at hu; rw [if_pos (by omega), Int.toNat_natCast] at hu; exact hu
      have hu64 : u < 18446744073709551616 := by have := HR.out k; omega
      have HU := Lib.hid (And.intro hu (And.intro hu' hu64))
      clear hu hu' hu64
      go_wp2_with fail
      refine (Get_any b l k _ (HBo.out.ext HX.out)).mono ?_
      rw [HU.out.1]
      rintro e w' ⟨rfl, rfl⟩
      by_cases h0 : 0 < u
      · have d0 : decide (0 < u) = true := decide_eq_true (by omega)
        have HL := Lib.hid (show line l k = nm k ++ 32 :: (Lib.decDigits u ++ [10]) by unfold line; rw [HU.out.2.1, if_pos (by omega), Int.toNat_natCast]; simp)
        have hn := nm_len k
        have hd : (Lib.decDigits u).length ≤ 20 := by rw [Lib.decDigits_length]; exact Lib.nDigits_le20 u HU.out.2.2
        have a1 : ∀ W, (Op.stringOp .add ⟨(nm k).toArray⟩ ⟨[32].toArray⟩).run Tryd.prog W = .ok (.string ⟨(nm k ++ [32]).toArray⟩) W := fun W => run_string_add_lists W _ _ (by omega) (by decide)
        have a2 : ∀ W, (Op.stringOp .add ⟨(nm k ++ [32]).toArray⟩ ⟨(Lib.decDigits u).toArray⟩).run Tryd.prog W = .ok (.string ⟨(nm k ++ 32 :: Lib.decDigits u).toArray⟩) W := fun W => (run_string_add_lists W _ _ (by simp; omega) (by omega)).trans (by simp)
        have a3 : ∀ W, (Op.stringOp .add ⟨(nm k ++ 32 :: Lib.decDigits u).toArray⟩ ⟨[10].toArray⟩).run Tryd.prog W = .ok (.string ⟨(nm k ++ 32 :: (Lib.decDigits u ++ [10])).toArray⟩) W := fun W => (run_string_add_lists W _ _ (by simp; omega) (by decide)).trans (by simp)
        have htl := textTo_len HR.out k
        clear hn
        go_wp2_with fail
        refine (Name_any k _ (HN.out.ext HX.out)).mono ?_
        rw [show nameOf (k : Int) = nm k from by unfold nameOf; rw [if_pos (by omega), Int.toNat_natCast]]
        rintro e w' ⟨rfl, rfl⟩
        go_wp2_with fail
        refine (Bui.FormatUint_any u HU.out.2.2 _ (tab_ext HT.out HX.out)).mono ?_
        rintro e w1 ⟨rfl, hE⟩
        have HE := Lib.hid hE
        clear hE
        go_wp2_with fail
        have hsz : (nm k ++ 32 :: (Lib.decDigits u ++ [10])).length ≤ 34 := by have := nm_len k; simp only [List.length_append, List.length_cons, List.length_nil]; omega
        revert HL a1 a2 a3 hsz
        generalize hz : nm k ++ 32 :: (Lib.decDigits u ++ [10]) = z
        intro HL a1 a2 a3 hsz
        have hsz' : (Lib.byteCells (textTo l k)).length + (ByteArray.mk z.toArray).size ≤ 140737488355328 := by rw [Lib.byteCells_length]; show _ + z.toArray.size ≤ _; rw [List.size_toArray]; omega
        refine (Bui.WriteString_k w.heap.size w.heap.size (Lib.byteCells (textTo l k)) ⟨z.toArray⟩ _ (builder_ext HO.out HE.out) hsz' (Nat.le_trans HX.out.size HE.out.size)).mono ?_
        rintro e w2 ⟨rfl, hI, hB⟩
        have HI := Lib.hid hI
        have HB := Lib.hid hB
        clear hI hB
        go_wp2_with fail
        go_roundg (13 - (k + 1))
        case measure => omega
        case rel => exact ⟨k + 1, by omega, by go_num, by simp only [textTo]; rw [HL.out, Lib.byteCells_append]; exact HI.out, Below.trans (Ext.trans HX.out HE.out) HB.out, by omega⟩
      · obtain rfl : u = 0 := by omega
        have HL := Lib.hid (show line l k = [] by unfold line; rw [HU.out.2.1, if_neg (by decide)])
        have d0 : decide (0 < 0) = false := by decide
        clear h0
        go_wp2_with fail
        go_roundg (13 - (k + 1))
        case measure => omega
        case rel => exact ⟨k + 1, by omega, by go_num, by simp only [textTo]; rw [HL.out, List.append_nil]; exact HO.out, HX.out, by omega⟩
    · obtain rfl : k = 13 := by omega
      have d : decide (((13 : Nat) : Int) < 13) = false := by decide
      go_wp2_with fail
      refine (Tryd.Builder_String_any_k w.heap.size w.heap.size (textTo l 13) _ HO.out HX.out.size).mono ?_
      rintro e w' ⟨rfl, -, hB, -⟩
      have HB := Lib.hid hB
      clear hB
      go_wp2_with fail
      go_ret
      exact ⟨rfl, Below.trans HX.out HB.out⟩
end Go.Proofs.YtnpfikabcmngpaaDoor.Met
