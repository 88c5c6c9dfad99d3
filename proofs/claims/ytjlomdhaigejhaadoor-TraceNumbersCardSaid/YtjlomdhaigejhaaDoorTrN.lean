/-
  Package trace: of which number a text is one; the document's.
  A text of at most 40 bytes; the library's table and its two errors lie there; no other condition.
-/
import Derived.Test.YtjlomdhaigejhaaDoorTrB
import Derived.Test.YtjlomdhaigejhaaDoorTrM
import Derived.Lib.OthersKept
import Derived.Lib.AtoiErrMem
import Derived.Lib.SmallJoins
namespace Go.Proofs.YtjlomdhaigejhaaDoor.Trc
open Go.RowKit Go.Shelf Go.Seg Go.Open Go.Lib Prg NumT

/-- What a text is the number of. -/
def NumR (s : ByteArray) (m : Int) (ok : Bool) : Prop := (ok = true ∧ I64 m ∧ intS m = s) ∨ (ok = false ∧ m = 0 ∧ ∀ n, I64 n → intS n ≠ s)
theorem intS_inj {n m : Int} (hn : I64 n) (hm : I64 m) (h : intS n = intS m) : n = m := by
  refine itoa_inj hn hm ?_
  have := congrArg (fun b : ByteArray => b.data.toList) h
  simpa [intS, Str] using this
theorem NumR.uniq {s : ByteArray} {m x : Int} {ok is : Bool} (h : NumR s m ok) (k : NumR s x is) : m = x ∧ ok = is := by
  rcases h with ⟨rfl, h1, h2⟩ | ⟨rfl, rfl, h2⟩
  · rcases k with ⟨rfl, k1, k2⟩ | ⟨rfl, rfl, k2⟩
    · exact ⟨intS_inj h1 k1 (h2.trans k2.symm), rfl⟩
    · exact absurd h2 (k2 m h1)
  · rcases k with ⟨rfl, k1, k2⟩ | ⟨rfl, rfl, k2⟩
    · exact absurd k2 (h2 x k1)
    · exact ⟨rfl, rfl⟩
theorem intS_list (n : Int) : (intS n).data.toList = itoa n := by simp [intS, Str]
theorem intS_byte (n : Int) (k : Nat) (h : k < (intS n).size) : ∃ h', (intS n)[k]'h = (itoa n)[k]'h' := by
  have h' : k < (itoa n).length := by rw [← intS_list, Array.length_toList]; exact h
  refine ⟨h', ?_⟩
  show (intS n).data[k] = _
  simp [intS, Str]
/-- A byte that is no digit, and no sign ahead: the text is no number's. -/
theorem bad_byte {s : ByteArray} {k : Nat} (h : k < s.size) (hb : ¬ (48 ≤ (s[k]'h).toNat ∧ (s[k]'h).toNat ≤ 57)) (hs : ¬ (k = 0 ∧ (s[k]'h).toNat = 45)) : ∀ n, I64 n → intS n ≠ s := by
  rintro n _ rfl
  obtain ⟨h', e⟩ := intS_byte n k h
  rw [e] at hb hs
  rcases itoa_byte n k h' with h1 | ⟨h1, h2, _⟩
  · exact hb h1
  · exact hs ⟨h1, h2⟩
theorem bad_rune {s : ByteArray} {k : Nat} (h : k < s.size) (hb : ¬ (48 ≤ (Utf8.decode s k).1 ∧ (Utf8.decode s k).1 ≤ 57)) (hs : ¬ (k = 0 ∧ (Utf8.decode s k).1 = 45)) : ∀ n, I64 n → intS n ≠ s := by
  by_cases ha : (s[k]'h).toNat < 128
  · rw [decode_ascii s k h ha] at hb hs
    exact bad_byte h hb hs
  · exact bad_byte h (by omega) (by omega)
theorem parse_of {s : ByteArray} {n : Int} (hn : I64 n) (h : intS n = s) : parseIntB 64 s.data.toList = .ok n := by
  rw [← h, intS_list]; exact parse_itoa n hn.1 hn.2

/-- How a number is read out of a text. -/
def NumP (s : ByteArray) (w : World) (e : Ending) (w' : World) : Prop := ∃ m ok, e = .returned (.tuple #[.int .i64 m, .bool ok]) ∧ NumR s m ok ∧ Ext w w'
theorem numP_mk {s : ByteArray} {w w' : World} (m : Int) (ok : Bool) (h : NumR s m ok) (hE : Ext w w') : NumP s w (.returned (.tuple #[.int .i64 m, .bool ok])) w' := ⟨m, ok, rfl, h, hE⟩
theorem ne_list {a b : ByteArray} (h : a ≠ b) : (a.toList == b.toList) = false := beq_eq_false_iff_ne.2 (fun e => h (ByteArray.ext (Array.toList_inj.1 (by rw [← ByteArray.toList_eq, ← ByteArray.toList_eq]; exact e))))
def ErrAt (w : World) : Prop := (∃ tp p, w.var? Tryd.prog "strconv.ErrSyntax" = some #[.iface tp p]) ∧ (∃ tp p, w.var? Tryd.prog "strconv.ErrRange" = some #[.iface tp p])
theorem var_ext {P : Program} {w w' : World} {name : String} {cs : Array Value} (h : w.var? P name = some cs) (e : Ext w w') : w'.var? P name = some cs := by
  unfold World.var? at *
  cases hg : P.globalNamed name with
  | none => simp [hg] at h
  | some g =>
    simp only [hg, Option.bind_some] at h ⊢
    have hlt : g < w.heap.size := by
      rcases Nat.lt_or_ge g w.heap.size with h' | h'
      · exact h'
      · rw [Array.getElem?_eq_none h'] at h; simp at h
    rw [e.block g hlt]
    exact h
theorem ErrAt.ext {w w' : World} (h : ErrAt w) (e : Ext w w') : ErrAt w' := by
  obtain ⟨⟨a, b, h1⟩, c, d, h2⟩ := h
  exact ⟨⟨a, b, var_ext h1 e⟩, c, d, var_ext h2 e⟩
theorem parse_i64 {l : List UInt8} {v : Int} (h : parseIntB 64 l = .ok v) : I64 v := by
  have := parseIntB_bounds h
  have e : ((2 ^ (64 - 1) : Nat) : Int) = 9223372036854775808 := by decide
  rw [e] at this
  exact ⟨by omega, by omega⟩
set_option maxHeartbeats 4000000 in
set_option maxRecDepth 100000 in
theorem Num_any (s : ByteArray) (hs : s.size ≤ 40) (w : World) (hT : Tab w) (hE : ErrAt w) : Calls Tryd.prog 12 #[.string s] w fun e w' => NumP s w e w' := by
  have HT := Lib.hid hT
  have HE := Lib.hid hE
  have HSz := Lib.hid hs
  have hk0 : (w.iter s 0).heap[w.heap.size]? = some (.stringIter s 0) := World.iter_heap w s 0
  have hb0 : Ext w (w.iter s 0) := (Below.refl _ w).alloc (Nat.le_refl _) _
  have H0 := Lib.hid (And.intro hk0 hb0)
  clear hT hE hs hk0 hb0
  go_enter Tryd.func12, Tryd.ntmps12
  go_wp2_with fail
  go_loopg [4] (s.size + 1) (fun g _ wr => ∃ pos : Nat, wr.heap[w.heap.size]? = some (.stringIter s pos) ∧ Ext w wr ∧ s.size - pos + 1 ≤ g)
  case atStart => exact ⟨0, H0.out.1, H0.out.2, Nat.le_refl _⟩
  case round =>
    obtain ⟨pos, hk, hX, hg⟩ := hrel
    by_cases hp : pos < s.size
    · have hnext : ∀ ty, (Instr.next (.pointer (some ⟨w.heap.size, 0, none⟩)) true ty).run Tryd.prog wr = _ := fun ty => Lib.run_next_any_at wr w.heap.size s pos ty hk hp
      have hps := decode_pos s pos
      have hbad := @bad_rune s pos hp
      obtain ⟨st, hst⟩ : ∃ st, (Utf8.decode s pos).2 = st := ⟨_, rfl⟩
      obtain ⟨rr, hrr⟩ : ∃ rr, (Utf8.decode s pos).1 = rr := ⟨_, rfl⟩
      rw [hst, hrr] at hnext
      rw [hrr] at hbad
      rw [hst] at hps
      have hk1 := Lib.iterAt_heap wr w.heap.size s pos (pos + st) hk
      have hX1 : Ext w (wr.iterAt w.heap.size s (pos + st)) := Lib.below_iterAt hX (Nat.le_refl _) s (pos + st)
      revert hnext hk1 hX1
      generalize wr.iterAt w.heap.size s (pos + st) = W1
      intro hnext hk1 hX1
      have H1 := Lib.hid (And.intro hk1 hX1)
      have HB := Lib.hid hbad
      have HG := Lib.hid (show s.size - (pos + st) + 1 < gk by omega)
      clear hk1 hX1 hbad hps hst hrr hk hX hg hp
      by_cases hd : 48 ≤ rr ∧ rr ≤ 57
      · have d1 : decide ((rr : Int) < 48) = false := decide_eq_false (by omega)
        have d1' : decide (rr < 48) = false := decide_eq_false (by omega)
        have d2 : decide ((57 : Int) < (rr : Int)) = false := decide_eq_false (by omega)
        have d2' : decide (57 < rr) = false := decide_eq_false (by omega)
        clear hd
        go_wp2_with fail
        go_roundg (s.size - (pos + st) + 1)
        case measure => exact HG.out
        case rel => exact ⟨pos + st, H1.out.1, H1.out.2, Nat.le_refl _⟩
      · by_cases h45 : rr = 45
        · subst h45
          by_cases h0 : pos = 0
          · subst h0
            go_wp2_with fail
            go_roundg (s.size - (0 + st) + 1)
            case measure => exact HG.out
            case rel => exact ⟨0 + st, H1.out.1, H1.out.2, Nat.le_refl _⟩
          · have HB' := Lib.hid (HB.out hd (fun h => h0 h.1))
            have d4 : decide ((0 : Int) < (pos : Int)) = true := decide_eq_true (by omega)
            have d4' : decide (0 < pos) = true := decide_eq_true (by omega)
            clear hd h0
            go_wp2_with fail
            go_ret2
            exact numP_mk 0 false (.inr ⟨rfl, rfl, HB'.out⟩) H1.out.2
        · have HB' := Lib.hid (HB.out hd (fun h => h45 h.2))
          by_cases hl : rr < 48
          · have d1 : decide ((rr : Int) < 48) = true := decide_eq_true (by omega)
            have d1' : decide (rr < 48) = true := decide_eq_true (by omega)
            have d3 : ((rr : Int) != 45) = true := by simp; omega
            have d3' : (rr != 45) = true := by simp; omega
            clear hd h45 hl
            go_wp2_with fail
            go_ret2
            exact numP_mk 0 false (.inr ⟨rfl, rfl, HB'.out⟩) H1.out.2
          · have d1 : decide ((rr : Int) < 48) = false := decide_eq_false (by omega)
            have d1' : decide (rr < 48) = false := decide_eq_false (by omega)
            have d2 : decide ((57 : Int) < (rr : Int)) = true := decide_eq_true (by omega)
            have d2' : decide (57 < rr) = true := decide_eq_true (by omega)
            have d3 : ((rr : Int) != 45) = true := by simp; omega
            have d3' : (rr != 45) = true := by simp; omega
            clear hd h45 hl
            go_wp2_with fail
            go_ret2
            exact numP_mk 0 false (.inr ⟨rfl, rfl, HB'.out⟩) H1.out.2
    · have hnext : ∀ ty, (Instr.next (.pointer (some ⟨w.heap.size, 0, none⟩)) true ty).run Tryd.prog wr = _ := fun ty => Lib.run_next_end_at wr w.heap.size s pos ty hk hp
      have HX := Lib.hid hX
      have hlim : s.size ≤ 281474976710656 := by have := HSz.out; omega
      clear hk hX hg hp
      cases hP : parseIntB 64 s.data.toList with
      | ok v =>
        have HV := Lib.hid (parse_i64 hP)
        have HP := Lib.hid hP
        clear hP
        go_wp2_with fail
        clear hnext
        refine (Tryd.strconv_ParseInt_10_at64_ok s (by omega) v HP.out _).mono ?_
        rintro e w2 ⟨rfl, hw2⟩
        have HX2 := Lib.hid (show Ext w w2 from by
          rcases hw2 with rfl | ⟨t, rfl⟩
          · exact HX.out
          · exact HX.out.trans (Lib.bytesWorld_below _ _ _))
        clear hw2 hlim
        obtain ⟨t, ht⟩ : ∃ t, intS v = t := ⟨_, rfl⟩
        by_cases hq : t = s
        · have HQ := Lib.hid hq
          have d : (t.toList == s.toList) = true := by rw [hq]; exact beq_self_eq_true _
          have HTt := Lib.hid ht
          clear hq ht
          go_wp2_with fail
          refine (Int_any v HV.out _ (tab_ext HT.out HX2.out)).mono ?_
          rw [HTt.out]
          rintro e w3 ⟨rfl, hE3⟩
          have HX3 := Lib.hid (HX2.out.trans hE3)
          clear hE3
          go_wp2_with fail
          go_ret2
          exact numP_mk v true (.inl ⟨rfl, HV.out, HTt.out.trans HQ.out⟩) HX3.out
        · have HQ := Lib.hid hq
          have d : (t.toList == s.toList) = false := ne_list hq
          have HTt := Lib.hid ht
          clear hq ht
          go_wp2_with fail
          refine (Int_any v HV.out _ (tab_ext HT.out HX2.out)).mono ?_
          rw [HTt.out]
          rintro e w3 ⟨rfl, hE3⟩
          have HX3 := Lib.hid (HX2.out.trans hE3)
          clear hE3
          go_wp2_with fail
          go_ret2
          refine numP_mk 0 false (.inr ⟨rfl, rfl, fun n hn e => ?_⟩) HX3.out
          have h1 := parse_of hn e
          rw [HP.out] at h1
          injection h1 with h1
          subst h1
          exact HQ.out (HTt.out.symm.trans e)
      | «syntax» =>
        have HP := Lib.hid hP
        clear hP
        obtain ⟨tp, pp, hvar⟩ := HE.out.1
        have HVr := Lib.hid (var_ext hvar HX.out)
        clear hvar
        go_wp2_with fail
        clear hnext
        refine (Tryd.strconv_ParseInt_10_at64_syntax_var s hlim HP.out tp pp _ HVr.out).mono ?_
        rintro e w2 ⟨NN, rfl, -, -, hE2⟩
        have HX2 := Lib.hid (HX.out.trans hE2)
        clear hE2 hlim
        go_wp2_with fail
        go_ret2
        refine numP_mk 0 false (.inr ⟨rfl, rfl, fun n hn e => ?_⟩) HX2.out
        have h1 := parse_of hn e
        rw [HP.out] at h1
        cases h1
      | range =>
        have HP := Lib.hid hP
        clear hP
        obtain ⟨tp, pp, hvar⟩ := HE.out.2
        have HVr := Lib.hid (var_ext hvar HX.out)
        clear hvar
        go_wp2_with fail
        clear hnext
        refine (Tryd.strconv_ParseInt_10_at64_range_var s hlim HP.out tp pp _ HVr.out).mono ?_
        rintro e w2 ⟨NN, rfl, -, -, hE2⟩
        have HX2 := Lib.hid (HX.out.trans hE2)
        clear hE2 hlim
        go_wp2_with fail
        go_ret2
        refine numP_mk 0 false (.inr ⟨rfl, rfl, fun n hn e => ?_⟩) HX2.out
        have h1 := parse_of hn e
        rw [HP.out] at h1
        cases h1
theorem wrapu (n : Int) : IntKind.u64.wrap n = n % 18446744073709551616 := by rw [IntKind.wrap_u64]
theorem i64_wrap (n : Int) : I64 (wrap64 n) := by unfold wrap64; exact ⟨by omega, by omega⟩
/-- Is there a sign ahead? -/
def FrP (s : ByteArray) (f : Nat) : Prop := (f = 1 ∧ s.data.toList[0]? = some 45) ∨ (f = 0 ∧ s.data.toList[0]? ≠ some 45)
/-- What the document reads is the number, where the text is one's. -/
theorem num_back {s : ByteArray} {f : Nat} {a : Int} (ha : a = IntKind.u64.wrap (dv (s.data.toList.drop f))) (hf : FrP s f) :
    ∀ n, I64 n → intS n = s → (f = 0 → wrap64 a = n) ∧ (f = 1 → wrap64 (IntKind.u64.wrap (-a)) = n) := by
  rintro n hn rfl
  unfold FrP at hf
  rw [intS_list] at ha hf
  have h1 := hn.1
  have h2 := hn.2
  by_cases hneg : n < 0
  · have e : itoa n = 45 :: decDigits n.natAbs := by unfold itoa; rw [if_pos hneg]
    rw [e] at ha hf
    have hf1 : f = 1 := by
      rcases hf with ⟨h, _⟩ | ⟨_, h⟩
      · exact h
      · simp at h
    subst hf1
    rw [List.drop_succ_cons, List.drop_zero, dv_dec] at ha
    refine ⟨fun h => (by cases h), fun _ => ?_⟩
    rw [wrapu] at ha ⊢
    unfold wrap64
    omega
  · have e : itoa n = decDigits n.toNat := by unfold itoa; rw [if_neg hneg]
    rw [e] at ha hf
    have hf0 : f = 0 := by
      rcases hf with ⟨_, h⟩ | ⟨h, _⟩
      · have h45 := dec_digits n.toNat 45 (List.mem_of_getElem? h)
        have : (45 : UInt8).toNat = 45 := rfl
        omega
      · exact h
    subst hf0
    rw [List.drop_zero, dv_dec] at ha
    refine ⟨fun _ => ?_, fun h => (by cases h)⟩
    rw [wrapu] at ha
    unfold wrap64
    omega
theorem dv_take {s : ByteArray} {q f : Nat} (h : q < s.size) (hf : f ≤ q) : dv ((s.data.toList.take (q + 1)).drop f) = 10 * dv ((s.data.toList.take q).drop f) + (((s[q]'h).toNat : Int) - 48) := by
  have hl : q < s.data.toList.length := by rw [Array.length_toList]; exact h
  rw [List.take_succ_eq_append_getElem hl, List.drop_append_of_le_length (by rw [List.length_take]; omega), dv_snoc]
  rfl
theorem byte_at {s : ByteArray} {q : Nat} (h : q < s.size) : s.data.toList[q]? = some (s[q]'h) := by
  have hl : q < s.data.toList.length := by rw [Array.length_toList]; exact h
  rw [List.getElem?_eq_getElem hl]
  rfl
set_option maxHeartbeats 4000000 in
set_option maxRecDepth 100000 in
theorem rNum (s : ByteArray) (hs : s.size ≤ 40) (w : World) : Calls Tryd.prog 13 #[.string s] w fun e w' => NumP s w e w' := by
  have HSz := Lib.hid hs
  by_cases hz : s.size = 0
  · have HP := Lib.hid (show 0 ≤ s.size by omega)
    have HFr := Lib.hid (show FrP s 0 from .inr ⟨rfl, by rw [List.getElem?_eq_none (by rw [Array.length_toList]; exact Nat.le_of_eq hz)]; simp⟩)
    have HF0 := Lib.hid (show ∀ (q d : Nat) (h : q < s.size), (s[q]'h).toNat = d → (q = 0 ∧ d = 45) → False from fun q d h _ _ => by omega)
    have dz : decide ((0 : Int) < (s.size : Int)) = false := decide_eq_false (by omega)
    have dz' : decide (0 < s.size) = false := decide_eq_false (by omega)
    clear hz hs
    go_enter Tryd.func13, Tryd.ntmps13
    go_wp2_with fail
    go_loopg [4, 6] (s.size + 1) (fun g n i wr => ∃ (q : Nat) (a : Int), 0 ≤ q ∧ q ≤ s.size ∧ i = .int .i64 q ∧ n = .int .u64 a ∧ Hid (a = IntKind.u64.wrap (dv ((s.data.toList.take q).drop 0))) ∧ Ext w wr ∧ s.size - q + 1 ≤ g)
    case atStart => exact ⟨0, 0, Nat.le_refl _, by have := HP.out; omega, rfl, rfl, Lib.hid (by simp [dv]; rfl), Ext.refl _, by omega⟩
    case round =>
      obtain ⟨q, a, hfq, hq, rfl, rfl, HA, hX, hg⟩ := hrel
      have HX := Lib.hid hX
      clear hX
      by_cases hp : q < s.size
      · have HG := Lib.hid (show s.size - (q + 1) + 1 < gk by omega)
        obtain ⟨d, hd⟩ : ∃ d : Nat, (s[q]'hp).toNat = d := ⟨_, rfl⟩
        have hdv := dv_take hp hfq
        have hbad := @bad_byte s q hp
        rw [hd] at hdv hbad
        have hix : ∀ h : q < s.size, (s[q]'h).toNat = d := fun _ => hd
        have dq : decide ((q : Int) < (s.size : Int)) = true := decide_eq_true (by omega)
        have dq' : decide (q < s.size) = true := decide_eq_true hp
        have p0 : (0 : Int) ≤ (q : Int) := by omega
        have p1 : (q : Int) < (s.size : Int) := by omega
        have hq40 : q < 40 := by have := HSz.out; omega
        have HDv := Lib.hid hdv
        have HBd := Lib.hid hbad
        have HPq := Lib.hid (And.intro hp (And.intro hfq hq))
        clear hd hdv hbad hg
        by_cases hdg : 48 ≤ d ∧ d ≤ 57
        · have d1 : decide ((d : Int) < 48) = false := decide_eq_false (by omega)
          have d1' : decide (d < 48) = false := decide_eq_false (by omega)
          have d2 : decide ((57 : Int) < (d : Int)) = false := decide_eq_false (by omega)
          have d2' : decide (57 < d) = false := decide_eq_false (by omega)
          by_cases h20 : 20 < q
          · have d3 : decide ((20 : Int) < (q : Int)) = true := decide_eq_true (by omega)
            have d3' : decide (20 < q) = true := decide_eq_true h20
            have HB' := Lib.hid (show ∀ n, I64 n → intS n ≠ s from fun n hn e => by
              have h1 := intS_size hn
              rw [e] at h1
              omega)
            clear hdg h20
            go_wp2_with fail
            go_ret2
            exact numP_mk 0 false (.inr ⟨rfl, rfl, HB'.out⟩) HX.out
          · have d3 : decide ((20 : Int) < (q : Int)) = false := decide_eq_false (by omega)
            have d3' : decide (20 < q) = false := decide_eq_false h20
            have v1 : IntKind.u8.wrap ((d : Int) - 48) = (d : Int) - 48 := by rw [IntKind.wrap_u8]; omega
            have v2 : IntKind.u64.wrap ((d : Int) - 48) = (d : Int) - 48 := by rw [wrapu]; omega
            have HNx := Lib.hid (show IntKind.u64.wrap (IntKind.u64.wrap (10 * a) + ((d : Int) - 48)) = IntKind.u64.wrap (dv ((s.data.toList.take (q + 1)).drop 0)) from by
              rw [HDv.out, HA.out, wrapu, wrapu, wrapu, wrapu]; omega)
            clear hdg h20
            go_wp2_with fail
            go_roundg (s.size - (q + 1) + 1)
            case measure => exact HG.out
            case rel => exact ⟨q + 1, _, by have := HPq.out; omega, by have := HPq.out; omega, by go_num, rfl, Lib.hid HNx.out, HX.out, Nat.le_refl _⟩
        · have HB' := Lib.hid (HBd.out hdg (fun h => HF0.out q d hp (hix hp) h))
          by_cases hl : d < 48
          · have d1 : decide ((d : Int) < 48) = true := decide_eq_true (by omega)
            have d1' : decide (d < 48) = true := decide_eq_true (by omega)
            clear hdg hl
            go_wp2_with fail
            go_ret2
            exact numP_mk 0 false (.inr ⟨rfl, rfl, HB'.out⟩) HX.out
          · have d1 : decide ((d : Int) < 48) = false := decide_eq_false (by omega)
            have d1' : decide (d < 48) = false := decide_eq_false (by omega)
            have d2 : decide ((57 : Int) < (d : Int)) = true := decide_eq_true (by omega)
            have d2' : decide (57 < d) = true := decide_eq_true (by omega)
            clear hdg hl
            go_wp2_with fail
            go_ret2
            exact numP_mk 0 false (.inr ⟨rfl, rfl, HB'.out⟩) HX.out
      · obtain rfl : q = s.size := by omega
        have dq : decide ((s.size : Int) < (s.size : Int)) = false := decide_eq_false (by omega)
        have hall : s.data.toList.take s.size = s.data.toList := List.take_of_length_le (by rw [Array.length_toList]; exact Nat.le_refl _)
        have hA := HA.out
        rw [hall] at hA
        obtain ⟨x, hx⟩ : ∃ x, wrap64 a = x := ⟨_, rfl⟩
        have hback : ∀ n, I64 n → intS n = s → x = n := fun n hn e => by rw [← hx]; exact (num_back hA HFr.out n hn e).1 rfl
        have hxi : I64 x := by rw [← hx]; exact i64_wrap _
        have HB := Lib.hid hback
        have HI := Lib.hid hxi
        obtain ⟨t, ht⟩ : ∃ t, intS x = t := ⟨_, rfl⟩
        have HTt := Lib.hid ht
        clear hall hA hback hxi ht hg hp hq hfq
        by_cases hq : t = s
        · have HQ := Lib.hid hq
          have d : (t.toList == s.toList) = true := by rw [hq]; exact beq_self_eq_true _
          clear hq
          go_wp2_with fail
          refine (rInt x HI.out _).mono ?_
          rw [HTt.out]
          rintro e w3 ⟨rfl, hE3⟩
          have HX3 := Lib.hid (HX.out.trans hE3)
          clear hE3
          go_wp2_with fail
          go_ret2
          exact numP_mk x true (.inl ⟨rfl, HI.out, HTt.out.trans HQ.out⟩) HX3.out
        · have HQ := Lib.hid hq
          have d : (t.toList == s.toList) = false := ne_list hq
          clear hq
          go_wp2_with fail
          refine (rInt x HI.out _).mono ?_
          rw [HTt.out]
          rintro e w3 ⟨rfl, hE3⟩
          have HX3 := Lib.hid (HX.out.trans hE3)
          clear hE3
          go_wp2_with fail
          go_ret2
          refine numP_mk 0 false (.inr ⟨rfl, rfl, fun n hn e => ?_⟩) HX3.out
          have h1 := HB.out n hn e
          subst h1
          exact HQ.out (HTt.out.symm.trans e)
  · have hp0 : 0 < s.size := by omega
    have dz : decide ((0 : Int) < (s.size : Int)) = true := decide_eq_true (by omega)
    have dz' : decide (0 < s.size) = true := decide_eq_true hp0
    have pz : (0 : Int) < (s.size : Int) := by omega
    obtain ⟨d0, hd0⟩ : ∃ d : Nat, (s[0]'hp0).toNat = d := ⟨_, rfl⟩
    have hiz : ∀ h : 0 < s.size, (s[0]'h).toNat = d0 := fun _ => hd0
    by_cases h45 : d0 = 45
    · subst h45
      have HP := Lib.hid (show 1 ≤ s.size from hp0)
      have HFr := Lib.hid (show FrP s 1 from .inl ⟨rfl, by rw [byte_at hp0]; congr 1; exact UInt8.toNat_inj.1 hd0⟩)
      clear hz hs hd0
      go_enter Tryd.func13, Tryd.ntmps13
      go_wp2_with fail
      go_loopg [4, 6] (s.size + 1) (fun g n i wr => ∃ (q : Nat) (a : Int), 1 ≤ q ∧ q ≤ s.size ∧ i = .int .i64 q ∧ n = .int .u64 a ∧ Hid (a = IntKind.u64.wrap (dv ((s.data.toList.take q).drop 1))) ∧ Ext w wr ∧ s.size - q + 1 ≤ g)
      case atStart => exact ⟨1, 0, Nat.le_refl _, by have := HP.out; omega, rfl, rfl, Lib.hid (by simp [dv]; rfl), Ext.refl _, by omega⟩
      case round =>
        obtain ⟨q, a, hfq, hq, rfl, rfl, HA, hX, hg⟩ := hrel
        have HX := Lib.hid hX
        clear hX
        by_cases hp : q < s.size
        · have HG := Lib.hid (show s.size - (q + 1) + 1 < gk by omega)
          obtain ⟨d, hd⟩ : ∃ d : Nat, (s[q]'hp).toNat = d := ⟨_, rfl⟩
          have hdv := dv_take hp hfq
          have hbad := @bad_byte s q hp
          rw [hd] at hdv hbad
          have hix : ∀ h : q < s.size, (s[q]'h).toNat = d := fun _ => hd
          have dq : decide ((q : Int) < (s.size : Int)) = true := decide_eq_true (by omega)
          have dq' : decide (q < s.size) = true := decide_eq_true hp
          have p0 : (0 : Int) ≤ (q : Int) := by omega
          have p1 : (q : Int) < (s.size : Int) := by omega
          have hq40 : q < 40 := by have := HSz.out; omega
          have HDv := Lib.hid hdv
          have HBd := Lib.hid hbad
          have HPq := Lib.hid (And.intro hp (And.intro hfq hq))
          clear hd hdv hbad hg
          by_cases hdg : 48 ≤ d ∧ d ≤ 57
          · have d1 : decide ((d : Int) < 48) = false := decide_eq_false (by omega)
            have d1' : decide (d < 48) = false := decide_eq_false (by omega)
            have d2 : decide ((57 : Int) < (d : Int)) = false := decide_eq_false (by omega)
            have d2' : decide (57 < d) = false := decide_eq_false (by omega)
            by_cases h20 : 20 < q
            · have d3 : decide ((20 : Int) < (q : Int)) = true := decide_eq_true (by omega)
              have d3' : decide (20 < q) = true := decide_eq_true h20
              have HB' := Lib.hid (show ∀ n, I64 n → intS n ≠ s from fun n hn e => by
                have h1 := intS_size hn
                rw [e] at h1
                omega)
              clear hdg h20
              go_wp2_with fail
              go_ret2
              exact numP_mk 0 false (.inr ⟨rfl, rfl, HB'.out⟩) HX.out
            · have d3 : decide ((20 : Int) < (q : Int)) = false := decide_eq_false (by omega)
              have d3' : decide (20 < q) = false := decide_eq_false h20
              have v1 : IntKind.u8.wrap ((d : Int) - 48) = (d : Int) - 48 := by rw [IntKind.wrap_u8]; omega
              have v2 : IntKind.u64.wrap ((d : Int) - 48) = (d : Int) - 48 := by rw [wrapu]; omega
              have HNx := Lib.hid (show IntKind.u64.wrap (IntKind.u64.wrap (10 * a) + ((d : Int) - 48)) = IntKind.u64.wrap (dv ((s.data.toList.take (q + 1)).drop 1)) from by
                rw [HDv.out, HA.out, wrapu, wrapu, wrapu, wrapu]; omega)
              clear hdg h20
              go_wp2_with fail
              go_roundg (s.size - (q + 1) + 1)
              case measure => exact HG.out
              case rel => exact ⟨q + 1, _, by have := HPq.out; omega, by have := HPq.out; omega, by go_num, rfl, Lib.hid HNx.out, HX.out, Nat.le_refl _⟩
          · have HB' := Lib.hid (HBd.out hdg (fun h => (by have := HPq.out; omega)))
            by_cases hl : d < 48
            · have d1 : decide ((d : Int) < 48) = true := decide_eq_true (by omega)
              have d1' : decide (d < 48) = true := decide_eq_true (by omega)
              clear hdg hl
              go_wp2_with fail
              go_ret2
              exact numP_mk 0 false (.inr ⟨rfl, rfl, HB'.out⟩) HX.out
            · have d1 : decide ((d : Int) < 48) = false := decide_eq_false (by omega)
              have d1' : decide (d < 48) = false := decide_eq_false (by omega)
              have d2 : decide ((57 : Int) < (d : Int)) = true := decide_eq_true (by omega)
              have d2' : decide (57 < d) = true := decide_eq_true (by omega)
              clear hdg hl
              go_wp2_with fail
              go_ret2
              exact numP_mk 0 false (.inr ⟨rfl, rfl, HB'.out⟩) HX.out
        · obtain rfl : q = s.size := by omega
          have dq : decide ((s.size : Int) < (s.size : Int)) = false := decide_eq_false (by omega)
          have hall : s.data.toList.take s.size = s.data.toList := List.take_of_length_le (by rw [Array.length_toList]; exact Nat.le_refl _)
          have hA := HA.out
          rw [hall] at hA
          obtain ⟨x, hx⟩ : ∃ x, wrap64 (IntKind.u64.wrap (-a)) = x := ⟨_, rfl⟩
          have hback : ∀ n, I64 n → intS n = s → x = n := fun n hn e => by rw [← hx]; exact (num_back hA HFr.out n hn e).2 rfl
          have hxi : I64 x := by rw [← hx]; exact i64_wrap _
          have HB := Lib.hid hback
          have HI := Lib.hid hxi
          obtain ⟨t, ht⟩ : ∃ t, intS x = t := ⟨_, rfl⟩
          have HTt := Lib.hid ht
          clear hall hA hback hxi ht hg hp hq hfq
          by_cases hq : t = s
          · have HQ := Lib.hid hq
            have d : (t.toList == s.toList) = true := by rw [hq]; exact beq_self_eq_true _
            clear hq
            go_wp2_with fail
            refine (rInt x HI.out _).mono ?_
            rw [HTt.out]
            rintro e w3 ⟨rfl, hE3⟩
            have HX3 := Lib.hid (HX.out.trans hE3)
            clear hE3
            go_wp2_with fail
            go_ret2
            exact numP_mk x true (.inl ⟨rfl, HI.out, HTt.out.trans HQ.out⟩) HX3.out
          · have HQ := Lib.hid hq
            have d : (t.toList == s.toList) = false := ne_list hq
            clear hq
            go_wp2_with fail
            refine (rInt x HI.out _).mono ?_
            rw [HTt.out]
            rintro e w3 ⟨rfl, hE3⟩
            have HX3 := Lib.hid (HX.out.trans hE3)
            clear hE3
            go_wp2_with fail
            go_ret2
            refine numP_mk 0 false (.inr ⟨rfl, rfl, fun n hn e => ?_⟩) HX3.out
            have h1 := HB.out n hn e
            subst h1
            exact HQ.out (HTt.out.symm.trans e)
    · have HP := Lib.hid (show 0 ≤ s.size by omega)
      have HFr := Lib.hid (show FrP s 0 from .inr ⟨rfl, fun h => h45 (by rw [byte_at hp0] at h; rw [← hd0, Option.some.inj h]; rfl)⟩)
      have HF0 := Lib.hid (show ∀ (q d : Nat) (h : q < s.size), (s[q]'h).toNat = d → (q = 0 ∧ d = 45) → False from fun q d h e k => by
        obtain ⟨rfl, rfl⟩ := k
        exact h45 (hd0.symm.trans e))
      have e45 : ((d0 : Int) == 45) = false := by simp; omega
      have e45' : (d0 == 45) = false := by simpa using h45
      clear hz hs hd0 h45
      go_enter Tryd.func13, Tryd.ntmps13
      go_wp2_with fail
      go_loopg [4, 6] (s.size + 1) (fun g n i wr => ∃ (q : Nat) (a : Int), 0 ≤ q ∧ q ≤ s.size ∧ i = .int .i64 q ∧ n = .int .u64 a ∧ Hid (a = IntKind.u64.wrap (dv ((s.data.toList.take q).drop 0))) ∧ Ext w wr ∧ s.size - q + 1 ≤ g)
      case atStart => exact ⟨0, 0, Nat.le_refl _, by have := HP.out; omega, rfl, rfl, Lib.hid (by simp [dv]; rfl), Ext.refl _, by omega⟩
      case round =>
        obtain ⟨q, a, hfq, hq, rfl, rfl, HA, hX, hg⟩ := hrel
        have HX := Lib.hid hX
        clear hX
        by_cases hp : q < s.size
        · have HG := Lib.hid (show s.size - (q + 1) + 1 < gk by omega)
          obtain ⟨d, hd⟩ : ∃ d : Nat, (s[q]'hp).toNat = d := ⟨_, rfl⟩
          have hdv := dv_take hp hfq
          have hbad := @bad_byte s q hp
          rw [hd] at hdv hbad
          have hix : ∀ h : q < s.size, (s[q]'h).toNat = d := fun _ => hd
          have dq : decide ((q : Int) < (s.size : Int)) = true := decide_eq_true (by omega)
          have dq' : decide (q < s.size) = true := decide_eq_true hp
          have p0 : (0 : Int) ≤ (q : Int) := by omega
          have p1 : (q : Int) < (s.size : Int) := by omega
          have hq40 : q < 40 := by have := HSz.out; omega
          have HDv := Lib.hid hdv
          have HBd := Lib.hid hbad
          have HPq := Lib.hid (And.intro hp (And.intro hfq hq))
          clear hd hdv hbad hg
          by_cases hdg : 48 ≤ d ∧ d ≤ 57
          · have d1 : decide ((d : Int) < 48) = false := decide_eq_false (by omega)
            have d1' : decide (d < 48) = false := decide_eq_false (by omega)
            have d2 : decide ((57 : Int) < (d : Int)) = false := decide_eq_false (by omega)
            have d2' : decide (57 < d) = false := decide_eq_false (by omega)
            by_cases h20 : 20 < q
            · have d3 : decide ((20 : Int) < (q : Int)) = true := decide_eq_true (by omega)
              have d3' : decide (20 < q) = true := decide_eq_true h20
              have HB' := Lib.hid (show ∀ n, I64 n → intS n ≠ s from fun n hn e => by
                have h1 := intS_size hn
                rw [e] at h1
                omega)
              clear hdg h20
              go_wp2_with fail
              go_ret2
              exact numP_mk 0 false (.inr ⟨rfl, rfl, HB'.out⟩) HX.out
            · have d3 : decide ((20 : Int) < (q : Int)) = false := decide_eq_false (by omega)
              have d3' : decide (20 < q) = false := decide_eq_false h20
              have v1 : IntKind.u8.wrap ((d : Int) - 48) = (d : Int) - 48 := by rw [IntKind.wrap_u8]; omega
              have v2 : IntKind.u64.wrap ((d : Int) - 48) = (d : Int) - 48 := by rw [wrapu]; omega
              have HNx := Lib.hid (show IntKind.u64.wrap (IntKind.u64.wrap (10 * a) + ((d : Int) - 48)) = IntKind.u64.wrap (dv ((s.data.toList.take (q + 1)).drop 0)) from by
                rw [HDv.out, HA.out, wrapu, wrapu, wrapu, wrapu]; omega)
              clear hdg h20
              go_wp2_with fail
              go_roundg (s.size - (q + 1) + 1)
              case measure => exact HG.out
              case rel => exact ⟨q + 1, _, by have := HPq.out; omega, by have := HPq.out; omega, by go_num, rfl, Lib.hid HNx.out, HX.out, Nat.le_refl _⟩
          · have HB' := Lib.hid (HBd.out hdg (fun h => HF0.out q d hp (hix hp) h))
            by_cases hl : d < 48
            · have d1 : decide ((d : Int) < 48) = true := decide_eq_true (by omega)
              have d1' : decide (d < 48) = true := decide_eq_true (by omega)
              clear hdg hl
              go_wp2_with fail
              go_ret2
              exact numP_mk 0 false (.inr ⟨rfl, rfl, HB'.out⟩) HX.out
            · have d1 : decide ((d : Int) < 48) = false := decide_eq_false (by omega)
              have d1' : decide (d < 48) = false := decide_eq_false (by omega)
              have d2 : decide ((57 : Int) < (d : Int)) = true := decide_eq_true (by omega)
              have d2' : decide (57 < d) = true := decide_eq_true (by omega)
              clear hdg hl
              go_wp2_with fail
              go_ret2
              exact numP_mk 0 false (.inr ⟨rfl, rfl, HB'.out⟩) HX.out
        · obtain rfl : q = s.size := by omega
          have dq : decide ((s.size : Int) < (s.size : Int)) = false := decide_eq_false (by omega)
          have hall : s.data.toList.take s.size = s.data.toList := List.take_of_length_le (by rw [Array.length_toList]; exact Nat.le_refl _)
          have hA := HA.out
          rw [hall] at hA
          obtain ⟨x, hx⟩ : ∃ x, wrap64 a = x := ⟨_, rfl⟩
          have hback : ∀ n, I64 n → intS n = s → x = n := fun n hn e => by rw [← hx]; exact (num_back hA HFr.out n hn e).1 rfl
          have hxi : I64 x := by rw [← hx]; exact i64_wrap _
          have HB := Lib.hid hback
          have HI := Lib.hid hxi
          obtain ⟨t, ht⟩ : ∃ t, intS x = t := ⟨_, rfl⟩
          have HTt := Lib.hid ht
          clear hall hA hback hxi ht hg hp hq hfq
          by_cases hq : t = s
          · have HQ := Lib.hid hq
            have d : (t.toList == s.toList) = true := by rw [hq]; exact beq_self_eq_true _
            clear hq
            go_wp2_with fail
            refine (rInt x HI.out _).mono ?_
            rw [HTt.out]
            rintro e w3 ⟨rfl, hE3⟩
            have HX3 := Lib.hid (HX.out.trans hE3)
            clear hE3
            go_wp2_with fail
            go_ret2
            exact numP_mk x true (.inl ⟨rfl, HI.out, HTt.out.trans HQ.out⟩) HX3.out
          · have HQ := Lib.hid hq
            have d : (t.toList == s.toList) = false := ne_list hq
            clear hq
            go_wp2_with fail
            refine (rInt x HI.out _).mono ?_
            rw [HTt.out]
            rintro e w3 ⟨rfl, hE3⟩
            have HX3 := Lib.hid (HX.out.trans hE3)
            clear hE3
            go_wp2_with fail
            go_ret2
            refine numP_mk 0 false (.inr ⟨rfl, rfl, fun n hn e => ?_⟩) HX3.out
            have h1 := HB.out n hn e
            subst h1
            exact HQ.out (HTt.out.symm.trans e)
end Go.Proofs.YtjlomdhaigejhaaDoor.Trc
