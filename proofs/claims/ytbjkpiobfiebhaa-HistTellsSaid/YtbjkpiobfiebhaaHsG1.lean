/-
  Histories: the merge of rows of calls: what follows the search for the cut.
  No condition but lengths.
-/
import Derived.Test.YtbjkpiobfiebhaaHsF
import Derived.Deep.DeepCutAuto
namespace Go.Proofs.Ytbjkpiobfiebhaa.Hs
open Go.RowKit Go.Seg Go.Open Go.Lib Go.Arr Go.Stab

/-- What a merge does to rows of fewer than s calls. -/
def SM (b N cap bx : Nat) (K : World → Prop) (key : C → Int) (s : Nat) : Prop := ∀ (P U V Q : List (C × Nat)) (x y z : Int) (i m n : Nat), x = i → y = m → z = n → P.length = i → i + U.length = m → m + V.length = n → 1 ≤ U.length → 1 ≤ V.length → U.length + V.length < s →
  Srt key U → Srt key V → Tags U V → (P ++ U ++ V ++ Q).length = N → ∀ w, AtC w b (P ++ U ++ V ++ Q) → K w →
  Calls Try.prog 66 #[.slice (some ⟨b, 0, none⟩) N cap, .int .i64 x, .int .i64 y, .int .i64 z, FV bx] w fun e w' => e = .returned (.tuple #[]) ∧ (∃ M', Done key (U ++ V) M' ∧ AtC w' b (P ++ M' ++ Q)) ∧ Chg (· = b) w w'
/-- What the search for the cut keeps. -/
def CutA (key : C → Int) (U V : List (C × Nat)) (i m t s : Nat) : Prop := ∀ S x R S' y R', U = S ++ x :: R → V = S' ++ y :: R' → i + S.length + 1 = s → m + S'.length + s = t → key x.1 ≤ key y.1
def CutB (key : C → Int) (U V : List (C × Nat)) (i m t r : Nat) : Prop := ∀ S x R S' y R', U = S ++ x :: R → V = S' ++ y :: R' → i + S.length = r → m + S'.length + 1 + r = t → key y.1 < key x.1
/-- Two rows cut where the search ends. -/
structure Cut (key : C → Int) (U V : List (C × Nat)) (i m n c0 t p e : Nat) (U1 U2 V1 V2 : List (C × Nat)) : Prop where
  lu1 : i + U1.length = p
  lv1 : p + V1.length = c0
  lu2 : c0 + U2.length = e
  lv2 : e + V2.length = n
  lu : p + U2.length = m
  lv : m + V1.length = e
  te : t = e + p
  eU : U = U1 ++ U2
  eV : V = V1 ++ V2
  su1 : Srt key U1
  su2 : Srt key U2
  sv1 : Srt key V1
  sv2 : Srt key V2
  t1 : Tags U1 V1
  t2 : Tags U2 V2
  all : ∀ L1 L2, Done key (U1 ++ V1) L1 → Done key (U2 ++ V2) L2 → Done key (U ++ V) (L1 ++ L2)
theorem cut_rows {key : C → Int} {U V : List (C × Nat)} {i m n c0 t p : Nat} (hU : i + U.length = m) (hV : m + V.length = n) (ht0 : c0 + m = t) (h1 : i ≤ p) (h2 : p ≤ m) (h3 : p ≤ c0) (h4 : t ≤ n + p)
    (su : Srt key U) (sv : Srt key V) (tg : Tags U V) (cA : CutA key U V i m t p) (cB : CutB key U V i m t p) : ∃ U1 U2 V1 V2 e, Cut key U V i m n c0 t p e U1 U2 V1 V2 := by
  have l1 : (U.take (p - i)).length = p - i := by rw [List.length_take]; omega
  have l2 : (U.drop (p - i)).length = m - p := by rw [List.length_drop]; omega
  have l3 : (V.take (c0 - p)).length = c0 - p := by rw [List.length_take]; omega
  have l4 : (V.drop (c0 - p)).length = V.length - (c0 - p) := List.length_drop
  have eU : U = U.take (p - i) ++ U.drop (p - i) := (List.take_append_drop _ _).symm
  have eV : V = V.take (c0 - p) ++ V.drop (c0 - p) := (List.take_append_drop _ _).symm
  have su' := su
  have sv' := sv
  rw [eU] at su'
  rw [eV] at sv'
  obtain ⟨u1, u2, _⟩ := srt_app.1 su'
  obtain ⟨v1, v2, _⟩ := srt_app.1 sv'
  refine ⟨_, _, _, _, c0 + (m - p), ⟨by rw [l1]; omega, by rw [l3]; omega, by rw [l2], by rw [l4]; omega, by rw [l2]; omega, by rw [l3]; omega, by omega, eU, eV, u1, u2, v1, v2, fun x hx y hy => tg x (List.mem_of_mem_take hx) y (List.mem_of_mem_take hy), fun x hx y hy => tg x (List.mem_of_mem_drop hx) y (List.mem_of_mem_drop hy), fun L1 L2 d1 d2 => ?_⟩⟩
  have h := merge_cut su' sv' (by rw [← eU, ← eV]; exact tg) (fun S x y R e1 e2 => ?_) (fun S y x R e1 e2 => ?_) d1 d2
  · rw [← eU, ← eV] at h
    exact h
  · have hl := l1
    rw [e1] at hl
    simp only [List.length_append, List.length_cons, List.length_nil] at hl
    have := cA S x (U.drop (p - i)) (V.take (c0 - p)) y R (by have := eU; rw [e1, List.append_assoc] at this; exact this) (by rw [← e2]; exact eV) (by omega) (by omega)
    omega
  · have hl := l3
    rw [e1] at hl
    simp only [List.length_append, List.length_cons, List.length_nil] at hl
    exact cB (U.take (p - i)) x R S y (V.drop (c0 - p)) (by rw [← e2]; exact eU) (by have := eV; rw [e1, List.append_assoc] at this; exact this) (by omega) (by omega)

/-- The code behind k statements of symMerge. -/
def rt : Nat → Code → Code
  | 0, c => c
  | k + 1, .seq _ b => rt k b
  | _ + 1, c => c
noncomputable def bd : Code := (Try.f66.body).getD .skip
/-- All that the tail builds on. -/
structure Tail (b N bx : Nat) (K : World → Prop) (key : C → Int) (P U V Q : List (C × Nat)) (i m n c0 t p e : Nat) (U1 U2 V1 V2 : List (C × Nat)) (w : World) : Prop where
  cmp : CmpOk bx b K key
  kw : K w
  lp : P.length = i
  ln : (P ++ U1 ++ U2 ++ V1 ++ V2 ++ Q).length = N
  cut : Cut key U V i m n c0 t p e U1 U2 V1 V2
  ic : i < c0
  cn : c0 < n
theorem Tail.lt {b N bx : Nat} {K : World → Prop} {key : C → Int} {P U V Q : List (C × Nat)} {i m n c0 t p e : Nat} {U1 U2 V1 V2 : List (C × Nat)} {w : World} (h : Tail b N bx K key P U V Q i m n c0 t p e U1 U2 V1 V2 w) : U1.length + V1.length < U.length + V.length ∧ U2.length + V2.length < U.length + V.length := by
  have g1 := h.cut.lu1; have g2 := h.cut.lv1; have g3 := h.cut.lu2; have g4 := h.cut.lv2; have g5 := h.ic; have g6 := h.cn
  have g7 := congrArg List.length h.cut.eU
  have g8 := congrArg List.length h.cut.eV
  rw [List.length_append] at g7 g8
  omega
def Post (b : Nat) (key : C → Int) (P U V Q : List (C × Nat)) (w w' : World) : Prop := (∃ M', Done key (U ++ V) M' ∧ AtC w' b (P ++ M' ++ Q)) ∧ Chg (· = b) w w'
set_option maxRecDepth 1000000 in
set_option maxHeartbeats 4000000 in
theorem tail3 (b N cap bx : Nat) (K : World → Prop) (key : C → Int) (P U V Q : List (C × Nat)) (i m n c0 t p e : Nat) (U1 U2 V1 V2 : List (C × Nat)) (w wr : World) (HT : Hid (Tail b N bx K key P U V Q i m n c0 t p e U1 U2 V1 V2 w)) (HI : Hid (SM b N cap bx K key (U.length + V.length))) (hm : N ≤ 1000000) (bN : n ≤ N) (L1 : List (C × Nat)) (HW : Hid (Done key (U1 ++ V1) L1 ∧ AtC wr b (P ++ L1 ++ (U2 ++ V2 ++ Q)) ∧ Chg (· = b) w wr)) {u5 u6 u7 u8 u9 u10 u11 u12 u13 u14 u15 u16 u17 u21 u22 u23 u25 u26 u27 u28 u29 u30 u31 u32 u33 u34 u35 u36 u37 u38 u39 u40 u41 u42 u43 u44 u45 u46 u47 u48 u49 u50 u51 u52 u53 u54 u55 u56 u57 u58 u59 u60 u61 u62 u63 u64 u65 u66 u67 u68 u69 u70 u71 u72 u73 u74 u75 u76 u77 u78 u79 u80 u81 u82 u83 u84 u85 u86 u87 u88 u89 u90 u91 u92 u93 u94 u95 u96 u97 u98 u99 u100 u101 u102 u103 u104 u105 u106 u107 u108 u109 u110 u111 u112 u113 u114 u115 u116 u117 u118 u119 u120 u121 u122 u123 u124 u125 u126 u127 u128 u129 u130 u131 u132 u133 u134 u135 u136 u137 u138 u139 u140 u141 u142 u143 u144 u145 u146 u147 u148 u149 u150 u151 u152 u153 u154 u155 u156 u157 u158 u159 u160 u161 u162 u163 u164 u165 u166 u167 u168 u169 u170 u171 u172 u173 u174 u175 u176 u177 u178 u179 u180 u181 u182 u183 u184 u185 u186 u187 u188 u189 u190 u191 u192 u193 u194 u195 u196 u197 u198 u199 u200 u201 u202 u203 u204 u205 u206 u207 u208 u209 u210 u211 u212 u213 u214 u215 u216 u217 u218 u219 : Value} {Qq : Exit → Act → World → Prop} (hQ : ∀ (tm : Array Value) w', Post b key P U V Q w w' → Qq .normal ⟨tm, []⟩ w') :
    Code.wp Try.prog (rt 11 bd) Qq ⟨#[.slice (some ⟨b, 0, none⟩) N cap, .int .i64 i, .int .i64 m, .int .i64 n, FV bx, u5, u6, u7, u8, u9, u10, u11, u12, u13, u14, u15, u16, u17, .int .i64 c0, .int .i64 t, .int .i64 p, u21, u22, u23, .int .i64 e, u25, u26, u27, u28, u29, u30, u31, u32, u33, u34, u35, u36, u37, u38, u39, u40, u41, u42, u43, u44, u45, u46, u47, u48, u49, u50, u51, u52, u53, u54, u55, u56, u57, u58, u59, u60, u61, u62, u63, u64, u65, u66, u67, u68, u69, u70, u71, u72, u73, u74, u75, u76, u77, u78, u79, u80, u81, u82, u83, u84, u85, u86, u87, u88, u89, u90, u91, u92, u93, u94, u95, u96, u97, u98, u99, u100, u101, u102, u103, u104, u105, u106, u107, u108, u109, u110, u111, u112, u113, u114, u115, u116, u117, u118, u119, u120, u121, u122, u123, u124, u125, u126, u127, u128, u129, u130, u131, u132, u133, u134, u135, u136, u137, u138, u139, u140, u141, u142, u143, u144, u145, u146, u147, u148, u149, u150, u151, u152, u153, u154, u155, u156, u157, u158, u159, u160, u161, u162, u163, u164, u165, u166, u167, u168, u169, u170, u171, u172, u173, u174, u175, u176, u177, u178, u179, u180, u181, u182, u183, u184, u185, u186, u187, u188, u189, u190, u191, u192, u193, u194, u195, u196, u197, u198, u199, u200, u201, u202, u203, u204, u205, u206, u207, u208, u209, u210, u211, u212, u213, u214, u215, u216, u217, u218, u219], []⟩ wr := by
  have be : e ≤ n := by have := HT.out.cut.lv2; omega
  conv => arg 2; whnf
  unfold FV
  by_cases h1 : c0 < e
  · have d1 : decide ((c0 : Int) < (e : Int)) = true := decide_eq_true (by omega)
    have d1' : decide (c0 < e) = true := decide_eq_true (by omega)
    by_cases h2 : e < n
    · have d2 : decide ((e : Int) < (n : Int)) = true := decide_eq_true (by omega)
      have d2' : decide (e < n) = true := decide_eq_true (by omega)
      have HG := Lib.hid (show (P ++ L1).length = c0 ∧ 1 ≤ U2.length ∧ 1 ≤ V2.length ∧ (P ++ L1 ++ U2 ++ V2 ++ Q).length = N by
        have g1 := HT.out.cut.lu1; have g2 := HT.out.cut.lv1; have g3 := HT.out.cut.lu2; have g6 := HT.out.cut.lv2; have g4 := HT.out.lp; have g5 := HT.out.ln
        have g7 := HW.out.1.1.length_eq
        simp only [List.length_append] at g5 g7 ⊢
        omega)
      clear h1 h2
      go_wp2_with fail
      obtain ⟨g1, g2, g3, g4⟩ := HG.out
      refine (HI.out (P ++ L1) U2 V2 Q _ _ _ c0 e n rfl rfl rfl g1 HT.out.cut.lu2 HT.out.cut.lv2 g2 g3 HT.out.lt.2 HT.out.cut.su2 HT.out.cut.sv2 HT.out.cut.t2 g4 _ (by have := HW.out.2.1; simpa only [List.append_assoc] using this) (HT.out.cmp.kept _ _ HT.out.kw HW.out.2.2)).mono ?_
      rintro e' w' ⟨rfl, ⟨L2, k0, k1⟩, k2⟩
      have H1 := Lib.hid (And.intro k0 (And.intro k1 (HW.out.2.2.trans k2)))
      clear k0 k1 k2 g1 g2 g3 g4
      go_wp2_with fail
      exact ⟨⟨L1 ++ L2, HT.out.cut.all L1 L2 HW.out.1 H1.out.1, by have := H1.out.2.1; simpa only [List.append_assoc] using this⟩, H1.out.2.2⟩
    · have d2 : decide ((e : Int) < (n : Int)) = false := decide_eq_false (by omega)
      have d2' : decide (e < n) = false := decide_eq_false (by omega)
      have HE := Lib.hid (show Done key (U2 ++ V2) (U2 ++ V2) by
        have g2 := HT.out.cut.lu2; have g3 := HT.out.cut.lv2
        refine Done.refl ?_
        rw [show V2 = [] from List.eq_nil_of_length_eq_zero (by omega), List.append_nil]; exact HT.out.cut.su2)
      clear h1 h2
      go_wp2_with fail
      exact ⟨⟨L1 ++ (U2 ++ V2), HT.out.cut.all L1 (U2 ++ V2) HW.out.1 HE.out, by have := HW.out.2.1; simpa only [List.append_assoc] using this⟩, HW.out.2.2⟩
  · have d1 : decide ((c0 : Int) < (e : Int)) = false := decide_eq_false (by omega)
    have d1' : decide (c0 < e) = false := decide_eq_false (by omega)
    have HE := Lib.hid (show Done key (U2 ++ V2) (U2 ++ V2) by
      have g2 := HT.out.cut.lu2; have g3 := HT.out.cut.lv2
      refine Done.refl ?_
      rw [show U2 = [] from List.eq_nil_of_length_eq_zero (by omega), List.nil_append]; exact HT.out.cut.sv2)
    clear h1
    go_wp2_with fail
    exact ⟨⟨L1 ++ (U2 ++ V2), HT.out.cut.all L1 (U2 ++ V2) HW.out.1 HE.out, by have := HW.out.2.1; simpa only [List.append_assoc] using this⟩, HW.out.2.2⟩
set_option maxRecDepth 1000000 in
set_option maxHeartbeats 4000000 in
theorem tail2 (b N cap bx : Nat) (K : World → Prop) (key : C → Int) (P U V Q : List (C × Nat)) (i m n c0 t p e : Nat) (U1 U2 V1 V2 : List (C × Nat)) (w wr : World) (HT : Hid (Tail b N bx K key P U V Q i m n c0 t p e U1 U2 V1 V2 w)) (HI : Hid (SM b N cap bx K key (U.length + V.length))) (hm : N ≤ 1000000) (bN : n ≤ N) (HW : Hid (AtC wr b (P ++ U1 ++ V1 ++ (U2 ++ V2 ++ Q)) ∧ Chg (· = b) w wr)) {u5 u6 u7 u8 u9 u10 u11 u12 u13 u14 u15 u16 u17 u21 u22 u23 u25 u26 u27 u28 u29 u30 u31 u32 u33 u34 u35 u36 u37 u38 u39 u40 u41 u42 u43 u44 u45 u46 u47 u48 u49 u50 u51 u52 u53 u54 u55 u56 u57 u58 u59 u60 u61 u62 u63 u64 u65 u66 u67 u68 u69 u70 u71 u72 u73 u74 u75 u76 u77 u78 u79 u80 u81 u82 u83 u84 u85 u86 u87 u88 u89 u90 u91 u92 u93 u94 u95 u96 u97 u98 u99 u100 u101 u102 u103 u104 u105 u106 u107 u108 u109 u110 u111 u112 u113 u114 u115 u116 u117 u118 u119 u120 u121 u122 u123 u124 u125 u126 u127 u128 u129 u130 u131 u132 u133 u134 u135 u136 u137 u138 u139 u140 u141 u142 u143 u144 u145 u146 u147 u148 u149 u150 u151 u152 u153 u154 u155 u156 u157 u158 u159 u160 u161 u162 u163 u164 u165 u166 u167 u168 u169 u170 u171 u172 u173 u174 u175 u176 u177 u178 u179 u180 u181 u182 u183 u184 u185 u186 u187 u188 u189 u190 u191 u192 u193 u194 u195 u196 u197 u198 u199 u200 u201 u202 u203 u204 u205 u206 u207 u208 u209 u210 u211 u212 u213 u214 u215 u216 u217 u218 u219 : Value} {Qq : Exit → Act → World → Prop} (hQ : ∀ (tm : Array Value) w', Post b key P U V Q w w' → Qq .normal ⟨tm, []⟩ w') :
    Code.wp Try.prog (rt 10 bd) Qq ⟨#[.slice (some ⟨b, 0, none⟩) N cap, .int .i64 i, .int .i64 m, .int .i64 n, FV bx, u5, u6, u7, u8, u9, u10, u11, u12, u13, u14, u15, u16, u17, .int .i64 c0, .int .i64 t, .int .i64 p, u21, u22, u23, .int .i64 e, u25, u26, u27, u28, u29, u30, u31, u32, u33, u34, u35, u36, u37, u38, u39, u40, u41, u42, u43, u44, u45, u46, u47, u48, u49, u50, u51, u52, u53, u54, u55, u56, u57, u58, u59, u60, u61, u62, u63, u64, u65, u66, u67, u68, u69, u70, u71, u72, u73, u74, u75, u76, u77, u78, u79, u80, u81, u82, u83, u84, u85, u86, u87, u88, u89, u90, u91, u92, u93, u94, u95, u96, u97, u98, u99, u100, u101, u102, u103, u104, u105, u106, u107, u108, u109, u110, u111, u112, u113, u114, u115, u116, u117, u118, u119, u120, u121, u122, u123, u124, u125, u126, u127, u128, u129, u130, u131, u132, u133, u134, u135, u136, u137, u138, u139, u140, u141, u142, u143, u144, u145, u146, u147, u148, u149, u150, u151, u152, u153, u154, u155, u156, u157, u158, u159, u160, u161, u162, u163, u164, u165, u166, u167, u168, u169, u170, u171, u172, u173, u174, u175, u176, u177, u178, u179, u180, u181, u182, u183, u184, u185, u186, u187, u188, u189, u190, u191, u192, u193, u194, u195, u196, u197, u198, u199, u200, u201, u202, u203, u204, u205, u206, u207, u208, u209, u210, u211, u212, u213, u214, u215, u216, u217, u218, u219], []⟩ wr := by
  have HQ := Lib.hid hQ
  clear hQ
  have bp : p ≤ n := by have := HT.out.cut.lv1; have := HT.out.cn; omega
  obtain ⟨T, hT⟩ : ∃ T, T = rt 11 bd := ⟨_, rfl⟩
  have HTT := Lib.hid hT
  conv at hT => rhs; whnf
  conv => arg 2; whnf
  rw [← hT]
  clear hT
  unfold FV
  by_cases h1 : i < p
  · have d1 : decide ((i : Int) < (p : Int)) = true := decide_eq_true (by omega)
    have d1' : decide (i < p) = true := decide_eq_true (by omega)
    by_cases h2 : p < c0
    · have d2 : decide ((p : Int) < (c0 : Int)) = true := decide_eq_true (by omega)
      have d2' : decide (p < c0) = true := decide_eq_true (by omega)
      have HG := Lib.hid (show 1 ≤ U1.length ∧ 1 ≤ V1.length ∧ (P ++ U1 ++ V1 ++ (U2 ++ V2 ++ Q)).length = N by
        have g1 := HT.out.cut.lu1; have g2 := HT.out.cut.lv1; have g5 := HT.out.ln
        refine ⟨by omega, by omega, ?_⟩
        simp only [List.length_append] at g5 ⊢
        omega)
      clear h1 h2
      go_wp2_with fail
      obtain ⟨g1, g2, g3⟩ := HG.out
      refine (HI.out P U1 V1 (U2 ++ V2 ++ Q) _ _ _ i p c0 rfl rfl rfl HT.out.lp HT.out.cut.lu1 HT.out.cut.lv1 g1 g2 HT.out.lt.1 HT.out.cut.su1 HT.out.cut.sv1 HT.out.cut.t1 g3 _ HW.out.1 (HT.out.cmp.kept _ _ HT.out.kw HW.out.2)).mono ?_
      rintro e' w' ⟨rfl, ⟨L1, k0, k1⟩, k2⟩
      have H1 := Lib.hid (And.intro k0 (And.intro k1 (HW.out.2.trans k2)))
      clear k0 k1 k2 g1 g2 g3
      go_wp2_with fail
      rw [HTT.out]
      refine tail3 b N cap bx K key P U V Q i m n c0 t p e U1 U2 V1 V2 w _ HT HI hm bN L1 (Lib.hid H1.out) HQ.out
    · have d2 : decide ((p : Int) < (c0 : Int)) = false := decide_eq_false (by omega)
      have d2' : decide (p < c0) = false := decide_eq_false (by omega)
      have HE := Lib.hid (show Done key (U1 ++ V1) (U1 ++ V1) by
        have g2 := HT.out.cut.lu1; have g3 := HT.out.cut.lv1
        refine Done.refl ?_
        rw [show V1 = [] from List.eq_nil_of_length_eq_zero (by omega), List.append_nil]; exact HT.out.cut.su1)
      clear h1 h2
      go_wp2_with fail
      rw [HTT.out]
      refine tail3 b N cap bx K key P U V Q i m n c0 t p e U1 U2 V1 V2 w _ HT HI hm bN (U1 ++ V1) (Lib.hid ⟨HE.out, by have := HW.out.1; simpa only [List.append_assoc] using this, HW.out.2⟩) HQ.out
  · have d1 : decide ((i : Int) < (p : Int)) = false := decide_eq_false (by omega)
    have d1' : decide (i < p) = false := decide_eq_false (by omega)
    have HE := Lib.hid (show Done key (U1 ++ V1) (U1 ++ V1) by
      have g2 := HT.out.cut.lu1; have g3 := HT.out.cut.lv1
      refine Done.refl ?_
      rw [show U1 = [] from List.eq_nil_of_length_eq_zero (by omega), List.nil_append]; exact HT.out.cut.sv1)
    clear h1
    go_wp2_with fail
    rw [HTT.out]
    refine tail3 b N cap bx K key P U V Q i m n c0 t p e U1 U2 V1 V2 w _ HT HI hm bN (U1 ++ V1) (Lib.hid ⟨HE.out, by have := HW.out.1; simpa only [List.append_assoc] using this, HW.out.2⟩) HQ.out
set_option maxRecDepth 1000000 in
set_option maxHeartbeats 4000000 in
theorem tail1 (b N cap bx : Nat) (K : World → Prop) (key : C → Int) (P U V Q : List (C × Nat)) (i m n c0 t p e : Nat) (U1 U2 V1 V2 : List (C × Nat)) (w wr : World) (HT : Hid (Tail b N bx K key P U V Q i m n c0 t p e U1 U2 V1 V2 w)) (HI : Hid (SM b N cap bx K key (U.length + V.length))) (hm : N ≤ 1000000) (bN : n ≤ N) (HW : Hid (AtC wr b (P ++ U1 ++ U2 ++ V1 ++ (V2 ++ Q)) ∧ Chg (· = b) w wr)) {u5 u6 u7 u8 u9 u10 u11 u12 u13 u14 u15 u16 u17 u21 u22 u23 u24 u25 u26 u27 u28 u29 u30 u31 u32 u33 u34 u35 u36 u37 u38 u39 u40 u41 u42 u43 u44 u45 u46 u47 u48 u49 u50 u51 u52 u53 u54 u55 u56 u57 u58 u59 u60 u61 u62 u63 u64 u65 u66 u67 u68 u69 u70 u71 u72 u73 u74 u75 u76 u77 u78 u79 u80 u81 u82 u83 u84 u85 u86 u87 u88 u89 u90 u91 u92 u93 u94 u95 u96 u97 u98 u99 u100 u101 u102 u103 u104 u105 u106 u107 u108 u109 u110 u111 u112 u113 u114 u115 u116 u117 u118 u119 u120 u121 u122 u123 u124 u125 u126 u127 u128 u129 u130 u131 u132 u133 u134 u135 u136 u137 u138 u139 u140 u141 u142 u143 u144 u145 u146 u147 u148 u149 u150 u151 u152 u153 u154 u155 u156 u157 u158 u159 u160 u161 u162 u163 u164 u165 u166 u167 u168 u169 u170 u171 u172 u173 u174 u175 u176 u177 u178 u179 u180 u181 u182 u183 u184 u185 u186 u187 u188 u189 u190 u191 u192 u193 u194 u195 u196 u197 u198 u199 u200 u201 u202 u203 u204 u205 u206 u207 u208 u209 u210 u211 u212 u213 u214 u215 u216 u217 u218 u219 : Value} {Qq : Exit → Act → World → Prop} (hQ : ∀ (tm : Array Value) w', Post b key P U V Q w w' → Qq .normal ⟨tm, []⟩ w') :
    Code.wp Try.prog (rt 8 bd) Qq ⟨#[.slice (some ⟨b, 0, none⟩) N cap, .int .i64 i, .int .i64 m, .int .i64 n, FV bx, u5, u6, u7, u8, u9, u10, u11, u12, u13, u14, u15, u16, u17, .int .i64 c0, .int .i64 t, .int .i64 p, u21, u22, u23, u24, u25, u26, u27, u28, u29, u30, u31, u32, u33, u34, u35, u36, u37, u38, u39, u40, u41, u42, u43, u44, u45, u46, u47, u48, u49, u50, u51, u52, u53, u54, u55, u56, u57, u58, u59, u60, u61, u62, u63, u64, u65, u66, u67, u68, u69, u70, u71, u72, u73, u74, u75, u76, u77, u78, u79, u80, u81, u82, u83, u84, u85, u86, u87, u88, u89, u90, u91, u92, u93, u94, u95, u96, u97, u98, u99, u100, u101, u102, u103, u104, u105, u106, u107, u108, u109, u110, u111, u112, u113, u114, u115, u116, u117, u118, u119, u120, u121, u122, u123, u124, u125, u126, u127, u128, u129, u130, u131, u132, u133, u134, u135, u136, u137, u138, u139, u140, u141, u142, u143, u144, u145, u146, u147, u148, u149, u150, u151, u152, u153, u154, u155, u156, u157, u158, u159, u160, u161, u162, u163, u164, u165, u166, u167, u168, u169, u170, u171, u172, u173, u174, u175, u176, u177, u178, u179, u180, u181, u182, u183, u184, u185, u186, u187, u188, u189, u190, u191, u192, u193, u194, u195, u196, u197, u198, u199, u200, u201, u202, u203, u204, u205, u206, u207, u208, u209, u210, u211, u212, u213, u214, u215, u216, u217, u218, u219], []⟩ wr := by
  have HQ := Lib.hid hQ
  clear hQ
  have e4 : (t : Int) - (p : Int) = (e : Int) := by have := HT.out.cut.te; omega
  have be : e ≤ n := by have := HT.out.cut.lv2; omega
  have bm : m ≤ n := by have := HT.out.cut.lv2; have := HT.out.cut.lv; omega
  have bp : p ≤ n := by have := HT.out.cut.lv1; have := HT.out.cn; omega
  obtain ⟨T, hT⟩ : ∃ T, T = rt 10 bd := ⟨_, rfl⟩
  have HTT := Lib.hid hT
  conv at hT => rhs; whnf
  conv => arg 2; whnf
  rw [← hT]
  clear hT
  unfold FV
  by_cases h1 : p < m
  · have d1 : decide ((p : Int) < (m : Int)) = true := decide_eq_true (by omega)
    have d1' : decide (p < m) = true := decide_eq_true (by omega)
    by_cases h2 : m < e
    · have d2 : decide ((m : Int) < (e : Int)) = true := decide_eq_true (by omega)
      have d2' : decide (m < e) = true := decide_eq_true (by omega)
      have HG := Lib.hid (show (P ++ U1).length = p ∧ p + U2.length = m ∧ m + V1.length = e ∧ 1 ≤ U2.length ∧ 1 ≤ V1.length ∧ (P ++ U1 ++ U2 ++ V1 ++ (V2 ++ Q)).length = N by
        have g1 := HT.out.cut.lu1; have g2 := HT.out.cut.lv; have g3 := HT.out.cut.lu; have g4 := HT.out.lp; have g5 := HT.out.ln
        refine ⟨by rw [List.length_append]; omega, g3, g2, by omega, by omega, ?_⟩
        simp only [List.length_append] at g5 ⊢
        omega)
      clear h1 h2
      go_wp2_with fail
      obtain ⟨g1, g2, g3, g4, g5, g6⟩ := HG.out
      refine (rotate_any b N cap _ (P ++ U1) U2 V1 (V2 ++ Q) _ _ _ p m e rfl rfl rfl g1 g2 g3 g4 g5 g6 hm _ HW.out.1).mono ?_
      rintro e' w' ⟨rfl, k1, k2⟩
      have H1 := Lib.hid (And.intro k1 (HW.out.2.trans k2))
      clear k1 k2 g1 g2 g3 g4 g5 g6
      go_wp2_with fail
      rw [HTT.out]
      refine tail2 b N cap bx K key P U V Q i m n c0 t p e U1 U2 V1 V2 w _ HT HI hm bN (Lib.hid ⟨by have := H1.out.1; simpa only [List.append_assoc] using this, H1.out.2⟩) HQ.out
    · have d2 : decide ((m : Int) < (e : Int)) = false := decide_eq_false (by omega)
      have d2' : decide (m < e) = false := decide_eq_false (by omega)
      have HE := Lib.hid (show P ++ U1 ++ V1 ++ (U2 ++ V2 ++ Q) = P ++ U1 ++ U2 ++ V1 ++ (V2 ++ Q) by
        have g2 := HT.out.cut.lv; have g3 := HT.out.cut.lu
        rw [show V1 = [] from List.eq_nil_of_length_eq_zero (by omega)]; simp)
      clear h1 h2
      go_wp2_with fail
      rw [HTT.out]
      refine tail2 b N cap bx K key P U V Q i m n c0 t p e U1 U2 V1 V2 w _ HT HI hm bN (Lib.hid ⟨by rw [HE.out]; exact HW.out.1, HW.out.2⟩) HQ.out
  · have d1 : decide ((p : Int) < (m : Int)) = false := decide_eq_false (by omega)
    have d1' : decide (p < m) = false := decide_eq_false (by omega)
    have HE := Lib.hid (show P ++ U1 ++ V1 ++ (U2 ++ V2 ++ Q) = P ++ U1 ++ U2 ++ V1 ++ (V2 ++ Q) by
      have g2 := HT.out.cut.lv; have g3 := HT.out.cut.lu
      rw [show U2 = [] from List.eq_nil_of_length_eq_zero (by omega)]; simp)
    clear h1
    go_wp2_with fail
    rw [HTT.out]
    refine tail2 b N cap bx K key P U V Q i m n c0 t p e U1 U2 V1 V2 w _ HT HI hm bN (Lib.hid ⟨by rw [HE.out]; exact HW.out.1, HW.out.2⟩) HQ.out

end Go.Proofs.Ytbjkpiobfiebhaa.Hs
