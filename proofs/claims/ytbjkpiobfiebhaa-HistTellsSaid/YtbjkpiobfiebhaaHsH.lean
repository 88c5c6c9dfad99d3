/-
  Histories: the merge of rows of calls, whole; a row of calls sorted, the alike ones as they stood.
  No condition but lengths.
-/
import Derived.Test.YtbjkpiobfiebhaaHsG
namespace Go.Proofs.Ytbjkpiobfiebhaa.Hs
open Go.RowKit Go.Seg Go.Open Go.Lib Go.Arr Go.Stab

theorem merge_any (b N cap bx : Nat) (K : World → Prop) (key : C → Int) (hK : CmpOk bx b K key) (hm : N ≤ 1000000) : ∀ s, SM b N cap bx K key s := by
  intro s
  induction s with
  | zero => intro P U V Q x y z i m n _ _ _ _ _ _ _ _ h; omega
  | succ s ih =>
    intro P U V Q x y z i m n hx hy hz hP hU hV hU1 hV1 hs su sv tg hN w h hKw
    by_cases hlt : U.length + V.length < s
    · exact ih P U V Q x y z i m n hx hy hz hP hU hV hU1 hV1 hlt su sv tg hN w h hKw
    have he : U.length + V.length = s := by omega
    subst hx hy hz
    by_cases h1 : U.length = 1
    · obtain ⟨u, rfl⟩ := List.length_eq_one_iff.1 h1
      have e : P ++ [u] ++ V ++ Q = P ++ u :: V ++ Q := by simp
      rw [e] at hN h
      simp only [List.length_cons, List.length_nil] at hU
      exact symMerge_left b N cap bx K key hK P V Q u i m n hP (by omega) hV sv (fun y hy => tg u (by simp) y hy) hN hm w h hKw
    by_cases h2 : V.length = 1
    · obtain ⟨v, rfl⟩ := List.length_eq_one_iff.1 h2
      have e : P ++ U ++ [v] ++ Q = P ++ U ++ v :: Q := by simp
      rw [e] at hN h
      simp only [List.length_cons, List.length_nil] at hV
      exact symMerge_right b N cap bx K key hK P U Q v i m n hP hU (by omega) (by omega) su (fun y hy => tg y hy v (by simp)) hN hm w h hKw
    rw [← he] at ih
    by_cases hc : (i + n) / 2 < m
    · exact symMerge_midA b N cap bx K key hK P U V Q i m n _ _ rfl rfl hc hP hU hV (by omega) (by omega) su sv tg ih hN hm w h hKw
    · exact symMerge_midB b N cap bx K key hK P U V Q i m n _ _ rfl rfl (by omega) hP hU hV (by omega) (by omega) su sv tg ih hN hm w h hKw
/-- Parts of a row, each as it was and as it is sorted. -/
abbrev Parts := List (List (C × Nat) × List (C × Nat))
def was (L : Parts) : List (C × Nat) := L.flatMap Prod.fst
def now (L : Parts) : List (C × Nat) := L.flatMap Prod.snd
def Pre (key : C → Int) (s : Nat) (L : Parts) : Prop := ∀ p ∈ L, p.1.length = s ∧ Done key p.1 p.2
theorem Pre.len {key : C → Int} {s : Nat} {L : Parts} (h : Pre key s L) : (now L).length = L.length * s ∧ (was L).length = L.length * s := by
  induction L with
  | nil => simp [now, was]
  | cons p L ih =>
    obtain ⟨h1, h2⟩ := ih (fun q hq => h q (by simp [hq]))
    obtain ⟨h3, h4⟩ := h p (by simp)
    have h5 := h4.1.length_eq
    simp only [now, was, List.flatMap_cons, List.length_append, List.length_cons, Nat.add_mul] at h1 h2 ⊢
    omega
theorem Pre.snoc {key : C → Int} {s : Nat} {L : Parts} {A B : List (C × Nat)} (h : Pre key s L) (hl : A.length = s) (hd : Done key A B) : Pre key s (L ++ [(A, B)]) := by
  intro p hp
  rcases List.mem_append.1 hp with hp | hp
  · exact h p hp
  · simp at hp; subst hp; exact ⟨hl, hd⟩
theorem now_snoc (L : Parts) (A B : List (C × Nat)) : now (L ++ [(A, B)]) = now L ++ B ∧ was (L ++ [(A, B)]) = was L ++ A := by simp [now, was]
theorem Done.join {key : C → Int} {A A' B B' M : List (C × Nat)} (h1 : Done key A A') (h2 : Done key B B') (h : Done key (A' ++ B') M) : Done key (A ++ B) M := ⟨h.1.trans (h1.1.append h2.1), h.2⟩
theorem TagsUp.app {A B : List (C × Nat)} (h : TagsUp (A ++ B)) : TagsUp A ∧ TagsUp B ∧ Tags A B := List.pairwise_append.1 h
theorem Tags.done {key : C → Int} {A A' B B' : List (C × Nat)} (h : Tags A B) (h1 : Done key A A') (h2 : Done key B B') : Tags A' B' := fun x hx y hy => h x (h1.1.mem_iff.1 hx) y (h2.1.mem_iff.1 hy)
/-- All of a row: parts, and a last one. -/
structure Whole (key : C → Int) (T : List (C × Nat)) (s : Nat) (L : Parts) (T2 S2 : List (C × Nat)) : Prop where
  pre : Pre key s L
  eq : T = was L ++ T2
  done : Done key T2 S2
  lt : T2.length < s
theorem Whole.end {key : C → Int} {T : List (C × Nat)} {s : Nat} {L : Parts} {T2 S2 : List (C × Nat)} (h : Whole key T s L T2 S2) (hs : T.length ≤ s) : Done key T (now L ++ S2) := by
  have hl := h.pre.len.2
  have e := congrArg List.length h.eq
  rw [List.length_append, hl] at e
  have h0 := h.lt
  match L, h, e with
  | [], h, e =>
    rw [h.eq]
    simpa [was, now] using h.done
  | [p], h, e =>
    obtain ⟨h3, h4⟩ := h.pre p (by simp)
    simp only [List.length_cons, List.length_nil, Nat.zero_add, Nat.one_mul] at e
    have e2 : T2 = [] := List.eq_nil_of_length_eq_zero (by omega)
    subst e2
    have e3 : S2 = [] := List.Perm.eq_nil h.done.1
    subst e3
    rw [h.eq]
    simpa [was, now] using h4
  | p :: q :: L, h, e =>
    simp only [List.length_cons] at e
    rw [Nat.add_mul, Nat.add_mul] at e
    omega
/-- Two parts side by side are merged. -/
theorem part_tags {key : C → Int} {T X Y A B A' B' : List (C × Nat)} (h : TagsUp T) (e : T = X ++ A ++ B ++ Y) (h1 : Done key A A') (h2 : Done key B B') : Tags A' B' := by
  rw [e, List.append_assoc, List.append_assoc] at h
  have h3 := (TagsUp.app (TagsUp.app h).2.1).2.2
  exact Tags.done (fun x hx y hy => h3 x hx y (List.mem_append_left _ hy)) h1 h2
set_option maxRecDepth 100000 in
set_option maxHeartbeats 4000000 in
theorem stable_any (b N cap bx : Nat) (K : World → Prop) (key : C → Int) (hK : CmpOk bx b K key) (T : List (C × Nat)) (htag : TagsUp T) (hN : T.length = N) (hm : N ≤ 1000000) (w : World) (h : AtC w b T) (hKw : K w) :
    Calls Try.prog 54 #[.slice (some ⟨b, 0, none⟩) N cap, .int .i64 N, FV bx] w fun e w' => e = .returned (.tuple #[]) ∧ (∃ M', Done key T M' ∧ AtC w' b M') ∧ Chg (· = b) w w' := by
  unfold FV
  have HK := Lib.hid hK
  have HKw := Lib.hid hKw
  have HTag := Lib.hid htag
  have HT := Lib.hid h
  have HN := Lib.hid hN
  clear hK hKw htag h hN
  go_enter Try.func54, Try.ntmps54
  go_wp2_with fail
  go_loopg [7, 8] N (fun g s t wr => ∃ (a c : Nat) (L : Parts) (T2 : List (C × Nat)), s = .int .i64 a ∧ t = .int .i64 c ∧ c = a + 20 ∧ a ≤ N ∧ Hid (L.length * 20 = a ∧ Pre key 20 L ∧ T = was L ++ T2 ∧ AtC wr b (now L ++ T2) ∧ Chg (· = b) w wr) ∧ N - a ≤ g)
  case atStart => exact ⟨0, 20, [], T, rfl, rfl, rfl, Nat.zero_le _, Lib.hid ⟨rfl, fun p hp => by simp at hp, by simp [was], by have := HT.out; simpa [now] using this, Chg.refl _⟩, Nat.le_refl _⟩
  case round =>
    obtain ⟨a, c, L, T2, rfl, rfl, hca, haN, HR, hg⟩ := hrel
    by_cases hcN : c ≤ N
    · have d0 : decide ((c : Int) ≤ (N : Int)) = true := decide_eq_true (by omega)
      obtain ⟨A, B, eAB, hA⟩ : ∃ A B, T2 = A ++ B ∧ A.length = 20 := ⟨T2.take 20, T2.drop 20, (List.take_append_drop _ _).symm, by
        have h1 := HR.out; have h2 := HN.out; rw [h1.2.2.1, List.length_append, h1.2.1.len.2] at h2; rw [List.length_take]; omega⟩
      subst eAB
      have HA := Lib.hid hA
      have HCA := Lib.hid hca
      clear hA hca
      go_wp2_with fail
      have h1 := HR.out
      have hca := HCA.out
      refine (insertion_some b N cap bx K key HK.out (now L) A B a c (by rw [h1.2.1.len.1]; exact h1.1) (by rw [HA.out]; omega) (by rw [HA.out]; omega) (by
        have h2 := HTag.out; rw [h1.2.2.1] at h2; exact (TagsUp.app (TagsUp.app h2).2.1).1) (by
        have h2 := HN.out; rw [h1.2.2.1] at h2; simp only [List.length_append, h1.2.1.len.1, h1.2.1.len.2] at h2 ⊢; omega) hm _ (by have := h1.2.2.2.1; simpa only [List.append_assoc] using this) (HK.out.kept _ _ HKw.out h1.2.2.2.2)).mono ?_
      rintro e w1 ⟨rfl, ⟨A', k1, k2⟩, k3⟩
      have H1 := Lib.hid (And.intro k1 (And.intro k2 (h1.2.2.2.2.trans k3)))
      clear h1 k1 k2 k3 hca
      go_wp2_with fail
      have hca := HCA.out
      go_roundg (N - c)
      case measure => omega
      case rel =>
        obtain ⟨q1, q2, q3, q4, q5⟩ := HR.out
        exact ⟨c, c + 20, L ++ [(A, A')], B, rfl, by congr 1, rfl, hcN, Lib.hid ⟨by rw [List.length_append, Nat.add_mul, q1]; exact hca.symm, q2.snoc HA.out H1.out.1, by rw [q3, (now_snoc _ _ _).2]; simp, by rw [(now_snoc _ _ _).1]; exact H1.out.2.1, H1.out.2.2⟩, Nat.le_refl _⟩
    · have d0 : decide ((c : Int) ≤ (N : Int)) = false := decide_eq_false (by omega)
      have HL := Lib.hid (show T2.length < 20 ∧ a + T2.length = N by
        have h1 := HR.out; have h2 := HN.out; rw [h1.2.2.1, List.length_append, h1.2.1.len.2] at h2; omega)
      clear hca
      go_wp2_with fail
      have h1 := HR.out
      have hIns : Calls Try.prog 65 #[.slice (some ⟨b, 0, none⟩) N cap, .int .i64 a, .int .i64 N, FV bx] wr fun e w' => e = .returned (.tuple #[]) ∧ (∃ S2, Done key T2 S2 ∧ AtC w' b (now L ++ S2)) ∧ Chg (· = b) w w' := by
        by_cases hz : T2.length = 0
        · have e2 : T2 = [] := List.eq_nil_of_length_eq_zero hz
          have e3 : a = N := by have := HL.out; omega
          subst e2 e3
          refine (insertion_nil b a cap bx a hm wr).mono ?_
          rintro e w' ⟨rfl, rfl⟩
          exact ⟨rfl, ⟨[], Done.refl List.Pairwise.nil, h1.2.2.2.1⟩, h1.2.2.2.2⟩
        · refine (insertion_some b N cap bx K key HK.out (now L) T2 [] a N (by rw [h1.2.1.len.1]; exact h1.1) HL.out.2 (by omega) (by
            have h2 := HTag.out; rw [h1.2.2.1] at h2; exact (TagsUp.app h2).2.1) (by
            have h2 := HN.out; rw [h1.2.2.1] at h2; simp only [List.length_append, h1.2.1.len.1, h1.2.1.len.2, List.length_nil] at h2 ⊢; omega) hm _ (by have := h1.2.2.2.1; simpa only [List.append_nil] using this) (HK.out.kept _ _ HKw.out h1.2.2.2.2)).mono ?_
          rintro e w' ⟨rfl, ⟨S2, k1, k2⟩, k3⟩
          exact ⟨rfl, ⟨S2, k1, by simpa only [List.append_nil] using k2⟩, h1.2.2.2.2.trans k3⟩
      refine hIns.mono ?_
      rintro e w1 ⟨rfl, ⟨S2, k1, k2⟩, k3⟩
      have H1 := Lib.hid (And.intro (Whole.mk (s := 20) h1.2.1 h1.2.2.1 k1 HL.out.1) (And.intro k2 k3))
      clear h1 k1 k2 k3 hIns haN hg hcN d0 HL
      go_wp2_with fail
      go_loopg [6] N (fun g s wr => ∃ (u : Nat) (L : Parts) (T2 S2 : List (C × Nat)), s = .int .i64 u ∧ 20 ≤ u ∧ u ≤ 2000000 ∧ Hid (Whole key T u L T2 S2 ∧ AtC wr b (now L ++ S2) ∧ Chg (· = b) w wr) ∧ N - u ≤ g)
      case atStart => exact ⟨20, L, T2, S2, rfl, Nat.le_refl _, by omega, H1, by omega⟩
      case round =>
        clear H1 HR
        obtain ⟨u, L, T2, S2, rfl, hu, hu2, HR, hg⟩ := hrel
        by_cases huN : u < N
        · have d0 : decide ((u : Int) < (N : Int)) = true := decide_eq_true (by omega)
          go_wp2_with fail
          go_loopg [7, 8] N (fun g s t wr => ∃ (a c : Nat) (L1 L2 : Parts), s = .int .i64 a ∧ t = .int .i64 c ∧ c = a + 2 * u ∧ a ≤ N ∧ Hid (L1.length * (2 * u) = a ∧ Pre key (2 * u) L1 ∧ Pre key u L2 ∧ T = was L1 ++ (was L2 ++ T2) ∧ Done key T2 S2 ∧ T2.length < u ∧ AtC wr b (now L1 ++ (now L2 ++ S2)) ∧ Chg (· = b) w wr) ∧ N - a ≤ g)
          case atStart =>
            have h1 := HR.out
            exact ⟨0, 2 * u, [], L, rfl, by first | rfl | go_num | (congr 1; omega), by omega, Nat.zero_le _, Lib.hid ⟨by simp, fun p hp => by simp at hp, h1.1.pre, by simpa [was] using h1.1.eq, h1.1.done, h1.1.lt, by simpa [now] using h1.2.1, h1.2.2⟩, Nat.le_refl _⟩
          case round =>
            clear HR
            obtain ⟨a, c, L1, L2, rfl, rfl, hca, haN, HJ, hg2⟩ := hrel
            have HLn := Lib.hid (show a + L2.length * u + T2.length = N ∧ (now L1).length = a by
              obtain ⟨q1, q2, q3, q4, q5, q6, q7, q8⟩ := HJ.out
              have h2 := HN.out
              rw [q4, List.length_append, List.length_append, q2.len.2, q3.len.2] at h2
              exact ⟨by omega, by rw [q2.len.1]; exact q1⟩)
            have HRow := Lib.hid (show (now L1 ++ (now L2 ++ S2)).length = N by
              obtain ⟨q1, q2, q3, q4, q5, q6, q7, q8⟩ := HJ.out
              have h1 := HLn.out
              have h3 := q5.1.length_eq
              rw [List.length_append, List.length_append, h1.2, q3.len.1]
              omega)
            by_cases hcN : c ≤ N
            · have d3 : decide ((c : Int) ≤ (N : Int)) = true := decide_eq_true (by omega)
              obtain ⟨p, q, L3, e3⟩ : ∃ p q L3, L2 = p :: q :: L3 := by
                have h1 := HLn.out
                have h2 := HJ.out.2.2.2.2.2.1
                match L2, h1 with
                | [], h1 => simp at h1; omega
                | [p], h1 => simp at h1; omega
                | p :: q :: L3, _ => exact ⟨p, q, L3, rfl⟩
              subst e3
              have HM := Lib.hid (show (p.1.length = u ∧ Done key p.1 p.2) ∧ (q.1.length = u ∧ Done key q.1 q.2) ∧ Pre key u L3 from ⟨HJ.out.2.2.1 p (by simp), HJ.out.2.2.1 q (by simp), fun r hr => HJ.out.2.2.1 r (by simp [hr])⟩)
              have HCA := Lib.hid hca
              have b5 : a + u ≤ N := by omega
              clear hca
              go_wp2_with fail
              have h1 := HM.out
              have h2 := HJ.out
              have hca := HCA.out
              have k1 := h1.1.2.1.length_eq
              have k2 := h1.2.1.2.1.length_eq
              have hT : T = was L1 ++ p.1 ++ q.1 ++ (was L3 ++ T2) := by rw [h2.2.2.2.1]; simp [was]
              refine (merge_any b N cap bx K key HK.out hm (p.2.length + q.2.length + 1) (now L1) p.2 q.2 (now L3 ++ S2) _ _ _ a (a + u) c (by first | rfl | omega) (by first | rfl | omega) (by first | rfl | omega) HLn.out.2 (by omega) (by omega) (by omega) (by omega) (by omega) h1.1.2.2 h1.2.1.2.2 (part_tags HTag.out hT h1.1.2 h1.2.1.2) (by have := HRow.out; simpa [now] using this) _ (by have := h2.2.2.2.2.2.2.1; simpa [now] using this) (HK.out.kept _ _ HKw.out h2.2.2.2.2.2.2.2)).mono ?_
              rintro e w1 ⟨rfl, ⟨M', k3, k4⟩, k5⟩
              have H1 := Lib.hid (And.intro (Done.join h1.1.2 h1.2.1.2 k3) (And.intro k4 (h2.2.2.2.2.2.2.2.trans k5)))
              clear h1 h2 k1 k2 k3 k4 k5 hT hca
              go_wp2_with fail
              have hca := HCA.out
              go_roundg (N - c)
              case measure => omega
              case rel =>
                obtain ⟨q1, q2, q3, q4, q5, q6, q7, q8⟩ := HJ.out
                refine ⟨c, c + 2 * u, L1 ++ [(p.1 ++ q.1, M')], L3, rfl, by go_num, rfl, hcN, Lib.hid ⟨by rw [List.length_append, Nat.add_mul, q1]; simp only [List.length_cons, List.length_nil]; omega, q2.snoc (by have := HM.out; rw [List.length_append]; omega) H1.out.1, HM.out.2.2, by rw [q4, (now_snoc _ _ _).2]; simp [was], q5, q6, by rw [(now_snoc _ _ _).1]; have := H1.out.2.1; simpa using this, H1.out.2.2⟩, Nat.le_refl _⟩
            · have d3 : decide ((c : Int) ≤ (N : Int)) = false := decide_eq_false (by omega)
              have HL2 := Lib.hid (show L2.length ≤ 1 by
                have h1 := HLn.out
                match L2, h1 with
                | [], h1 => simp
                | [p], h1 => simp
                | p :: q :: L3, h1 => simp only [List.length_cons] at h1; rw [Nat.add_mul, Nat.add_mul] at h1; omega)
              clear hca
              by_cases hmN : a + u < N
              · have d4 : decide ((a : Int) + (u : Int) < (N : Int)) = true := decide_eq_true (by omega)
                have d4' : decide (a + u < N) = true := decide_eq_true (by omega)
                obtain ⟨p, e3⟩ : ∃ p, L2 = [p] := by
                  have h1 := HLn.out
                  have h2 := HL2.out
                  have h3 := HJ.out.2.2.2.2.2.1
                  match L2, h1, h2 with
                  | [], h1, _ => simp at h1; omega
                  | [p], _, _ => exact ⟨p, rfl⟩
                  | p :: q :: L3, _, h2 => simp at h2
                subst e3
                have HM := Lib.hid (show p.1.length = u ∧ Done key p.1 p.2 from HJ.out.2.2.1 p (by simp))
                go_wp2_with fail
                have h1 := HM.out
                have h2 := HJ.out
                have k1 := h1.2.1.length_eq
                have k2 := h2.2.2.2.2.1.1.length_eq
                have hl := HLn.out
                simp only [List.length_cons, List.length_nil, Nat.zero_add, Nat.one_mul] at hl
                have hT : T = was L1 ++ p.1 ++ T2 ++ [] := by rw [h2.2.2.2.1]; simp [was]
                refine (merge_any b N cap bx K key HK.out hm (p.2.length + S2.length + 1) (now L1) p.2 S2 [] _ _ _ a (a + u) N (by first | rfl | omega) (by first | rfl | omega) (by first | rfl | omega) hl.2 (by omega) (by omega) (by omega) (by omega) (by omega) h1.2.2 h2.2.2.2.2.1.2 (part_tags HTag.out hT h1.2 h2.2.2.2.2.1) (by have := HRow.out; simpa [now] using this) _ (by have := h2.2.2.2.2.2.2.1; simpa [now] using this) (HK.out.kept _ _ HKw.out h2.2.2.2.2.2.2.2)).mono ?_
                rintro e w1 ⟨rfl, ⟨M', k3, k4⟩, k5⟩
                have H1 := Lib.hid (And.intro (Done.join h1.2 h2.2.2.2.2.1 k3) (And.intro k4 (h2.2.2.2.2.2.2.2.trans k5)))
                clear h1 h2 k1 k2 k3 k4 k5 hT hl
                go_wp2_with fail
                go_roundg (N - 2 * u)
                case measure => omega
                case rel =>
                  obtain ⟨q1, q2, q3, q4, q5, q6, q7, q8⟩ := HJ.out
                  refine ⟨2 * u, L1, p.1 ++ T2, M', by go_num, by omega, by omega, Lib.hid ⟨⟨q2, by rw [q4]; simp [was], H1.out.1, by have := HM.out; rw [List.length_append]; omega⟩, by have := H1.out.2.1; simpa using this, H1.out.2.2⟩, Nat.le_refl _⟩
              · have d4 : decide ((a : Int) + (u : Int) < (N : Int)) = false := decide_eq_false (by omega)
                have d4' : decide (a + u < N) = false := decide_eq_false (by omega)
                go_wp2_with fail
                go_roundg (N - 2 * u)
                case measure => omega
                case rel =>
                  have h1 := HLn.out
                  have h2 := HL2.out
                  obtain ⟨q1, q2, q3, q4, q5, q6, q7, q8⟩ := HJ.out
                  match L2, h1, h2, q3, q4, q7 with
                  | [], h1, _, q3, q4, q7 => exact ⟨2 * u, L1, T2, S2, by go_num, by omega, by omega, Lib.hid ⟨⟨q2, by rw [q4]; simp [was], q5, by omega⟩, by simpa [now] using q7, q8⟩, Nat.le_refl _⟩
                  | [p], h1, _, q3, q4, q7 =>
                    simp only [List.length_cons, List.length_nil, Nat.zero_add, Nat.one_mul] at h1
                    have e2 : T2 = [] := List.eq_nil_of_length_eq_zero (by omega)
                    subst e2
                    have e3 : S2 = [] := List.Perm.eq_nil q5.1
                    subst e3
                    obtain ⟨h3, h4⟩ := q3 p (by simp)
                    exact ⟨2 * u, L1, p.1, p.2, by go_num, by omega, by omega, Lib.hid ⟨⟨q2, by rw [q4]; simp [was], h4, by omega⟩, by simpa [now] using q7, q8⟩, Nat.le_refl _⟩
                  | p :: q :: L3, _, h2, _, _, _ => simp at h2
        · have d0 : decide ((u : Int) < (N : Int)) = false := decide_eq_false (by omega)
          go_wp2_with fail
          go_end0
          exact ⟨rfl, ⟨_, HR.out.1.end (by have := HN.out; omega), HR.out.2.1⟩, HR.out.2.2⟩
end Go.Proofs.Ytbjkpiobfiebhaa.Hs
