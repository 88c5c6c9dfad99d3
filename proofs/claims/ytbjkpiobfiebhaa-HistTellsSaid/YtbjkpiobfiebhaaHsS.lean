/-
  Histories: the document's Counted and Order: each put where it belongs.
  At most 60 calls; no other condition.
-/
import Derived.Test.YtbjkpiobfiebhaaHsQ
namespace Go.Proofs.Ytbjkpiobfiebhaa.Hs
open Go.RowKit Go.Seg Go.Open Go.Lib Go.Arr Go.Stab Go.Row

theorem sel_lt (p : C → Bool) (S : List C) : ∀ y ∈ sel p S, y.2 < S.length := by
  intro y hy
  have h := (List.mem_filter.1 hy).1
  obtain ⟨i, hi, e⟩ := List.mem_iff_getElem.1 h
  rw [List.getElem_zipIdx] at e
  rw [List.length_zipIdx] at hi
  rw [← e]
  simpa using hi
/-- One more, put behind all that are not greater. -/
theorem put_done {key : C → Int} {p : C → Bool} {S : List C} {L A B : List (C × Nat)} {x : C} (h : Done key (sel p S) L) (e : L = A ++ B) (hx : p x = true) (hA : ∀ R z, A = R ++ [z] → key z.1 ≤ key x) (hB : ∀ z ∈ B, key x < key z.1) :
    Done key (sel p (S ++ [x])) (A ++ (x, S.length) :: B) := by
  rw [sel_yes S x hx]
  have hm := merge_right (x := (x, S.length)) (A := A) (B := B) (key := key) (by rw [← e]; exact h.2) hA (fun z R e' => hB z (by rw [e']; simp)) (fun y hy => by
    have : y ∈ L := by rw [e]; exact List.mem_append_left _ hy
    exact sel_lt p S y (h.1.mem_iff.1 this))
  refine ⟨hm.1.trans ?_, hm.2⟩
  rw [← e]
  exact h.1.append_right _

set_option maxRecDepth 100000 in
set_option maxHeartbeats 8000000 in
theorem rCounted_any (T : List C) (a : Option Addr) (len cap b off : Nat) (w : World) (hV : VC w a len b off T) (hl : len ≤ 60) :
    Calls Try.prog 16 #[.slice a len cap] w fun e w' => (∃ (a' : Option Addr) (n cap' b' : Nat) (L : List (C × Nat)), e = .returned (.slice a' n cap') ∧ n ≤ 60 ∧ VC w' a' n b' 0 (L.map Prod.fst) ∧ Done (fun x => x.at_) (sel (fun x => decide (0 ≤ x.at_)) T) L) ∧ Ext w w' := by
  have HV := Lib.hid hV
  clear hV
  go_enter Try.func16, Try.ntmps16
  go_wp2_with fail
  go_loopg [3, 4] len (fun g v s wr => ∃ (i : Nat) (S R : List C) (L : List (C × Nat)), s = .int .i64 i ∧ i ≤ len ∧ Hid (T = S ++ R ∧ S.length = i) ∧ Hid (RowG RC enc wr w.heap.size v (L.map Prod.fst) ∧ Done (fun x => x.at_) (sel (fun x => decide (0 ≤ x.at_)) S) L ∧ Ext w wr) ∧ len - i ≤ g)
  case atStart => exact ⟨0, [], T, [], rfl, Nat.zero_le _, Lib.hid ⟨rfl, rfl⟩, Lib.hid ⟨RowG.nil _ _, Done.refl List.Pairwise.nil, Ext.refl _⟩, Nat.le_refl _⟩
  case round =>
    obtain ⟨i, S, R, L, rfl, hi, HX, HR, hg⟩ := hrel
    obtain ⟨av, cv, rfl⟩ := HR.out.1.val
    obtain ⟨b', hvc, hnc, had, hno, hln⟩ := row_vc HR.out.1
    obtain ⟨n, hn⟩ : ∃ n, (L.map Prod.fst).length = n := ⟨_, rfl⟩
    rw [hn] at hvc hnc hno ⊢
    have HLn := Lib.hid (show L.length = n by rwa [List.length_map] at hn)
    have hni : n ≤ i := by
      have h1 := HR.out.2.1.1.length_eq
      have h2 := sel_len (fun x => decide (0 ≤ x.at_)) S
      have := HX.out.2
      have := HLn.out
      omega
    have HVL := Lib.hid hvc
    have HAD := Lib.hid had
    have HNO := Lib.hid hno
    have HRow := Lib.hid (show RowG RC enc wr w.heap.size (.slice av n cv) (L.map Prod.fst) by have := HR.out.1; rw [hn] at this; exact this)
    clear hn hvc had hno hln
    by_cases hil : i < len
    · have d0 : decide (i < len) = true := decide_eq_true hil
      obtain rfl := HV.out.ad (by omega)
      obtain ⟨x, R', rfl⟩ : ∃ x R', R = x :: R' := by
        cases R with
        | nil => have h1 := HX.out; have h2 := HV.out.len; rw [h1.1] at h2; simp at h2; omega
        | cons x R' => exact ⟨x, R', rfl⟩
      have HXA := Lib.hid (HV.out.at1 S R' x HX.out.1 i HX.out.2.symm)
      have xs := HXA.out.cl wr HR.out.2.2 8 _ rfl
      by_cases hneg : x.at_ < 0
      · have d1 : decide (x.at_ < 0) = true := decide_eq_true hneg
        have HS := Lib.hid (show sel (fun x => decide (0 ≤ x.at_)) (S ++ [x]) = sel (fun x => decide (0 ≤ x.at_)) S from sel_no S x (decide_eq_false (by omega)))
        clear hneg
        go_wp2_with fail
        go_roundg (len - (i + 1))
        case measure => omega
        case rel => exact ⟨i + 1, S ++ [x], R', L, by go_num, by omega, Lib.hid ⟨by rw [HX.out.1]; simp, by rw [List.length_append, HX.out.2]; rfl⟩, Lib.hid ⟨HRow.out, by rw [HS.out]; exact HR.out.2.1, HR.out.2.2⟩, Nat.le_refl _⟩
      have d1 : decide (x.at_ < 0) = false := decide_eq_false hneg
      have HPX := Lib.hid (show decide (0 ≤ x.at_) = true from decide_eq_true (by omega))
      clear hneg
      go_wp2_with fail
      clear xs d1
      go_loopg [5] n (fun g s wk => ∃ t : Nat, s = .int .i64 t ∧ t ≤ n ∧ Hid (Ext wr wk ∧ ∀ A B, L = A ++ B → A.length = t → ∀ z ∈ B, x.at_ < z.1.at_) ∧ t ≤ g)
      case atStart => exact ⟨n, rfl, Nat.le_refl _, Lib.hid ⟨Ext.refl _, fun A B e hA z hz => by
        have h1 := congrArg List.length e
        have h2 := HLn.out
        rw [List.length_append] at h1
        rw [List.eq_nil_of_length_eq_zero (show B.length = 0 by omega)] at hz
        cases hz⟩, Nat.le_refl _⟩
      case round =>
        obtain ⟨t, rfl, ht, HJ, hg2⟩ := hrel
        have HRowK := Lib.hid (HRow.out.ext HJ.out.1)
        have HVK := Lib.hid (HVL.out.ext HJ.out.1)
        have HEK := Lib.hid (HR.out.2.2.trans HJ.out.1)
        obtain ⟨bb, hbb⟩ : ∃ bb : Bool, (∃ A z B, L = A ++ z :: B ∧ A.length + 1 = t ∧ decide (x.at_ < z.1.at_) = bb) ∨ (t = 0 ∧ bb = false) := by
          by_cases h0 : t = 0
          · exact ⟨false, .inr ⟨h0, rfl⟩⟩
          · obtain ⟨A, z, B, e, hA⟩ := split_at L (t - 1) (by have := HLn.out; omega)
            exact ⟨_, .inl ⟨A, z, B, e, by omega, rfl⟩⟩
        have HBB := Lib.hid hbb
        clear hbb
        go_upto_region 7 with fail
        go_cut [35] (fun s wx => s = .bool bb ∧ wx = wr.drew)
        case first =>
          rcases HBB.out with ⟨A, z, B, e, hA, hd⟩ | ⟨h0, hd⟩
          · obtain ⟨tp, rfl⟩ : ∃ tp, t = tp + 1 := ⟨t - 1, by omega⟩
            have hz := HVK.out.at1 (A.map Prod.fst) (B.map Prod.fst) z.1 (by rw [e]; simp) tp (by rw [List.length_map]; omega)
            have zk := hz.cl wr.drew (Ext.drew _) 8 _ rfl
            have xk := HXA.out.cl wr.drew (HEK.out.trans (Ext.drew _)) 8 _ rfl
            obtain rfl := HVK.out.ad (by omega)
            simp only [Nat.zero_add] at zk
            have HDD := Lib.hid hd
            have e1 : (0 : Int) ≤ (tp : Int) := by omega
            have e2 : (tp : Int) < (n : Int) := by omega
            have dt' : decide ((0 : Int) < (tp : Int) + 1) = true := decide_eq_true (by omega)
            clear e hA hz hd
            refine wp_region_segsK [([8, 1, 4, 3], 0, 0), ([4], 2, 16)] (by kernel_rfl) (by kernel_rfl) ?_
            apply segsK_pure
            · intro W
              simp only [runsT, runsF, rep, pick]
              go_wp2_with fail
              exact ⟨rfl, rfl⟩
            simp only [runsT, runsF, rep, left]
            apply segsK_look
            · simp only [runsT, runsF, rep, pick]
              go_wp2_with fail
              exact ⟨rfl, rfl⟩
            simp only [runsT, runsF, rep, left]
            apply segsK_nil
            go_wp2_with fail
            go_meet
            exact ⟨by rw [HDD.out], rfl⟩
          · have HDD := Lib.hid hd
            subst h0
            clear hd
            refine wp_region_segsK [([8, 1, 4, 3], 0, 0), ([4], 2, 16)] (by kernel_rfl) (by kernel_rfl) ?_
            apply segsK_pure
            · intro W
              simp only [runsT, runsF, rep, pick]
              repeat (first | go_values | go_skip | go_guarded | go_step)
              exact ⟨rfl, rfl⟩
            simp only [runsT, runsF, rep, left]
            apply segsK_look
            · simp only [runsT, runsF, rep, pick]
              repeat (first | go_values | go_skip | go_guarded | go_step)
              exact ⟨rfl, rfl⟩
            simp only [runsT, runsF, rep, left]
            apply segsK_nil
            go_wp2_with fail
            go_meet
            exact ⟨by rw [HDD.out], rfl⟩
        case rest =>
        obtain ⟨rfl, rfl⟩ := hcut
        cases bb with
        | true =>
          have HT := Lib.hid (show 1 ≤ t by rcases HBB.out with ⟨A, z, B, e, hA, hd⟩ | ⟨h0, hd⟩; omega; cases hd)
          obtain ⟨tp, rfl⟩ : ∃ tp, t = tp + 1 := ⟨t - 1, by have := HT.out; omega⟩
          go_wp2_with fail
          go_roundg tp
          case measure => omega
          case rel =>
            refine ⟨tp, by congr 1, by omega, Lib.hid ⟨HJ.out.1.trans (Ext.drew _), fun A' B' e' hA' z' hz' => ?_⟩, Nat.le_refl _⟩
            rcases HBB.out with ⟨A, z, B, e, hA, hd⟩ | ⟨h0, hd⟩
            · obtain ⟨rfl, rfl⟩ := List.append_inj (e'.symm.trans e) (by omega)
              rcases List.mem_cons.1 hz' with rfl | hz'
              · exact of_decide_eq_true hd
              · exact HJ.out.2 (A' ++ [z]) B (by rw [e]; simp) (by simp; omega) z' hz'
            · cases hd
        | false =>
          obtain ⟨A, B, eAB, hA⟩ : ∃ A B, L = A ++ B ∧ A.length = t := ⟨L.take t, L.drop t, (List.take_append_drop _ _).symm, by have := HLn.out; rw [List.length_take]; omega⟩
          have HP := Lib.hid (show Done (fun x => x.at_) (sel (fun x => decide (0 ≤ x.at_)) (S ++ [x])) (A ++ (x, S.length) :: B) from put_done HR.out.2.1 eAB HPX.out (fun R z e => by
            rcases HBB.out with ⟨A', z', B', e', hA', hd⟩ | ⟨h0, hd⟩
            · rw [eAB, e, List.append_assoc] at e'
              have := uniq_at e' (by rw [e] at hA; simp at hA; omega)
              rw [this]
              have := of_decide_eq_false hd
              show z'.1.at_ ≤ x.at_
              omega
            · rw [e] at hA; simp at hA; omega) (HJ.out.2 A B eAB hA))
          have HAB := Lib.hid (And.intro eAB hA)
          have HMA := Lib.hid (show (A.map Prod.fst).length = t ∧ (B.map Prod.fst).length = n - t ∧ L.map Prod.fst = A.map Prod.fst ++ B.map Prod.fst by
            have h1 := HLn.out
            rw [eAB, List.length_append] at h1
            refine ⟨by rw [List.length_map, hA], by rw [List.length_map]; omega, by rw [eAB, List.map_append]⟩)
          have lx := HXA.out
          have n60 : n ≤ 60 := by omega
          clear eAB hA lx
          cases av with
          | none =>
            obtain ⟨rfl, rfl⟩ := HNO.out rfl
            obtain rfl : t = 0 := by omega
            go_wp2_with fail
            refine wp_region_segsE (Ext wr) (.quiet [0, 1, 3, 1, 4, 2, 3, 2] (.alt 0 (.alt 0 (.alt 0 (.alt 0 (.alt 0 (.quiet [1] .done) .stop) .stop) .stop) (.alt 1 (.alt 0 (.alt 0 (.alt 0 (.quiet [1] .done) .stop) .stop) .stop) .stop)) (.alt 2 (.alt 0 (.alt 0 (.alt 0 (.alt 0 (.quiet [1] .done) .stop) .stop) .stop) .stop) .stop))) (by kernel_rfl) (by kernel_rfl) ((Ext.drew wr).trans (Ext.drew wr.drew)) ?_
            apply segE_quiet
            · intro W hW
              have lx := HXA.out.ld W (HEK.out.trans hW)
              simp only [runsT, runsF, rep, pick]
              go_wp2_with (first | refine Arr.wpList_ldA rfl _ _ rfl _ lx ?_)
              exact ⟨rfl, rfl⟩
            simp only [runsT, runsF, rep, left]
            refine segE_alt _ rfl ?_ ?_
            · skip
              refine lit0C rfl rfl ?_
              intro a_0 c_0 w_0 h_0 s_0
              have H_0 := Lib.hid h_0
              have S_0 := Lib.hid s_0
              have XE_0 := Lib.hid (((Ext.drew wr).trans (Ext.drew wr.drew)).trans s_0)
              clear h_0 s_0
              go_wp2_with fail
              refine ⟨XE_0.out, ?_⟩
              try dsimp only [List.eraseIdx]
              refine segE_alt _ rfl ?_ ?_
              · skip
                refine appC rfl (.tmp 38) (.tmp 41) rfl _ _ [] rfl H_0.out _ _ _ (A.map Prod.fst) rfl HMA.out.1 (fun _ => ⟨rfl, rfl⟩) (fun ad had => by cases had) (by first | (simp; done) | (simp; omega)) XE_0.out.size ?_
                intro a_4 c_4 w_4 h_4 g_4
                obtain ⟨L4, hL4⟩ : ∃ L, [] ++ A.map Prod.fst = L := ⟨_, rfl⟩
                rw [hL4] at h_4 ⊢
                have l4 : L4.length ≤ 60 := by rw [← hL4, List.nil_append, HMA.out.1]; omega
                have HL4 := Lib.hid hL4
                have G_4 := Lib.hid g_4
                have H_4 := Lib.hid h_4
                have XE_4 := Lib.hid (ext_grown XE_0.out H_0.out (Nat.le_refl _) g_4)
                clear h_4 g_4 hL4
                go_wp2_with fail
                refine ⟨XE_4.out, ?_⟩
                try dsimp only [List.eraseIdx]
                refine segE_alt _ rfl ?_ ?_
                · skip
                  refine lit1C rfl (.tmp 46) rfl x rfl ?_
                  intro a_9 c_9 w_9 h_9 s_9
                  have H_9 := Lib.hid h_9
                  have S_9 := Lib.hid s_9
                  have XE_9 := Lib.hid (XE_4.out.trans s_9)
                  clear h_9 s_9
                  go_wp2_with fail
                  refine ⟨XE_9.out, ?_⟩
                  try dsimp only [List.eraseIdx]
                  refine segE_alt _ rfl ?_ ?_
                  · skip
                    refine appC2 rfl (.tmp 42) (.tmp 47) rfl _ _ L4 rfl (H_4.out.ext S_9.out) _ _ [x] rfl H_9.out (by first | omega | (simp; done) | (simp; omega)) XE_9.out.size ?_
                    intro a_10 c_10 w_10 h_10 g_10
                    obtain ⟨L10, hL10⟩ : ∃ L, L4 ++ [x] = L := ⟨_, rfl⟩
                    rw [hL10] at h_10 ⊢
                    have l10 : L10.length ≤ 61 := by rw [← hL10]; simp; omega
                    have HL10 := Lib.hid hL10
                    have G_10 := Lib.hid g_10
                    have H_10 := Lib.hid h_10
                    have XE_10 := Lib.hid (ext_grown XE_9.out (H_4.out.ext S_9.out) (Nat.le_refl _) g_10)
                    clear h_10 g_10 hL10
                    go_wp2_with fail
                    refine ⟨XE_10.out, ?_⟩
                    try dsimp only [List.eraseIdx]
                    refine segE_alt _ rfl ?_ ?_
                    · skip
                      refine appC rfl (.tmp 48) (.tmp 51) rfl _ _ L10 rfl H_10.out _ _ _ (B.map Prod.fst) rfl (by rw [HMA.out.2.1]; try omega) (fun _ => ⟨rfl, rfl⟩) (fun ad had => by cases had) (by first | omega | (simp; done) | (simp; omega)) XE_10.out.size ?_
                      intro a_14 c_14 w_14 h_14 g_14
                      obtain ⟨L14, hL14⟩ : ∃ L, L10 ++ B.map Prod.fst = L := ⟨_, rfl⟩
                      rw [hL14] at h_14 ⊢
                      have HL14 := Lib.hid (show (A ++ (x, S.length) :: B).map Prod.fst = L14 by rw [← hL14, ← HL10.out, ← HL4.out]; simp)
                      have H_14 := Lib.hid h_14
                      have XE_14 := Lib.hid (ext_grown XE_10.out H_10.out (Nat.le_refl _) g_14)
                      clear h_14 g_14 hL14
                      go_wp2_with fail
                      refine ⟨XE_14.out, ?_⟩
                      try dsimp only [List.eraseIdx]
                      apply segE_quiet
                      · intro W hW
                        simp only [runsT, runsF, rep, pick]
                        go_wp2_with (first | refine Arr.wpList_ldA rfl _ _ rfl _ lx ?_)
                        exact ⟨rfl, rfl⟩
                      simp only [runsT, runsF, rep, left]
                      apply segE_done
                      go_wp2_with fail
                      go_roundg (len - (i + 1))
                      case measure => omega
                      case rel => exact ⟨i + 1, S ++ [x], R', A ++ (x, S.length) :: B, by go_num, by omega, Lib.hid ⟨by rw [HX.out.1]; simp, by rw [List.length_append, HX.out.2]; rfl⟩, Lib.hid ⟨by rw [HL14.out]; exact Row.RowG.base H_14.out HEK.out.size, HP.out, HEK.out.trans XE_14.out⟩, Nat.le_refl _⟩
                    exact segE_stop
                  exact segE_stop
                exact segE_stop
              refine segE_alt _ rfl ?_ ?_
              · skip
                refine lit1C rfl (.tmp 46) rfl x rfl ?_
                intro a_9 c_9 w_9 h_9 s_9
                have H_9 := Lib.hid h_9
                have S_9 := Lib.hid s_9
                have XE_9 := Lib.hid (XE_0.out.trans s_9)
                clear h_9 s_9
                go_wp2_with fail
                refine ⟨XE_9.out, ?_⟩
                try dsimp only [List.eraseIdx]
                refine segE_alt _ rfl ?_ ?_
                · skip
                  refine appC rfl (.tmp 38) (.tmp 41) rfl _ _ [] rfl (H_0.out.ext S_9.out) _ _ _ (A.map Prod.fst) rfl HMA.out.1 (fun _ => ⟨rfl, rfl⟩) (fun ad had => by cases had) (by first | (simp; done) | (simp; omega)) XE_9.out.size ?_
                  intro a_4 c_4 w_4 h_4 g_4
                  obtain ⟨L4, hL4⟩ : ∃ L, [] ++ A.map Prod.fst = L := ⟨_, rfl⟩
                  rw [hL4] at h_4 ⊢
                  have l4 : L4.length ≤ 60 := by rw [← hL4, List.nil_append, HMA.out.1]; omega
                  have HL4 := Lib.hid hL4
                  have G_4 := Lib.hid g_4
                  have H_4 := Lib.hid h_4
                  have XE_4 := Lib.hid (ext_grown XE_9.out (H_0.out.ext S_9.out) (Nat.le_refl _) g_4)
                  clear h_4 g_4 hL4
                  go_wp2_with fail
                  refine ⟨XE_4.out, ?_⟩
                  try dsimp only [List.eraseIdx]
                  refine segE_alt _ rfl ?_ ?_
                  · skip
                    refine appC2 rfl (.tmp 42) (.tmp 47) rfl _ _ L4 rfl H_4.out _ _ [x] rfl (Row.Own.kept (R := RC) H_9.out G_4.out (fun k hk hk5 => by have h1 := Row.Own.lt (R := RC) H_9.out k hk; have h2 := Row.Own.lt (R := RC) H_0.out k hk5; omega)) (by first | omega | (simp; done) | (simp; omega)) XE_4.out.size ?_
                    intro a_10 c_10 w_10 h_10 g_10
                    obtain ⟨L10, hL10⟩ : ∃ L, L4 ++ [x] = L := ⟨_, rfl⟩
                    rw [hL10] at h_10 ⊢
                    have l10 : L10.length ≤ 61 := by rw [← hL10]; simp; omega
                    have HL10 := Lib.hid hL10
                    have G_10 := Lib.hid g_10
                    have H_10 := Lib.hid h_10
                    have XE_10 := Lib.hid (ext_grown XE_4.out H_4.out (Nat.le_refl _) g_10)
                    clear h_10 g_10 hL10
                    go_wp2_with fail
                    refine ⟨XE_10.out, ?_⟩
                    try dsimp only [List.eraseIdx]
                    refine segE_alt _ rfl ?_ ?_
                    · skip
                      refine appC rfl (.tmp 48) (.tmp 51) rfl _ _ L10 rfl H_10.out _ _ _ (B.map Prod.fst) rfl (by rw [HMA.out.2.1]; try omega) (fun _ => ⟨rfl, rfl⟩) (fun ad had => by cases had) (by first | omega | (simp; done) | (simp; omega)) XE_10.out.size ?_
                      intro a_14 c_14 w_14 h_14 g_14
                      obtain ⟨L14, hL14⟩ : ∃ L, L10 ++ B.map Prod.fst = L := ⟨_, rfl⟩
                      rw [hL14] at h_14 ⊢
                      have HL14 := Lib.hid (show (A ++ (x, S.length) :: B).map Prod.fst = L14 by rw [← hL14, ← HL10.out, ← HL4.out]; simp)
                      have H_14 := Lib.hid h_14
                      have XE_14 := Lib.hid (ext_grown XE_10.out H_10.out (Nat.le_refl _) g_14)
                      clear h_14 g_14 hL14
                      go_wp2_with fail
                      refine ⟨XE_14.out, ?_⟩
                      try dsimp only [List.eraseIdx]
                      apply segE_quiet
                      · intro W hW
                        simp only [runsT, runsF, rep, pick]
                        go_wp2_with (first | refine Arr.wpList_ldA rfl _ _ rfl _ lx ?_)
                        exact ⟨rfl, rfl⟩
                      simp only [runsT, runsF, rep, left]
                      apply segE_done
                      go_wp2_with fail
                      go_roundg (len - (i + 1))
                      case measure => omega
                      case rel => exact ⟨i + 1, S ++ [x], R', A ++ (x, S.length) :: B, by go_num, by omega, Lib.hid ⟨by rw [HX.out.1]; simp, by rw [List.length_append, HX.out.2]; rfl⟩, Lib.hid ⟨by rw [HL14.out]; exact Row.RowG.base H_14.out HEK.out.size, HP.out, HEK.out.trans XE_14.out⟩, Nat.le_refl _⟩
                    exact segE_stop
                  exact segE_stop
                exact segE_stop
              exact segE_stop
            refine segE_alt _ rfl ?_ ?_
            · skip
              refine lit1C rfl (.tmp 46) rfl x rfl ?_
              intro a_9 c_9 w_9 h_9 s_9
              have H_9 := Lib.hid h_9
              have S_9 := Lib.hid s_9
              have XE_9 := Lib.hid (((Ext.drew wr).trans (Ext.drew wr.drew)).trans s_9)
              clear h_9 s_9
              go_wp2_with fail
              refine ⟨XE_9.out, ?_⟩
              try dsimp only [List.eraseIdx]
              refine segE_alt _ rfl ?_ ?_
              · skip
                refine lit0C rfl rfl ?_
                intro a_0 c_0 w_0 h_0 s_0
                have H_0 := Lib.hid h_0
                have S_0 := Lib.hid s_0
                have XE_0 := Lib.hid (XE_9.out.trans s_0)
                clear h_0 s_0
                go_wp2_with fail
                refine ⟨XE_0.out, ?_⟩
                try dsimp only [List.eraseIdx]
                refine segE_alt _ rfl ?_ ?_
                · skip
                  refine appC rfl (.tmp 38) (.tmp 41) rfl _ _ [] rfl H_0.out _ _ _ (A.map Prod.fst) rfl HMA.out.1 (fun _ => ⟨rfl, rfl⟩) (fun ad had => by cases had) (by first | (simp; done) | (simp; omega)) S_0.out.size ?_
                  intro a_4 c_4 w_4 h_4 g_4
                  obtain ⟨L4, hL4⟩ : ∃ L, [] ++ A.map Prod.fst = L := ⟨_, rfl⟩
                  rw [hL4] at h_4 ⊢
                  have l4 : L4.length ≤ 60 := by rw [← hL4, List.nil_append, HMA.out.1]; omega
                  have HL4 := Lib.hid hL4
                  have G_4 := Lib.hid g_4
                  have H_4 := Lib.hid h_4
                  have XE_4 := Lib.hid (ext_grown XE_0.out H_0.out XE_9.out.size g_4)
                  clear h_4 g_4 hL4
                  go_wp2_with fail
                  refine ⟨XE_4.out, ?_⟩
                  try dsimp only [List.eraseIdx]
                  refine segE_alt _ rfl ?_ ?_
                  · skip
                    refine appC2 rfl (.tmp 42) (.tmp 47) rfl _ _ L4 rfl H_4.out _ _ [x] rfl (Row.Own.kept (R := RC) (H_9.out.ext S_0.out) G_4.out (fun k hk hk5 => by have h1 := Row.Own.lt (R := RC) H_9.out k hk; have h2 := Row.Own.lt (R := RC) H_0.out k hk5; omega)) (by first | omega | (simp; done) | (simp; omega)) (Nat.le_trans S_0.out.size G_4.out.size) ?_
                    intro a_10 c_10 w_10 h_10 g_10
                    obtain ⟨L10, hL10⟩ : ∃ L, L4 ++ [x] = L := ⟨_, rfl⟩
                    rw [hL10] at h_10 ⊢
                    have l10 : L10.length ≤ 61 := by rw [← hL10]; simp; omega
                    have HL10 := Lib.hid hL10
                    have G_10 := Lib.hid g_10
                    have H_10 := Lib.hid h_10
                    have XE_10 := Lib.hid (ext_grown XE_4.out H_4.out XE_9.out.size g_10)
                    clear h_10 g_10 hL10
                    go_wp2_with fail
                    refine ⟨XE_10.out, ?_⟩
                    try dsimp only [List.eraseIdx]
                    refine segE_alt _ rfl ?_ ?_
                    · skip
                      refine appC rfl (.tmp 48) (.tmp 51) rfl _ _ L10 rfl H_10.out _ _ _ (B.map Prod.fst) rfl (by rw [HMA.out.2.1]; try omega) (fun _ => ⟨rfl, rfl⟩) (fun ad had => by cases had) (by first | omega | (simp; done) | (simp; omega)) (Nat.le_trans S_0.out.size (Nat.le_trans G_4.out.size G_10.out.size)) ?_
                      intro a_14 c_14 w_14 h_14 g_14
                      obtain ⟨L14, hL14⟩ : ∃ L, L10 ++ B.map Prod.fst = L := ⟨_, rfl⟩
                      rw [hL14] at h_14 ⊢
                      have HL14 := Lib.hid (show (A ++ (x, S.length) :: B).map Prod.fst = L14 by rw [← hL14, ← HL10.out, ← HL4.out]; simp)
                      have H_14 := Lib.hid h_14
                      have XE_14 := Lib.hid (ext_grown XE_10.out H_10.out XE_9.out.size g_14)
                      clear h_14 g_14 hL14
                      go_wp2_with fail
                      refine ⟨XE_14.out, ?_⟩
                      try dsimp only [List.eraseIdx]
                      apply segE_quiet
                      · intro W hW
                        simp only [runsT, runsF, rep, pick]
                        go_wp2_with (first | refine Arr.wpList_ldA rfl _ _ rfl _ lx ?_)
                        exact ⟨rfl, rfl⟩
                      simp only [runsT, runsF, rep, left]
                      apply segE_done
                      go_wp2_with fail
                      go_roundg (len - (i + 1))
                      case measure => omega
                      case rel => exact ⟨i + 1, S ++ [x], R', A ++ (x, S.length) :: B, by go_num, by omega, Lib.hid ⟨by rw [HX.out.1]; simp, by rw [List.length_append, HX.out.2]; rfl⟩, Lib.hid ⟨by rw [HL14.out]; exact Row.RowG.base H_14.out (HEK.out.trans XE_9.out).size, HP.out, HEK.out.trans XE_14.out⟩, Nat.le_refl _⟩
                    exact segE_stop
                  exact segE_stop
                exact segE_stop
              exact segE_stop
            exact segE_stop
          | some ad =>
            obtain rfl := HAD.out ad rfl
            by_cases hct : cv = t
            · subst hct
              obtain rfl : n = cv := by omega
              go_wp2_with fail
              refine wp_region_segsE (Ext wr) (.quiet [0, 1, 3, 1, 4, 2, 3, 2] (.alt 0 (.alt 0 (.alt 0 (.alt 0 (.alt 0 (.quiet [1] .done) .stop) .stop) .stop) (.alt 1 (.alt 0 (.alt 0 (.alt 0 (.quiet [1] .done) .stop) .stop) .stop) .stop)) (.alt 2 (.alt 0 (.alt 0 (.alt 0 (.alt 0 (.quiet [1] .done) .stop) .stop) .stop) .stop) .stop))) (by kernel_rfl) (by kernel_rfl) ((Ext.drew wr).trans (Ext.drew wr.drew)) ?_
              apply segE_quiet
              · intro W hW
                have lx := HXA.out.ld W (HEK.out.trans hW)
                simp only [runsT, runsF, rep, pick]
                go_wp2_with (first | refine Arr.wpList_ldA rfl _ _ rfl _ lx ?_)
                exact ⟨rfl, rfl⟩
              simp only [runsT, runsF, rep, left]
              refine segE_alt _ rfl ?_ ?_
              · skip
                refine lit0C rfl rfl ?_
                intro a_0 c_0 w_0 h_0 s_0
                have H_0 := Lib.hid h_0
                have S_0 := Lib.hid s_0
                have XE_0 := Lib.hid (((Ext.drew wr).trans (Ext.drew wr.drew)).trans s_0)
                clear h_0 s_0
                go_wp2_with fail
                refine ⟨XE_0.out, ?_⟩
                try dsimp only [List.eraseIdx]
                refine segE_alt _ rfl ?_ ?_
                · skip
                  refine appC rfl (.tmp 38) (.tmp 41) rfl _ _ [] rfl H_0.out _ _ _ (A.map Prod.fst) rfl HMA.out.1 (fun h => by cases h) (fun ad had j hj => by cases had; exact (by have h := HVK.out.take (i := n) (by omega); rw [HMA.out.2.2, List.take_left' HMA.out.1] at h; exact h.flat XE_0.out hj)) (by first | (simp; done) | (simp; omega)) XE_0.out.size ?_
                  intro a_4 c_4 w_4 h_4 g_4
                  obtain ⟨L4, hL4⟩ : ∃ L, [] ++ A.map Prod.fst = L := ⟨_, rfl⟩
                  rw [hL4] at h_4 ⊢
                  have l4 : L4.length ≤ 60 := by rw [← hL4, List.nil_append, HMA.out.1]; omega
                  have HL4 := Lib.hid hL4
                  have G_4 := Lib.hid g_4
                  have H_4 := Lib.hid h_4
                  have XE_4 := Lib.hid (ext_grown XE_0.out H_0.out (Nat.le_refl _) g_4)
                  clear h_4 g_4 hL4
                  go_wp2_with fail
                  refine ⟨XE_4.out, ?_⟩
                  try dsimp only [List.eraseIdx]
                  refine segE_alt _ rfl ?_ ?_
                  · skip
                    refine lit1C rfl (.tmp 46) rfl x rfl ?_
                    intro a_9 c_9 w_9 h_9 s_9
                    have H_9 := Lib.hid h_9
                    have S_9 := Lib.hid s_9
                    have XE_9 := Lib.hid (XE_4.out.trans s_9)
                    clear h_9 s_9
                    go_wp2_with fail
                    refine ⟨XE_9.out, ?_⟩
                    try dsimp only [List.eraseIdx]
                    refine segE_alt _ rfl ?_ ?_
                    · skip
                      refine appC2 rfl (.tmp 42) (.tmp 47) rfl _ _ L4 rfl (H_4.out.ext S_9.out) _ _ [x] rfl H_9.out (by first | omega | (simp; done) | (simp; omega)) XE_9.out.size ?_
                      intro a_10 c_10 w_10 h_10 g_10
                      obtain ⟨L10, hL10⟩ : ∃ L, L4 ++ [x] = L := ⟨_, rfl⟩
                      rw [hL10] at h_10 ⊢
                      have l10 : L10.length ≤ 61 := by rw [← hL10]; simp; omega
                      have HL10 := Lib.hid hL10
                      have G_10 := Lib.hid g_10
                      have H_10 := Lib.hid h_10
                      have XE_10 := Lib.hid (ext_grown XE_9.out (H_4.out.ext S_9.out) (Nat.le_refl _) g_10)
                      clear h_10 g_10 hL10
                      go_wp2_with fail
                      refine ⟨XE_10.out, ?_⟩
                      try dsimp only [List.eraseIdx]
                      refine segE_alt _ rfl ?_ ?_
                      · skip
                        refine appC rfl (.tmp 48) (.tmp 51) rfl _ _ L10 rfl H_10.out _ _ _ (B.map Prod.fst) rfl (by rw [HMA.out.2.1]; try omega) (fun h => by cases h) (fun ad had j hj => absurd hj (by omega)) (by first | omega | (simp; done) | (simp; omega)) XE_10.out.size ?_
                        intro a_14 c_14 w_14 h_14 g_14
                        obtain ⟨L14, hL14⟩ : ∃ L, L10 ++ B.map Prod.fst = L := ⟨_, rfl⟩
                        rw [hL14] at h_14 ⊢
                        have HL14 := Lib.hid (show (A ++ (x, S.length) :: B).map Prod.fst = L14 by rw [← hL14, ← HL10.out, ← HL4.out]; simp)
                        have H_14 := Lib.hid h_14
                        have XE_14 := Lib.hid (ext_grown XE_10.out H_10.out (Nat.le_refl _) g_14)
                        clear h_14 g_14 hL14
                        go_wp2_with fail
                        refine ⟨XE_14.out, ?_⟩
                        try dsimp only [List.eraseIdx]
                        apply segE_quiet
                        · intro W hW
                          simp only [runsT, runsF, rep, pick]
                          go_wp2_with (first | refine Arr.wpList_ldA rfl _ _ rfl _ lx ?_)
                          exact ⟨rfl, rfl⟩
                        simp only [runsT, runsF, rep, left]
                        apply segE_done
                        go_wp2_with fail
                        go_roundg (len - (i + 1))
                        case measure => omega
                        case rel => exact ⟨i + 1, S ++ [x], R', A ++ (x, S.length) :: B, by go_num, by omega, Lib.hid ⟨by rw [HX.out.1]; simp, by rw [List.length_append, HX.out.2]; rfl⟩, Lib.hid ⟨by rw [HL14.out]; exact Row.RowG.base H_14.out HEK.out.size, HP.out, HEK.out.trans XE_14.out⟩, Nat.le_refl _⟩
                      exact segE_stop
                    exact segE_stop
                  exact segE_stop
                refine segE_alt _ rfl ?_ ?_
                · skip
                  refine lit1C rfl (.tmp 46) rfl x rfl ?_
                  intro a_9 c_9 w_9 h_9 s_9
                  have H_9 := Lib.hid h_9
                  have S_9 := Lib.hid s_9
                  have XE_9 := Lib.hid (XE_0.out.trans s_9)
                  clear h_9 s_9
                  go_wp2_with fail
                  refine ⟨XE_9.out, ?_⟩
                  try dsimp only [List.eraseIdx]
                  refine segE_alt _ rfl ?_ ?_
                  · skip
                    refine appC rfl (.tmp 38) (.tmp 41) rfl _ _ [] rfl (H_0.out.ext S_9.out) _ _ _ (A.map Prod.fst) rfl HMA.out.1 (fun h => by cases h) (fun ad had j hj => by cases had; exact (by have h := HVK.out.take (i := n) (by omega); rw [HMA.out.2.2, List.take_left' HMA.out.1] at h; exact h.flat XE_9.out hj)) (by first | (simp; done) | (simp; omega)) XE_9.out.size ?_
                    intro a_4 c_4 w_4 h_4 g_4
                    obtain ⟨L4, hL4⟩ : ∃ L, [] ++ A.map Prod.fst = L := ⟨_, rfl⟩
                    rw [hL4] at h_4 ⊢
                    have l4 : L4.length ≤ 60 := by rw [← hL4, List.nil_append, HMA.out.1]; omega
                    have HL4 := Lib.hid hL4
                    have G_4 := Lib.hid g_4
                    have H_4 := Lib.hid h_4
                    have XE_4 := Lib.hid (ext_grown XE_9.out (H_0.out.ext S_9.out) (Nat.le_refl _) g_4)
                    clear h_4 g_4 hL4
                    go_wp2_with fail
                    refine ⟨XE_4.out, ?_⟩
                    try dsimp only [List.eraseIdx]
                    refine segE_alt _ rfl ?_ ?_
                    · skip
                      refine appC2 rfl (.tmp 42) (.tmp 47) rfl _ _ L4 rfl H_4.out _ _ [x] rfl (Row.Own.kept (R := RC) H_9.out G_4.out (fun k hk hk5 => by have h1 := Row.Own.lt (R := RC) H_9.out k hk; have h2 := Row.Own.lt (R := RC) H_0.out k hk5; omega)) (by first | omega | (simp; done) | (simp; omega)) XE_4.out.size ?_
                      intro a_10 c_10 w_10 h_10 g_10
                      obtain ⟨L10, hL10⟩ : ∃ L, L4 ++ [x] = L := ⟨_, rfl⟩
                      rw [hL10] at h_10 ⊢
                      have l10 : L10.length ≤ 61 := by rw [← hL10]; simp; omega
                      have HL10 := Lib.hid hL10
                      have G_10 := Lib.hid g_10
                      have H_10 := Lib.hid h_10
                      have XE_10 := Lib.hid (ext_grown XE_4.out H_4.out (Nat.le_refl _) g_10)
                      clear h_10 g_10 hL10
                      go_wp2_with fail
                      refine ⟨XE_10.out, ?_⟩
                      try dsimp only [List.eraseIdx]
                      refine segE_alt _ rfl ?_ ?_
                      · skip
                        refine appC rfl (.tmp 48) (.tmp 51) rfl _ _ L10 rfl H_10.out _ _ _ (B.map Prod.fst) rfl (by rw [HMA.out.2.1]; try omega) (fun h => by cases h) (fun ad had j hj => absurd hj (by omega)) (by first | omega | (simp; done) | (simp; omega)) XE_10.out.size ?_
                        intro a_14 c_14 w_14 h_14 g_14
                        obtain ⟨L14, hL14⟩ : ∃ L, L10 ++ B.map Prod.fst = L := ⟨_, rfl⟩
                        rw [hL14] at h_14 ⊢
                        have HL14 := Lib.hid (show (A ++ (x, S.length) :: B).map Prod.fst = L14 by rw [← hL14, ← HL10.out, ← HL4.out]; simp)
                        have H_14 := Lib.hid h_14
                        have XE_14 := Lib.hid (ext_grown XE_10.out H_10.out (Nat.le_refl _) g_14)
                        clear h_14 g_14 hL14
                        go_wp2_with fail
                        refine ⟨XE_14.out, ?_⟩
                        try dsimp only [List.eraseIdx]
                        apply segE_quiet
                        · intro W hW
                          simp only [runsT, runsF, rep, pick]
                          go_wp2_with (first | refine Arr.wpList_ldA rfl _ _ rfl _ lx ?_)
                          exact ⟨rfl, rfl⟩
                        simp only [runsT, runsF, rep, left]
                        apply segE_done
                        go_wp2_with fail
                        go_roundg (len - (i + 1))
                        case measure => omega
                        case rel => exact ⟨i + 1, S ++ [x], R', A ++ (x, S.length) :: B, by go_num, by omega, Lib.hid ⟨by rw [HX.out.1]; simp, by rw [List.length_append, HX.out.2]; rfl⟩, Lib.hid ⟨by rw [HL14.out]; exact Row.RowG.base H_14.out HEK.out.size, HP.out, HEK.out.trans XE_14.out⟩, Nat.le_refl _⟩
                      exact segE_stop
                    exact segE_stop
                  exact segE_stop
                exact segE_stop
              refine segE_alt _ rfl ?_ ?_
              · skip
                refine lit1C rfl (.tmp 46) rfl x rfl ?_
                intro a_9 c_9 w_9 h_9 s_9
                have H_9 := Lib.hid h_9
                have S_9 := Lib.hid s_9
                have XE_9 := Lib.hid (((Ext.drew wr).trans (Ext.drew wr.drew)).trans s_9)
                clear h_9 s_9
                go_wp2_with fail
                refine ⟨XE_9.out, ?_⟩
                try dsimp only [List.eraseIdx]
                refine segE_alt _ rfl ?_ ?_
                · skip
                  refine lit0C rfl rfl ?_
                  intro a_0 c_0 w_0 h_0 s_0
                  have H_0 := Lib.hid h_0
                  have S_0 := Lib.hid s_0
                  have XE_0 := Lib.hid (XE_9.out.trans s_0)
                  clear h_0 s_0
                  go_wp2_with fail
                  refine ⟨XE_0.out, ?_⟩
                  try dsimp only [List.eraseIdx]
                  refine segE_alt _ rfl ?_ ?_
                  · skip
                    refine appC rfl (.tmp 38) (.tmp 41) rfl _ _ [] rfl H_0.out _ _ _ (A.map Prod.fst) rfl HMA.out.1 (fun h => by cases h) (fun ad had j hj => by cases had; exact (by have h := HVK.out.take (i := n) (by omega); rw [HMA.out.2.2, List.take_left' HMA.out.1] at h; exact h.flat XE_0.out hj)) (by first | (simp; done) | (simp; omega)) S_0.out.size ?_
                    intro a_4 c_4 w_4 h_4 g_4
                    obtain ⟨L4, hL4⟩ : ∃ L, [] ++ A.map Prod.fst = L := ⟨_, rfl⟩
                    rw [hL4] at h_4 ⊢
                    have l4 : L4.length ≤ 60 := by rw [← hL4, List.nil_append, HMA.out.1]; omega
                    have HL4 := Lib.hid hL4
                    have G_4 := Lib.hid g_4
                    have H_4 := Lib.hid h_4
                    have XE_4 := Lib.hid (ext_grown XE_0.out H_0.out XE_9.out.size g_4)
                    clear h_4 g_4 hL4
                    go_wp2_with fail
                    refine ⟨XE_4.out, ?_⟩
                    try dsimp only [List.eraseIdx]
                    refine segE_alt _ rfl ?_ ?_
                    · skip
                      refine appC2 rfl (.tmp 42) (.tmp 47) rfl _ _ L4 rfl H_4.out _ _ [x] rfl (Row.Own.kept (R := RC) (H_9.out.ext S_0.out) G_4.out (fun k hk hk5 => by have h1 := Row.Own.lt (R := RC) H_9.out k hk; have h2 := Row.Own.lt (R := RC) H_0.out k hk5; omega)) (by first | omega | (simp; done) | (simp; omega)) (Nat.le_trans S_0.out.size G_4.out.size) ?_
                      intro a_10 c_10 w_10 h_10 g_10
                      obtain ⟨L10, hL10⟩ : ∃ L, L4 ++ [x] = L := ⟨_, rfl⟩
                      rw [hL10] at h_10 ⊢
                      have l10 : L10.length ≤ 61 := by rw [← hL10]; simp; omega
                      have HL10 := Lib.hid hL10
                      have G_10 := Lib.hid g_10
                      have H_10 := Lib.hid h_10
                      have XE_10 := Lib.hid (ext_grown XE_4.out H_4.out XE_9.out.size g_10)
                      clear h_10 g_10 hL10
                      go_wp2_with fail
                      refine ⟨XE_10.out, ?_⟩
                      try dsimp only [List.eraseIdx]
                      refine segE_alt _ rfl ?_ ?_
                      · skip
                        refine appC rfl (.tmp 48) (.tmp 51) rfl _ _ L10 rfl H_10.out _ _ _ (B.map Prod.fst) rfl (by rw [HMA.out.2.1]; try omega) (fun h => by cases h) (fun ad had j hj => absurd hj (by omega)) (by first | omega | (simp; done) | (simp; omega)) (Nat.le_trans S_0.out.size (Nat.le_trans G_4.out.size G_10.out.size)) ?_
                        intro a_14 c_14 w_14 h_14 g_14
                        obtain ⟨L14, hL14⟩ : ∃ L, L10 ++ B.map Prod.fst = L := ⟨_, rfl⟩
                        rw [hL14] at h_14 ⊢
                        have HL14 := Lib.hid (show (A ++ (x, S.length) :: B).map Prod.fst = L14 by rw [← hL14, ← HL10.out, ← HL4.out]; simp)
                        have H_14 := Lib.hid h_14
                        have XE_14 := Lib.hid (ext_grown XE_10.out H_10.out XE_9.out.size g_14)
                        clear h_14 g_14 hL14
                        go_wp2_with fail
                        refine ⟨XE_14.out, ?_⟩
                        try dsimp only [List.eraseIdx]
                        apply segE_quiet
                        · intro W hW
                          simp only [runsT, runsF, rep, pick]
                          go_wp2_with (first | refine Arr.wpList_ldA rfl _ _ rfl _ lx ?_)
                          exact ⟨rfl, rfl⟩
                        simp only [runsT, runsF, rep, left]
                        apply segE_done
                        go_wp2_with fail
                        go_roundg (len - (i + 1))
                        case measure => omega
                        case rel => exact ⟨i + 1, S ++ [x], R', A ++ (x, S.length) :: B, by go_num, by omega, Lib.hid ⟨by rw [HX.out.1]; simp, by rw [List.length_append, HX.out.2]; rfl⟩, Lib.hid ⟨by rw [HL14.out]; exact Row.RowG.base H_14.out (HEK.out.trans XE_9.out).size, HP.out, HEK.out.trans XE_14.out⟩, Nat.le_refl _⟩
                      exact segE_stop
                    exact segE_stop
                  exact segE_stop
                exact segE_stop
              exact segE_stop
            · have htc : t < cv := by omega
              go_wp2_with fail
              refine wp_region_segsE (Ext wr) (.quiet [0, 1, 3, 1, 4, 2, 3, 2] (.alt 0 (.alt 0 (.alt 0 (.alt 0 (.alt 0 (.quiet [1] .done) .stop) .stop) .stop) (.alt 1 (.alt 0 (.alt 0 (.alt 0 (.quiet [1] .done) .stop) .stop) .stop) .stop)) (.alt 2 (.alt 0 (.alt 0 (.alt 0 (.alt 0 (.quiet [1] .done) .stop) .stop) .stop) .stop) .stop))) (by kernel_rfl) (by kernel_rfl) ((Ext.drew wr).trans (Ext.drew wr.drew)) ?_
              apply segE_quiet
              · intro W hW
                have lx := HXA.out.ld W (HEK.out.trans hW)
                simp only [runsT, runsF, rep, pick]
                go_wp2_with (first | refine Arr.wpList_ldA rfl _ _ rfl _ lx ?_)
                exact ⟨rfl, rfl⟩
              simp only [runsT, runsF, rep, left]
              refine segE_alt _ rfl ?_ ?_
              · skip
                refine lit0C rfl rfl ?_
                intro a_0 c_0 w_0 h_0 s_0
                have H_0 := Lib.hid h_0
                have S_0 := Lib.hid s_0
                have XE_0 := Lib.hid (((Ext.drew wr).trans (Ext.drew wr.drew)).trans s_0)
                clear h_0 s_0
                go_wp2_with fail
                refine ⟨XE_0.out, ?_⟩
                try dsimp only [List.eraseIdx]
                refine segE_alt _ rfl ?_ ?_
                · skip
                  refine appC rfl (.tmp 38) (.tmp 41) rfl _ _ [] rfl H_0.out _ _ _ (A.map Prod.fst) rfl HMA.out.1 (fun h => by cases h) (fun ad had j hj => by cases had; exact (by have h := HVK.out.take (i := t) (by omega); rw [HMA.out.2.2, List.take_left' HMA.out.1] at h; exact h.flat XE_0.out hj)) (by first | (simp; done) | (simp; omega)) XE_0.out.size ?_
                  intro a_4 c_4 w_4 h_4 g_4
                  obtain ⟨L4, hL4⟩ : ∃ L, [] ++ A.map Prod.fst = L := ⟨_, rfl⟩
                  rw [hL4] at h_4 ⊢
                  have l4 : L4.length ≤ 60 := by rw [← hL4, List.nil_append, HMA.out.1]; omega
                  have HL4 := Lib.hid hL4
                  have G_4 := Lib.hid g_4
                  have H_4 := Lib.hid h_4
                  have XE_4 := Lib.hid (ext_grown XE_0.out H_0.out (Nat.le_refl _) g_4)
                  clear h_4 g_4 hL4
                  go_wp2_with fail
                  refine ⟨XE_4.out, ?_⟩
                  try dsimp only [List.eraseIdx]
                  refine segE_alt _ rfl ?_ ?_
                  · skip
                    refine lit1C rfl (.tmp 46) rfl x rfl ?_
                    intro a_9 c_9 w_9 h_9 s_9
                    have H_9 := Lib.hid h_9
                    have S_9 := Lib.hid s_9
                    have XE_9 := Lib.hid (XE_4.out.trans s_9)
                    clear h_9 s_9
                    go_wp2_with fail
                    refine ⟨XE_9.out, ?_⟩
                    try dsimp only [List.eraseIdx]
                    refine segE_alt _ rfl ?_ ?_
                    · skip
                      refine appC2 rfl (.tmp 42) (.tmp 47) rfl _ _ L4 rfl (H_4.out.ext S_9.out) _ _ [x] rfl H_9.out (by first | omega | (simp; done) | (simp; omega)) XE_9.out.size ?_
                      intro a_10 c_10 w_10 h_10 g_10
                      obtain ⟨L10, hL10⟩ : ∃ L, L4 ++ [x] = L := ⟨_, rfl⟩
                      rw [hL10] at h_10 ⊢
                      have l10 : L10.length ≤ 61 := by rw [← hL10]; simp; omega
                      have HL10 := Lib.hid hL10
                      have G_10 := Lib.hid g_10
                      have H_10 := Lib.hid h_10
                      have XE_10 := Lib.hid (ext_grown XE_9.out (H_4.out.ext S_9.out) (Nat.le_refl _) g_10)
                      clear h_10 g_10 hL10
                      go_wp2_with fail
                      refine ⟨XE_10.out, ?_⟩
                      try dsimp only [List.eraseIdx]
                      refine segE_alt _ rfl ?_ ?_
                      · skip
                        refine appC rfl (.tmp 48) (.tmp 51) rfl _ _ L10 rfl H_10.out _ _ _ (B.map Prod.fst) rfl (by rw [HMA.out.2.1]; try omega) (fun h => by cases h) (fun ad had j hj => by cases had; exact (by have h := HVK.out.drop (i := t); rw [HMA.out.2.2, List.drop_left' HMA.out.1] at h; simp only [Nat.zero_add] at h; exact h.flat XE_10.out hj)) (by first | omega | (simp; done) | (simp; omega)) XE_10.out.size ?_
                        intro a_14 c_14 w_14 h_14 g_14
                        obtain ⟨L14, hL14⟩ : ∃ L, L10 ++ B.map Prod.fst = L := ⟨_, rfl⟩
                        rw [hL14] at h_14 ⊢
                        have HL14 := Lib.hid (show (A ++ (x, S.length) :: B).map Prod.fst = L14 by rw [← hL14, ← HL10.out, ← HL4.out]; simp)
                        have H_14 := Lib.hid h_14
                        have XE_14 := Lib.hid (ext_grown XE_10.out H_10.out (Nat.le_refl _) g_14)
                        clear h_14 g_14 hL14
                        go_wp2_with fail
                        refine ⟨XE_14.out, ?_⟩
                        try dsimp only [List.eraseIdx]
                        apply segE_quiet
                        · intro W hW
                          simp only [runsT, runsF, rep, pick]
                          go_wp2_with (first | refine Arr.wpList_ldA rfl _ _ rfl _ lx ?_)
                          exact ⟨rfl, rfl⟩
                        simp only [runsT, runsF, rep, left]
                        apply segE_done
                        go_wp2_with fail
                        go_roundg (len - (i + 1))
                        case measure => omega
                        case rel => exact ⟨i + 1, S ++ [x], R', A ++ (x, S.length) :: B, by go_num, by omega, Lib.hid ⟨by rw [HX.out.1]; simp, by rw [List.length_append, HX.out.2]; rfl⟩, Lib.hid ⟨by rw [HL14.out]; exact Row.RowG.base H_14.out HEK.out.size, HP.out, HEK.out.trans XE_14.out⟩, Nat.le_refl _⟩
                      exact segE_stop
                    exact segE_stop
                  exact segE_stop
                refine segE_alt _ rfl ?_ ?_
                · skip
                  refine lit1C rfl (.tmp 46) rfl x rfl ?_
                  intro a_9 c_9 w_9 h_9 s_9
                  have H_9 := Lib.hid h_9
                  have S_9 := Lib.hid s_9
                  have XE_9 := Lib.hid (XE_0.out.trans s_9)
                  clear h_9 s_9
                  go_wp2_with fail
                  refine ⟨XE_9.out, ?_⟩
                  try dsimp only [List.eraseIdx]
                  refine segE_alt _ rfl ?_ ?_
                  · skip
                    refine appC rfl (.tmp 38) (.tmp 41) rfl _ _ [] rfl (H_0.out.ext S_9.out) _ _ _ (A.map Prod.fst) rfl HMA.out.1 (fun h => by cases h) (fun ad had j hj => by cases had; exact (by have h := HVK.out.take (i := t) (by omega); rw [HMA.out.2.2, List.take_left' HMA.out.1] at h; exact h.flat XE_9.out hj)) (by first | (simp; done) | (simp; omega)) XE_9.out.size ?_
                    intro a_4 c_4 w_4 h_4 g_4
                    obtain ⟨L4, hL4⟩ : ∃ L, [] ++ A.map Prod.fst = L := ⟨_, rfl⟩
                    rw [hL4] at h_4 ⊢
                    have l4 : L4.length ≤ 60 := by rw [← hL4, List.nil_append, HMA.out.1]; omega
                    have HL4 := Lib.hid hL4
                    have G_4 := Lib.hid g_4
                    have H_4 := Lib.hid h_4
                    have XE_4 := Lib.hid (ext_grown XE_9.out (H_0.out.ext S_9.out) (Nat.le_refl _) g_4)
                    clear h_4 g_4 hL4
                    go_wp2_with fail
                    refine ⟨XE_4.out, ?_⟩
                    try dsimp only [List.eraseIdx]
                    refine segE_alt _ rfl ?_ ?_
                    · skip
                      refine appC2 rfl (.tmp 42) (.tmp 47) rfl _ _ L4 rfl H_4.out _ _ [x] rfl (Row.Own.kept (R := RC) H_9.out G_4.out (fun k hk hk5 => by have h1 := Row.Own.lt (R := RC) H_9.out k hk; have h2 := Row.Own.lt (R := RC) H_0.out k hk5; omega)) (by first | omega | (simp; done) | (simp; omega)) XE_4.out.size ?_
                      intro a_10 c_10 w_10 h_10 g_10
                      obtain ⟨L10, hL10⟩ : ∃ L, L4 ++ [x] = L := ⟨_, rfl⟩
                      rw [hL10] at h_10 ⊢
                      have l10 : L10.length ≤ 61 := by rw [← hL10]; simp; omega
                      have HL10 := Lib.hid hL10
                      have G_10 := Lib.hid g_10
                      have H_10 := Lib.hid h_10
                      have XE_10 := Lib.hid (ext_grown XE_4.out H_4.out (Nat.le_refl _) g_10)
                      clear h_10 g_10 hL10
                      go_wp2_with fail
                      refine ⟨XE_10.out, ?_⟩
                      try dsimp only [List.eraseIdx]
                      refine segE_alt _ rfl ?_ ?_
                      · skip
                        refine appC rfl (.tmp 48) (.tmp 51) rfl _ _ L10 rfl H_10.out _ _ _ (B.map Prod.fst) rfl (by rw [HMA.out.2.1]; try omega) (fun h => by cases h) (fun ad had j hj => by cases had; exact (by have h := HVK.out.drop (i := t); rw [HMA.out.2.2, List.drop_left' HMA.out.1] at h; simp only [Nat.zero_add] at h; exact h.flat XE_10.out hj)) (by first | omega | (simp; done) | (simp; omega)) XE_10.out.size ?_
                        intro a_14 c_14 w_14 h_14 g_14
                        obtain ⟨L14, hL14⟩ : ∃ L, L10 ++ B.map Prod.fst = L := ⟨_, rfl⟩
                        rw [hL14] at h_14 ⊢
                        have HL14 := Lib.hid (show (A ++ (x, S.length) :: B).map Prod.fst = L14 by rw [← hL14, ← HL10.out, ← HL4.out]; simp)
                        have H_14 := Lib.hid h_14
                        have XE_14 := Lib.hid (ext_grown XE_10.out H_10.out (Nat.le_refl _) g_14)
                        clear h_14 g_14 hL14
                        go_wp2_with fail
                        refine ⟨XE_14.out, ?_⟩
                        try dsimp only [List.eraseIdx]
                        apply segE_quiet
                        · intro W hW
                          simp only [runsT, runsF, rep, pick]
                          go_wp2_with (first | refine Arr.wpList_ldA rfl _ _ rfl _ lx ?_)
                          exact ⟨rfl, rfl⟩
                        simp only [runsT, runsF, rep, left]
                        apply segE_done
                        go_wp2_with fail
                        go_roundg (len - (i + 1))
                        case measure => omega
                        case rel => exact ⟨i + 1, S ++ [x], R', A ++ (x, S.length) :: B, by go_num, by omega, Lib.hid ⟨by rw [HX.out.1]; simp, by rw [List.length_append, HX.out.2]; rfl⟩, Lib.hid ⟨by rw [HL14.out]; exact Row.RowG.base H_14.out HEK.out.size, HP.out, HEK.out.trans XE_14.out⟩, Nat.le_refl _⟩
                      exact segE_stop
                    exact segE_stop
                  exact segE_stop
                exact segE_stop
              refine segE_alt _ rfl ?_ ?_
              · skip
                refine lit1C rfl (.tmp 46) rfl x rfl ?_
                intro a_9 c_9 w_9 h_9 s_9
                have H_9 := Lib.hid h_9
                have S_9 := Lib.hid s_9
                have XE_9 := Lib.hid (((Ext.drew wr).trans (Ext.drew wr.drew)).trans s_9)
                clear h_9 s_9
                go_wp2_with fail
                refine ⟨XE_9.out, ?_⟩
                try dsimp only [List.eraseIdx]
                refine segE_alt _ rfl ?_ ?_
                · skip
                  refine lit0C rfl rfl ?_
                  intro a_0 c_0 w_0 h_0 s_0
                  have H_0 := Lib.hid h_0
                  have S_0 := Lib.hid s_0
                  have XE_0 := Lib.hid (XE_9.out.trans s_0)
                  clear h_0 s_0
                  go_wp2_with fail
                  refine ⟨XE_0.out, ?_⟩
                  try dsimp only [List.eraseIdx]
                  refine segE_alt _ rfl ?_ ?_
                  · skip
                    refine appC rfl (.tmp 38) (.tmp 41) rfl _ _ [] rfl H_0.out _ _ _ (A.map Prod.fst) rfl HMA.out.1 (fun h => by cases h) (fun ad had j hj => by cases had; exact (by have h := HVK.out.take (i := t) (by omega); rw [HMA.out.2.2, List.take_left' HMA.out.1] at h; exact h.flat XE_0.out hj)) (by first | (simp; done) | (simp; omega)) S_0.out.size ?_
                    intro a_4 c_4 w_4 h_4 g_4
                    obtain ⟨L4, hL4⟩ : ∃ L, [] ++ A.map Prod.fst = L := ⟨_, rfl⟩
                    rw [hL4] at h_4 ⊢
                    have l4 : L4.length ≤ 60 := by rw [← hL4, List.nil_append, HMA.out.1]; omega
                    have HL4 := Lib.hid hL4
                    have G_4 := Lib.hid g_4
                    have H_4 := Lib.hid h_4
                    have XE_4 := Lib.hid (ext_grown XE_0.out H_0.out XE_9.out.size g_4)
                    clear h_4 g_4 hL4
                    go_wp2_with fail
                    refine ⟨XE_4.out, ?_⟩
                    try dsimp only [List.eraseIdx]
                    refine segE_alt _ rfl ?_ ?_
                    · skip
                      refine appC2 rfl (.tmp 42) (.tmp 47) rfl _ _ L4 rfl H_4.out _ _ [x] rfl (Row.Own.kept (R := RC) (H_9.out.ext S_0.out) G_4.out (fun k hk hk5 => by have h1 := Row.Own.lt (R := RC) H_9.out k hk; have h2 := Row.Own.lt (R := RC) H_0.out k hk5; omega)) (by first | omega | (simp; done) | (simp; omega)) (Nat.le_trans S_0.out.size G_4.out.size) ?_
                      intro a_10 c_10 w_10 h_10 g_10
                      obtain ⟨L10, hL10⟩ : ∃ L, L4 ++ [x] = L := ⟨_, rfl⟩
                      rw [hL10] at h_10 ⊢
                      have l10 : L10.length ≤ 61 := by rw [← hL10]; simp; omega
                      have HL10 := Lib.hid hL10
                      have G_10 := Lib.hid g_10
                      have H_10 := Lib.hid h_10
                      have XE_10 := Lib.hid (ext_grown XE_4.out H_4.out XE_9.out.size g_10)
                      clear h_10 g_10 hL10
                      go_wp2_with fail
                      refine ⟨XE_10.out, ?_⟩
                      try dsimp only [List.eraseIdx]
                      refine segE_alt _ rfl ?_ ?_
                      · skip
                        refine appC rfl (.tmp 48) (.tmp 51) rfl _ _ L10 rfl H_10.out _ _ _ (B.map Prod.fst) rfl (by rw [HMA.out.2.1]; try omega) (fun h => by cases h) (fun ad had j hj => by cases had; exact (by have h := HVK.out.drop (i := t); rw [HMA.out.2.2, List.drop_left' HMA.out.1] at h; simp only [Nat.zero_add] at h; exact h.flat XE_10.out hj)) (by first | omega | (simp; done) | (simp; omega)) (Nat.le_trans S_0.out.size (Nat.le_trans G_4.out.size G_10.out.size)) ?_
                        intro a_14 c_14 w_14 h_14 g_14
                        obtain ⟨L14, hL14⟩ : ∃ L, L10 ++ B.map Prod.fst = L := ⟨_, rfl⟩
                        rw [hL14] at h_14 ⊢
                        have HL14 := Lib.hid (show (A ++ (x, S.length) :: B).map Prod.fst = L14 by rw [← hL14, ← HL10.out, ← HL4.out]; simp)
                        have H_14 := Lib.hid h_14
                        have XE_14 := Lib.hid (ext_grown XE_10.out H_10.out XE_9.out.size g_14)
                        clear h_14 g_14 hL14
                        go_wp2_with fail
                        refine ⟨XE_14.out, ?_⟩
                        try dsimp only [List.eraseIdx]
                        apply segE_quiet
                        · intro W hW
                          simp only [runsT, runsF, rep, pick]
                          go_wp2_with (first | refine Arr.wpList_ldA rfl _ _ rfl _ lx ?_)
                          exact ⟨rfl, rfl⟩
                        simp only [runsT, runsF, rep, left]
                        apply segE_done
                        go_wp2_with fail
                        go_roundg (len - (i + 1))
                        case measure => omega
                        case rel => exact ⟨i + 1, S ++ [x], R', A ++ (x, S.length) :: B, by go_num, by omega, Lib.hid ⟨by rw [HX.out.1]; simp, by rw [List.length_append, HX.out.2]; rfl⟩, Lib.hid ⟨by rw [HL14.out]; exact Row.RowG.base H_14.out (HEK.out.trans XE_9.out).size, HP.out, HEK.out.trans XE_14.out⟩, Nat.le_refl _⟩
                      exact segE_stop
                    exact segE_stop
                  exact segE_stop
                exact segE_stop
              exact segE_stop
    · obtain rfl : i = len := by omega
      have d0 : decide (i < i) = false := decide_eq_false (by omega)
      go_wp2_with fail
      go_ret
      have e : T = S := by
        have h1 := HX.out
        have h2 := HV.out.len
        rw [h1.1, List.length_append] at h2
        rw [h1.1, List.eq_nil_of_length_eq_zero (show R.length = 0 by omega), List.append_nil]
      exact ⟨⟨av, n, cv, b', L, rfl, by omega, HVL.out, by rw [e]; exact HR.out.2.1⟩, HR.out.2.2⟩

set_option maxRecDepth 100000 in
set_option maxHeartbeats 8000000 in
theorem rOrder_any (T : List C) (a : Option Addr) (len cap b off : Nat) (w : World) (hV : VC w a len b off T) (hl : len ≤ 60) :
    Calls Try.prog 18 #[.slice a len cap] w fun e w' => (∃ (a' : Option Addr) (n cap' b' : Nat) (L : List (C × Nat)), e = .returned (.slice a' n cap') ∧ n ≤ 60 ∧ VC w' a' n b' 0 (L.map Prod.fst) ∧ Done (fun x => x.bgn) (sel (fun _ => true) T) L) ∧ Ext w w' := by
  have HV := Lib.hid hV
  clear hV
  go_enter Try.func18, Try.ntmps18
  go_wp2_with fail
  go_loopg [3, 4] len (fun g v s wr => ∃ (i : Nat) (S R : List C) (L : List (C × Nat)), s = .int .i64 i ∧ i ≤ len ∧ Hid (T = S ++ R ∧ S.length = i) ∧ Hid (RowG RC enc wr w.heap.size v (L.map Prod.fst) ∧ Done (fun x => x.bgn) (sel (fun _ => true) S) L ∧ Ext w wr) ∧ len - i ≤ g)
  case atStart => exact ⟨0, [], T, [], rfl, Nat.zero_le _, Lib.hid ⟨rfl, rfl⟩, Lib.hid ⟨RowG.nil _ _, Done.refl List.Pairwise.nil, Ext.refl _⟩, Nat.le_refl _⟩
  case round =>
    obtain ⟨i, S, R, L, rfl, hi, HX, HR, hg⟩ := hrel
    obtain ⟨av, cv, rfl⟩ := HR.out.1.val
    obtain ⟨b', hvc, hnc, had, hno, hln⟩ := row_vc HR.out.1
    obtain ⟨n, hn⟩ : ∃ n, (L.map Prod.fst).length = n := ⟨_, rfl⟩
    rw [hn] at hvc hnc hno ⊢
    have HLn := Lib.hid (show L.length = n by rwa [List.length_map] at hn)
    have hni : n ≤ i := by
      have h1 := HR.out.2.1.1.length_eq
      have h2 := sel_len (fun _ => true) S
      have := HX.out.2
      have := HLn.out
      omega
    have HVL := Lib.hid hvc
    have HAD := Lib.hid had
    have HNO := Lib.hid hno
    have HRow := Lib.hid (show RowG RC enc wr w.heap.size (.slice av n cv) (L.map Prod.fst) by have := HR.out.1; rw [hn] at this; exact this)
    clear hn hvc had hno hln
    by_cases hil : i < len
    · have d0 : decide (i < len) = true := decide_eq_true hil
      obtain rfl := HV.out.ad (by omega)
      obtain ⟨x, R', rfl⟩ : ∃ x R', R = x :: R' := by
        cases R with
        | nil => have h1 := HX.out; have h2 := HV.out.len; rw [h1.1] at h2; simp at h2; omega
        | cons x R' => exact ⟨x, R', rfl⟩
      have HXA := Lib.hid (HV.out.at1 S R' x HX.out.1 i HX.out.2.symm)
      go_wp2_with fail
      go_loopg [5] n (fun g s wk => ∃ t : Nat, s = .int .i64 t ∧ t ≤ n ∧ Hid (Ext wr wk ∧ ∀ A B, L = A ++ B → A.length = t → ∀ z ∈ B, x.bgn < z.1.bgn) ∧ t ≤ g)
      case atStart => exact ⟨n, rfl, Nat.le_refl _, Lib.hid ⟨Ext.refl _, fun A B e hA z hz => by
        have h1 := congrArg List.length e
        have h2 := HLn.out
        rw [List.length_append] at h1
        rw [List.eq_nil_of_length_eq_zero (show B.length = 0 by omega)] at hz
        cases hz⟩, Nat.le_refl _⟩
      case round =>
        obtain ⟨t, rfl, ht, HJ, hg2⟩ := hrel
        have HRowK := Lib.hid (HRow.out.ext HJ.out.1)
        have HVK := Lib.hid (HVL.out.ext HJ.out.1)
        have HEK := Lib.hid (HR.out.2.2.trans HJ.out.1)
        obtain ⟨bb, hbb⟩ : ∃ bb : Bool, (∃ A z B, L = A ++ z :: B ∧ A.length + 1 = t ∧ decide (x.bgn < z.1.bgn) = bb) ∨ (t = 0 ∧ bb = false) := by
          by_cases h0 : t = 0
          · exact ⟨false, .inr ⟨h0, rfl⟩⟩
          · obtain ⟨A, z, B, e, hA⟩ := split_at L (t - 1) (by have := HLn.out; omega)
            exact ⟨_, .inl ⟨A, z, B, e, by omega, rfl⟩⟩
        have HBB := Lib.hid hbb
        clear hbb
        go_upto_region 6 with fail
        go_cut [29] (fun s wx => s = .bool bb ∧ wx = wr.drew)
        case first =>
          rcases HBB.out with ⟨A, z, B, e, hA, hd⟩ | ⟨h0, hd⟩
          · obtain ⟨tp, rfl⟩ : ∃ tp, t = tp + 1 := ⟨t - 1, by omega⟩
            have hz := HVK.out.at1 (A.map Prod.fst) (B.map Prod.fst) z.1 (by rw [e]; simp) tp (by rw [List.length_map]; omega)
            have zk := hz.cl wr.drew (Ext.drew _) 7 _ rfl
            have xk := HXA.out.cl wr.drew (HEK.out.trans (Ext.drew _)) 7 _ rfl
            obtain rfl := HVK.out.ad (by omega)
            simp only [Nat.zero_add] at zk
            have HDD := Lib.hid hd
            have e1 : (0 : Int) ≤ (tp : Int) := by omega
            have e2 : (tp : Int) < (n : Int) := by omega
            have dt' : decide ((0 : Int) < (tp : Int) + 1) = true := decide_eq_true (by omega)
            clear e hA hz hd
            refine wp_region_segsK [([8, 1, 4, 3], 0, 0), ([4], 2, 16)] (by kernel_rfl) (by kernel_rfl) ?_
            apply segsK_pure
            · intro W
              simp only [runsT, runsF, rep, pick]
              go_wp2_with fail
              exact ⟨rfl, rfl⟩
            simp only [runsT, runsF, rep, left]
            apply segsK_look
            · simp only [runsT, runsF, rep, pick]
              go_wp2_with fail
              exact ⟨rfl, rfl⟩
            simp only [runsT, runsF, rep, left]
            apply segsK_nil
            go_wp2_with fail
            go_meet
            exact ⟨by rw [HDD.out], rfl⟩
          · have HDD := Lib.hid hd
            subst h0
            clear hd
            refine wp_region_segsK [([8, 1, 4, 3], 0, 0), ([4], 2, 16)] (by kernel_rfl) (by kernel_rfl) ?_
            apply segsK_pure
            · intro W
              simp only [runsT, runsF, rep, pick]
              repeat (first | go_values | go_skip | go_guarded | go_step)
              exact ⟨rfl, rfl⟩
            simp only [runsT, runsF, rep, left]
            apply segsK_look
            · simp only [runsT, runsF, rep, pick]
              repeat (first | go_values | go_skip | go_guarded | go_step)
              exact ⟨rfl, rfl⟩
            simp only [runsT, runsF, rep, left]
            apply segsK_nil
            go_wp2_with fail
            go_meet
            exact ⟨by rw [HDD.out], rfl⟩
        case rest =>
        obtain ⟨rfl, rfl⟩ := hcut
        cases bb with
        | true =>
          have HT := Lib.hid (show 1 ≤ t by rcases HBB.out with ⟨A, z, B, e, hA, hd⟩ | ⟨h0, hd⟩; omega; cases hd)
          obtain ⟨tp, rfl⟩ : ∃ tp, t = tp + 1 := ⟨t - 1, by have := HT.out; omega⟩
          go_wp2_with fail
          go_roundg tp
          case measure => omega
          case rel =>
            refine ⟨tp, by congr 1, by omega, Lib.hid ⟨HJ.out.1.trans (Ext.drew _), fun A' B' e' hA' z' hz' => ?_⟩, Nat.le_refl _⟩
            rcases HBB.out with ⟨A, z, B, e, hA, hd⟩ | ⟨h0, hd⟩
            · obtain ⟨rfl, rfl⟩ := List.append_inj (e'.symm.trans e) (by omega)
              rcases List.mem_cons.1 hz' with rfl | hz'
              · exact of_decide_eq_true hd
              · exact HJ.out.2 (A' ++ [z]) B (by rw [e]; simp) (by simp; omega) z' hz'
            · cases hd
        | false =>
          obtain ⟨A, B, eAB, hA⟩ : ∃ A B, L = A ++ B ∧ A.length = t := ⟨L.take t, L.drop t, (List.take_append_drop _ _).symm, by have := HLn.out; rw [List.length_take]; omega⟩
          have HP := Lib.hid (show Done (fun x => x.bgn) (sel (fun _ => true) (S ++ [x])) (A ++ (x, S.length) :: B) from put_done HR.out.2.1 eAB rfl (fun R z e => by
            rcases HBB.out with ⟨A', z', B', e', hA', hd⟩ | ⟨h0, hd⟩
            · rw [eAB, e, List.append_assoc] at e'
              have := uniq_at e' (by rw [e] at hA; simp at hA; omega)
              rw [this]
              have := of_decide_eq_false hd
              show z'.1.bgn ≤ x.bgn
              omega
            · rw [e] at hA; simp at hA; omega) (HJ.out.2 A B eAB hA))
          have HAB := Lib.hid (And.intro eAB hA)
          have HMA := Lib.hid (show (A.map Prod.fst).length = t ∧ (B.map Prod.fst).length = n - t ∧ L.map Prod.fst = A.map Prod.fst ++ B.map Prod.fst by
            have h1 := HLn.out
            rw [eAB, List.length_append] at h1
            refine ⟨by rw [List.length_map, hA], by rw [List.length_map]; omega, by rw [eAB, List.map_append]⟩)
          have lx := HXA.out
          have n60 : n ≤ 60 := by omega
          clear eAB hA lx
          cases av with
          | none =>
            obtain ⟨rfl, rfl⟩ := HNO.out rfl
            obtain rfl : t = 0 := by omega
            go_wp2_with fail
            refine wp_region_segsE (Ext wr) (.quiet [0, 1, 3, 1, 4, 2, 3, 2] (.alt 0 (.alt 0 (.alt 0 (.alt 0 (.alt 0 (.quiet [1] .done) .stop) .stop) .stop) (.alt 1 (.alt 0 (.alt 0 (.alt 0 (.quiet [1] .done) .stop) .stop) .stop) .stop)) (.alt 2 (.alt 0 (.alt 0 (.alt 0 (.alt 0 (.quiet [1] .done) .stop) .stop) .stop) .stop) .stop))) (by kernel_rfl) (by kernel_rfl) ((Ext.drew wr).trans (Ext.drew wr.drew)) ?_
            apply segE_quiet
            · intro W hW
              have lx := HXA.out.ld W (HEK.out.trans hW)
              simp only [runsT, runsF, rep, pick]
              go_wp2_with (first | refine Arr.wpList_ldA rfl _ _ rfl _ lx ?_)
              exact ⟨rfl, rfl⟩
            simp only [runsT, runsF, rep, left]
            refine segE_alt _ rfl ?_ ?_
            · skip
              refine lit0C rfl rfl ?_
              intro a_0 c_0 w_0 h_0 s_0
              have H_0 := Lib.hid h_0
              have S_0 := Lib.hid s_0
              have XE_0 := Lib.hid (((Ext.drew wr).trans (Ext.drew wr.drew)).trans s_0)
              clear h_0 s_0
              go_wp2_with fail
              refine ⟨XE_0.out, ?_⟩
              try dsimp only [List.eraseIdx]
              refine segE_alt _ rfl ?_ ?_
              · skip
                refine appC rfl (.tmp 32) (.tmp 35) rfl _ _ [] rfl H_0.out _ _ _ (A.map Prod.fst) rfl HMA.out.1 (fun _ => ⟨rfl, rfl⟩) (fun ad had => by cases had) (by first | (simp; done) | (simp; omega)) XE_0.out.size ?_
                intro a_4 c_4 w_4 h_4 g_4
                obtain ⟨L4, hL4⟩ : ∃ L, [] ++ A.map Prod.fst = L := ⟨_, rfl⟩
                rw [hL4] at h_4 ⊢
                have l4 : L4.length ≤ 60 := by rw [← hL4, List.nil_append, HMA.out.1]; omega
                have HL4 := Lib.hid hL4
                have G_4 := Lib.hid g_4
                have H_4 := Lib.hid h_4
                have XE_4 := Lib.hid (ext_grown XE_0.out H_0.out (Nat.le_refl _) g_4)
                clear h_4 g_4 hL4
                go_wp2_with fail
                refine ⟨XE_4.out, ?_⟩
                try dsimp only [List.eraseIdx]
                refine segE_alt _ rfl ?_ ?_
                · skip
                  refine lit1C rfl (.tmp 40) rfl x rfl ?_
                  intro a_9 c_9 w_9 h_9 s_9
                  have H_9 := Lib.hid h_9
                  have S_9 := Lib.hid s_9
                  have XE_9 := Lib.hid (XE_4.out.trans s_9)
                  clear h_9 s_9
                  go_wp2_with fail
                  refine ⟨XE_9.out, ?_⟩
                  try dsimp only [List.eraseIdx]
                  refine segE_alt _ rfl ?_ ?_
                  · skip
                    refine appC2 rfl (.tmp 36) (.tmp 41) rfl _ _ L4 rfl (H_4.out.ext S_9.out) _ _ [x] rfl H_9.out (by first | omega | (simp; done) | (simp; omega)) XE_9.out.size ?_
                    intro a_10 c_10 w_10 h_10 g_10
                    obtain ⟨L10, hL10⟩ : ∃ L, L4 ++ [x] = L := ⟨_, rfl⟩
                    rw [hL10] at h_10 ⊢
                    have l10 : L10.length ≤ 61 := by rw [← hL10]; simp; omega
                    have HL10 := Lib.hid hL10
                    have G_10 := Lib.hid g_10
                    have H_10 := Lib.hid h_10
                    have XE_10 := Lib.hid (ext_grown XE_9.out (H_4.out.ext S_9.out) (Nat.le_refl _) g_10)
                    clear h_10 g_10 hL10
                    go_wp2_with fail
                    refine ⟨XE_10.out, ?_⟩
                    try dsimp only [List.eraseIdx]
                    refine segE_alt _ rfl ?_ ?_
                    · skip
                      refine appC rfl (.tmp 42) (.tmp 45) rfl _ _ L10 rfl H_10.out _ _ _ (B.map Prod.fst) rfl (by rw [HMA.out.2.1]; try omega) (fun _ => ⟨rfl, rfl⟩) (fun ad had => by cases had) (by first | omega | (simp; done) | (simp; omega)) XE_10.out.size ?_
                      intro a_14 c_14 w_14 h_14 g_14
                      obtain ⟨L14, hL14⟩ : ∃ L, L10 ++ B.map Prod.fst = L := ⟨_, rfl⟩
                      rw [hL14] at h_14 ⊢
                      have HL14 := Lib.hid (show (A ++ (x, S.length) :: B).map Prod.fst = L14 by rw [← hL14, ← HL10.out, ← HL4.out]; simp)
                      have H_14 := Lib.hid h_14
                      have XE_14 := Lib.hid (ext_grown XE_10.out H_10.out (Nat.le_refl _) g_14)
                      clear h_14 g_14 hL14
                      go_wp2_with fail
                      refine ⟨XE_14.out, ?_⟩
                      try dsimp only [List.eraseIdx]
                      apply segE_quiet
                      · intro W hW
                        simp only [runsT, runsF, rep, pick]
                        go_wp2_with (first | refine Arr.wpList_ldA rfl _ _ rfl _ lx ?_)
                        exact ⟨rfl, rfl⟩
                      simp only [runsT, runsF, rep, left]
                      apply segE_done
                      go_wp2_with fail
                      go_roundg (len - (i + 1))
                      case measure => omega
                      case rel => exact ⟨i + 1, S ++ [x], R', A ++ (x, S.length) :: B, by go_num, by omega, Lib.hid ⟨by rw [HX.out.1]; simp, by rw [List.length_append, HX.out.2]; rfl⟩, Lib.hid ⟨by rw [HL14.out]; exact Row.RowG.base H_14.out HEK.out.size, HP.out, HEK.out.trans XE_14.out⟩, Nat.le_refl _⟩
                    exact segE_stop
                  exact segE_stop
                exact segE_stop
              refine segE_alt _ rfl ?_ ?_
              · skip
                refine lit1C rfl (.tmp 40) rfl x rfl ?_
                intro a_9 c_9 w_9 h_9 s_9
                have H_9 := Lib.hid h_9
                have S_9 := Lib.hid s_9
                have XE_9 := Lib.hid (XE_0.out.trans s_9)
                clear h_9 s_9
                go_wp2_with fail
                refine ⟨XE_9.out, ?_⟩
                try dsimp only [List.eraseIdx]
                refine segE_alt _ rfl ?_ ?_
                · skip
                  refine appC rfl (.tmp 32) (.tmp 35) rfl _ _ [] rfl (H_0.out.ext S_9.out) _ _ _ (A.map Prod.fst) rfl HMA.out.1 (fun _ => ⟨rfl, rfl⟩) (fun ad had => by cases had) (by first | (simp; done) | (simp; omega)) XE_9.out.size ?_
                  intro a_4 c_4 w_4 h_4 g_4
                  obtain ⟨L4, hL4⟩ : ∃ L, [] ++ A.map Prod.fst = L := ⟨_, rfl⟩
                  rw [hL4] at h_4 ⊢
                  have l4 : L4.length ≤ 60 := by rw [← hL4, List.nil_append, HMA.out.1]; omega
                  have HL4 := Lib.hid hL4
                  have G_4 := Lib.hid g_4
                  have H_4 := Lib.hid h_4
                  have XE_4 := Lib.hid (ext_grown XE_9.out (H_0.out.ext S_9.out) (Nat.le_refl _) g_4)
                  clear h_4 g_4 hL4
                  go_wp2_with fail
                  refine ⟨XE_4.out, ?_⟩
                  try dsimp only [List.eraseIdx]
                  refine segE_alt _ rfl ?_ ?_
                  · skip
                    refine appC2 rfl (.tmp 36) (.tmp 41) rfl _ _ L4 rfl H_4.out _ _ [x] rfl (Row.Own.kept (R := RC) H_9.out G_4.out (fun k hk hk5 => by have h1 := Row.Own.lt (R := RC) H_9.out k hk; have h2 := Row.Own.lt (R := RC) H_0.out k hk5; omega)) (by first | omega | (simp; done) | (simp; omega)) XE_4.out.size ?_
                    intro a_10 c_10 w_10 h_10 g_10
                    obtain ⟨L10, hL10⟩ : ∃ L, L4 ++ [x] = L := ⟨_, rfl⟩
                    rw [hL10] at h_10 ⊢
                    have l10 : L10.length ≤ 61 := by rw [← hL10]; simp; omega
                    have HL10 := Lib.hid hL10
                    have G_10 := Lib.hid g_10
                    have H_10 := Lib.hid h_10
                    have XE_10 := Lib.hid (ext_grown XE_4.out H_4.out (Nat.le_refl _) g_10)
                    clear h_10 g_10 hL10
                    go_wp2_with fail
                    refine ⟨XE_10.out, ?_⟩
                    try dsimp only [List.eraseIdx]
                    refine segE_alt _ rfl ?_ ?_
                    · skip
                      refine appC rfl (.tmp 42) (.tmp 45) rfl _ _ L10 rfl H_10.out _ _ _ (B.map Prod.fst) rfl (by rw [HMA.out.2.1]; try omega) (fun _ => ⟨rfl, rfl⟩) (fun ad had => by cases had) (by first | omega | (simp; done) | (simp; omega)) XE_10.out.size ?_
                      intro a_14 c_14 w_14 h_14 g_14
                      obtain ⟨L14, hL14⟩ : ∃ L, L10 ++ B.map Prod.fst = L := ⟨_, rfl⟩
                      rw [hL14] at h_14 ⊢
                      have HL14 := Lib.hid (show (A ++ (x, S.length) :: B).map Prod.fst = L14 by rw [← hL14, ← HL10.out, ← HL4.out]; simp)
                      have H_14 := Lib.hid h_14
                      have XE_14 := Lib.hid (ext_grown XE_10.out H_10.out (Nat.le_refl _) g_14)
                      clear h_14 g_14 hL14
                      go_wp2_with fail
                      refine ⟨XE_14.out, ?_⟩
                      try dsimp only [List.eraseIdx]
                      apply segE_quiet
                      · intro W hW
                        simp only [runsT, runsF, rep, pick]
                        go_wp2_with (first | refine Arr.wpList_ldA rfl _ _ rfl _ lx ?_)
                        exact ⟨rfl, rfl⟩
                      simp only [runsT, runsF, rep, left]
                      apply segE_done
                      go_wp2_with fail
                      go_roundg (len - (i + 1))
                      case measure => omega
                      case rel => exact ⟨i + 1, S ++ [x], R', A ++ (x, S.length) :: B, by go_num, by omega, Lib.hid ⟨by rw [HX.out.1]; simp, by rw [List.length_append, HX.out.2]; rfl⟩, Lib.hid ⟨by rw [HL14.out]; exact Row.RowG.base H_14.out HEK.out.size, HP.out, HEK.out.trans XE_14.out⟩, Nat.le_refl _⟩
                    exact segE_stop
                  exact segE_stop
                exact segE_stop
              exact segE_stop
            refine segE_alt _ rfl ?_ ?_
            · skip
              refine lit1C rfl (.tmp 40) rfl x rfl ?_
              intro a_9 c_9 w_9 h_9 s_9
              have H_9 := Lib.hid h_9
              have S_9 := Lib.hid s_9
              have XE_9 := Lib.hid (((Ext.drew wr).trans (Ext.drew wr.drew)).trans s_9)
              clear h_9 s_9
              go_wp2_with fail
              refine ⟨XE_9.out, ?_⟩
              try dsimp only [List.eraseIdx]
              refine segE_alt _ rfl ?_ ?_
              · skip
                refine lit0C rfl rfl ?_
                intro a_0 c_0 w_0 h_0 s_0
                have H_0 := Lib.hid h_0
                have S_0 := Lib.hid s_0
                have XE_0 := Lib.hid (XE_9.out.trans s_0)
                clear h_0 s_0
                go_wp2_with fail
                refine ⟨XE_0.out, ?_⟩
                try dsimp only [List.eraseIdx]
                refine segE_alt _ rfl ?_ ?_
                · skip
                  refine appC rfl (.tmp 32) (.tmp 35) rfl _ _ [] rfl H_0.out _ _ _ (A.map Prod.fst) rfl HMA.out.1 (fun _ => ⟨rfl, rfl⟩) (fun ad had => by cases had) (by first | (simp; done) | (simp; omega)) S_0.out.size ?_
                  intro a_4 c_4 w_4 h_4 g_4
                  obtain ⟨L4, hL4⟩ : ∃ L, [] ++ A.map Prod.fst = L := ⟨_, rfl⟩
                  rw [hL4] at h_4 ⊢
                  have l4 : L4.length ≤ 60 := by rw [← hL4, List.nil_append, HMA.out.1]; omega
                  have HL4 := Lib.hid hL4
                  have G_4 := Lib.hid g_4
                  have H_4 := Lib.hid h_4
                  have XE_4 := Lib.hid (ext_grown XE_0.out H_0.out XE_9.out.size g_4)
                  clear h_4 g_4 hL4
                  go_wp2_with fail
                  refine ⟨XE_4.out, ?_⟩
                  try dsimp only [List.eraseIdx]
                  refine segE_alt _ rfl ?_ ?_
                  · skip
                    refine appC2 rfl (.tmp 36) (.tmp 41) rfl _ _ L4 rfl H_4.out _ _ [x] rfl (Row.Own.kept (R := RC) (H_9.out.ext S_0.out) G_4.out (fun k hk hk5 => by have h1 := Row.Own.lt (R := RC) H_9.out k hk; have h2 := Row.Own.lt (R := RC) H_0.out k hk5; omega)) (by first | omega | (simp; done) | (simp; omega)) (Nat.le_trans S_0.out.size G_4.out.size) ?_
                    intro a_10 c_10 w_10 h_10 g_10
                    obtain ⟨L10, hL10⟩ : ∃ L, L4 ++ [x] = L := ⟨_, rfl⟩
                    rw [hL10] at h_10 ⊢
                    have l10 : L10.length ≤ 61 := by rw [← hL10]; simp; omega
                    have HL10 := Lib.hid hL10
                    have G_10 := Lib.hid g_10
                    have H_10 := Lib.hid h_10
                    have XE_10 := Lib.hid (ext_grown XE_4.out H_4.out XE_9.out.size g_10)
                    clear h_10 g_10 hL10
                    go_wp2_with fail
                    refine ⟨XE_10.out, ?_⟩
                    try dsimp only [List.eraseIdx]
                    refine segE_alt _ rfl ?_ ?_
                    · skip
                      refine appC rfl (.tmp 42) (.tmp 45) rfl _ _ L10 rfl H_10.out _ _ _ (B.map Prod.fst) rfl (by rw [HMA.out.2.1]; try omega) (fun _ => ⟨rfl, rfl⟩) (fun ad had => by cases had) (by first | omega | (simp; done) | (simp; omega)) (Nat.le_trans S_0.out.size (Nat.le_trans G_4.out.size G_10.out.size)) ?_
                      intro a_14 c_14 w_14 h_14 g_14
                      obtain ⟨L14, hL14⟩ : ∃ L, L10 ++ B.map Prod.fst = L := ⟨_, rfl⟩
                      rw [hL14] at h_14 ⊢
                      have HL14 := Lib.hid (show (A ++ (x, S.length) :: B).map Prod.fst = L14 by rw [← hL14, ← HL10.out, ← HL4.out]; simp)
                      have H_14 := Lib.hid h_14
                      have XE_14 := Lib.hid (ext_grown XE_10.out H_10.out XE_9.out.size g_14)
                      clear h_14 g_14 hL14
                      go_wp2_with fail
                      refine ⟨XE_14.out, ?_⟩
                      try dsimp only [List.eraseIdx]
                      apply segE_quiet
                      · intro W hW
                        simp only [runsT, runsF, rep, pick]
                        go_wp2_with (first | refine Arr.wpList_ldA rfl _ _ rfl _ lx ?_)
                        exact ⟨rfl, rfl⟩
                      simp only [runsT, runsF, rep, left]
                      apply segE_done
                      go_wp2_with fail
                      go_roundg (len - (i + 1))
                      case measure => omega
                      case rel => exact ⟨i + 1, S ++ [x], R', A ++ (x, S.length) :: B, by go_num, by omega, Lib.hid ⟨by rw [HX.out.1]; simp, by rw [List.length_append, HX.out.2]; rfl⟩, Lib.hid ⟨by rw [HL14.out]; exact Row.RowG.base H_14.out (HEK.out.trans XE_9.out).size, HP.out, HEK.out.trans XE_14.out⟩, Nat.le_refl _⟩
                    exact segE_stop
                  exact segE_stop
                exact segE_stop
              exact segE_stop
            exact segE_stop
          | some ad =>
            obtain rfl := HAD.out ad rfl
            by_cases hct : cv = t
            · subst hct
              obtain rfl : n = cv := by omega
              go_wp2_with fail
              refine wp_region_segsE (Ext wr) (.quiet [0, 1, 3, 1, 4, 2, 3, 2] (.alt 0 (.alt 0 (.alt 0 (.alt 0 (.alt 0 (.quiet [1] .done) .stop) .stop) .stop) (.alt 1 (.alt 0 (.alt 0 (.alt 0 (.quiet [1] .done) .stop) .stop) .stop) .stop)) (.alt 2 (.alt 0 (.alt 0 (.alt 0 (.alt 0 (.quiet [1] .done) .stop) .stop) .stop) .stop) .stop))) (by kernel_rfl) (by kernel_rfl) ((Ext.drew wr).trans (Ext.drew wr.drew)) ?_
              apply segE_quiet
              · intro W hW
                have lx := HXA.out.ld W (HEK.out.trans hW)
                simp only [runsT, runsF, rep, pick]
                go_wp2_with (first | refine Arr.wpList_ldA rfl _ _ rfl _ lx ?_)
                exact ⟨rfl, rfl⟩
              simp only [runsT, runsF, rep, left]
              refine segE_alt _ rfl ?_ ?_
              · skip
                refine lit0C rfl rfl ?_
                intro a_0 c_0 w_0 h_0 s_0
                have H_0 := Lib.hid h_0
                have S_0 := Lib.hid s_0
                have XE_0 := Lib.hid (((Ext.drew wr).trans (Ext.drew wr.drew)).trans s_0)
                clear h_0 s_0
                go_wp2_with fail
                refine ⟨XE_0.out, ?_⟩
                try dsimp only [List.eraseIdx]
                refine segE_alt _ rfl ?_ ?_
                · skip
                  refine appC rfl (.tmp 32) (.tmp 35) rfl _ _ [] rfl H_0.out _ _ _ (A.map Prod.fst) rfl HMA.out.1 (fun h => by cases h) (fun ad had j hj => by cases had; exact (by have h := HVK.out.take (i := n) (by omega); rw [HMA.out.2.2, List.take_left' HMA.out.1] at h; exact h.flat XE_0.out hj)) (by first | (simp; done) | (simp; omega)) XE_0.out.size ?_
                  intro a_4 c_4 w_4 h_4 g_4
                  obtain ⟨L4, hL4⟩ : ∃ L, [] ++ A.map Prod.fst = L := ⟨_, rfl⟩
                  rw [hL4] at h_4 ⊢
                  have l4 : L4.length ≤ 60 := by rw [← hL4, List.nil_append, HMA.out.1]; omega
                  have HL4 := Lib.hid hL4
                  have G_4 := Lib.hid g_4
                  have H_4 := Lib.hid h_4
                  have XE_4 := Lib.hid (ext_grown XE_0.out H_0.out (Nat.le_refl _) g_4)
                  clear h_4 g_4 hL4
                  go_wp2_with fail
                  refine ⟨XE_4.out, ?_⟩
                  try dsimp only [List.eraseIdx]
                  refine segE_alt _ rfl ?_ ?_
                  · skip
                    refine lit1C rfl (.tmp 40) rfl x rfl ?_
                    intro a_9 c_9 w_9 h_9 s_9
                    have H_9 := Lib.hid h_9
                    have S_9 := Lib.hid s_9
                    have XE_9 := Lib.hid (XE_4.out.trans s_9)
                    clear h_9 s_9
                    go_wp2_with fail
                    refine ⟨XE_9.out, ?_⟩
                    try dsimp only [List.eraseIdx]
                    refine segE_alt _ rfl ?_ ?_
                    · skip
                      refine appC2 rfl (.tmp 36) (.tmp 41) rfl _ _ L4 rfl (H_4.out.ext S_9.out) _ _ [x] rfl H_9.out (by first | omega | (simp; done) | (simp; omega)) XE_9.out.size ?_
                      intro a_10 c_10 w_10 h_10 g_10
                      obtain ⟨L10, hL10⟩ : ∃ L, L4 ++ [x] = L := ⟨_, rfl⟩
                      rw [hL10] at h_10 ⊢
                      have l10 : L10.length ≤ 61 := by rw [← hL10]; simp; omega
                      have HL10 := Lib.hid hL10
                      have G_10 := Lib.hid g_10
                      have H_10 := Lib.hid h_10
                      have XE_10 := Lib.hid (ext_grown XE_9.out (H_4.out.ext S_9.out) (Nat.le_refl _) g_10)
                      clear h_10 g_10 hL10
                      go_wp2_with fail
                      refine ⟨XE_10.out, ?_⟩
                      try dsimp only [List.eraseIdx]
                      refine segE_alt _ rfl ?_ ?_
                      · skip
                        refine appC rfl (.tmp 42) (.tmp 45) rfl _ _ L10 rfl H_10.out _ _ _ (B.map Prod.fst) rfl (by rw [HMA.out.2.1]; try omega) (fun h => by cases h) (fun ad had j hj => absurd hj (by omega)) (by first | omega | (simp; done) | (simp; omega)) XE_10.out.size ?_
                        intro a_14 c_14 w_14 h_14 g_14
                        obtain ⟨L14, hL14⟩ : ∃ L, L10 ++ B.map Prod.fst = L := ⟨_, rfl⟩
                        rw [hL14] at h_14 ⊢
                        have HL14 := Lib.hid (show (A ++ (x, S.length) :: B).map Prod.fst = L14 by rw [← hL14, ← HL10.out, ← HL4.out]; simp)
                        have H_14 := Lib.hid h_14
                        have XE_14 := Lib.hid (ext_grown XE_10.out H_10.out (Nat.le_refl _) g_14)
                        clear h_14 g_14 hL14
                        go_wp2_with fail
                        refine ⟨XE_14.out, ?_⟩
                        try dsimp only [List.eraseIdx]
                        apply segE_quiet
                        · intro W hW
                          simp only [runsT, runsF, rep, pick]
                          go_wp2_with (first | refine Arr.wpList_ldA rfl _ _ rfl _ lx ?_)
                          exact ⟨rfl, rfl⟩
                        simp only [runsT, runsF, rep, left]
                        apply segE_done
                        go_wp2_with fail
                        go_roundg (len - (i + 1))
                        case measure => omega
                        case rel => exact ⟨i + 1, S ++ [x], R', A ++ (x, S.length) :: B, by go_num, by omega, Lib.hid ⟨by rw [HX.out.1]; simp, by rw [List.length_append, HX.out.2]; rfl⟩, Lib.hid ⟨by rw [HL14.out]; exact Row.RowG.base H_14.out HEK.out.size, HP.out, HEK.out.trans XE_14.out⟩, Nat.le_refl _⟩
                      exact segE_stop
                    exact segE_stop
                  exact segE_stop
                refine segE_alt _ rfl ?_ ?_
                · skip
                  refine lit1C rfl (.tmp 40) rfl x rfl ?_
                  intro a_9 c_9 w_9 h_9 s_9
                  have H_9 := Lib.hid h_9
                  have S_9 := Lib.hid s_9
                  have XE_9 := Lib.hid (XE_0.out.trans s_9)
                  clear h_9 s_9
                  go_wp2_with fail
                  refine ⟨XE_9.out, ?_⟩
                  try dsimp only [List.eraseIdx]
                  refine segE_alt _ rfl ?_ ?_
                  · skip
                    refine appC rfl (.tmp 32) (.tmp 35) rfl _ _ [] rfl (H_0.out.ext S_9.out) _ _ _ (A.map Prod.fst) rfl HMA.out.1 (fun h => by cases h) (fun ad had j hj => by cases had; exact (by have h := HVK.out.take (i := n) (by omega); rw [HMA.out.2.2, List.take_left' HMA.out.1] at h; exact h.flat XE_9.out hj)) (by first | (simp; done) | (simp; omega)) XE_9.out.size ?_
                    intro a_4 c_4 w_4 h_4 g_4
                    obtain ⟨L4, hL4⟩ : ∃ L, [] ++ A.map Prod.fst = L := ⟨_, rfl⟩
                    rw [hL4] at h_4 ⊢
                    have l4 : L4.length ≤ 60 := by rw [← hL4, List.nil_append, HMA.out.1]; omega
                    have HL4 := Lib.hid hL4
                    have G_4 := Lib.hid g_4
                    have H_4 := Lib.hid h_4
                    have XE_4 := Lib.hid (ext_grown XE_9.out (H_0.out.ext S_9.out) (Nat.le_refl _) g_4)
                    clear h_4 g_4 hL4
                    go_wp2_with fail
                    refine ⟨XE_4.out, ?_⟩
                    try dsimp only [List.eraseIdx]
                    refine segE_alt _ rfl ?_ ?_
                    · skip
                      refine appC2 rfl (.tmp 36) (.tmp 41) rfl _ _ L4 rfl H_4.out _ _ [x] rfl (Row.Own.kept (R := RC) H_9.out G_4.out (fun k hk hk5 => by have h1 := Row.Own.lt (R := RC) H_9.out k hk; have h2 := Row.Own.lt (R := RC) H_0.out k hk5; omega)) (by first | omega | (simp; done) | (simp; omega)) XE_4.out.size ?_
                      intro a_10 c_10 w_10 h_10 g_10
                      obtain ⟨L10, hL10⟩ : ∃ L, L4 ++ [x] = L := ⟨_, rfl⟩
                      rw [hL10] at h_10 ⊢
                      have l10 : L10.length ≤ 61 := by rw [← hL10]; simp; omega
                      have HL10 := Lib.hid hL10
                      have G_10 := Lib.hid g_10
                      have H_10 := Lib.hid h_10
                      have XE_10 := Lib.hid (ext_grown XE_4.out H_4.out (Nat.le_refl _) g_10)
                      clear h_10 g_10 hL10
                      go_wp2_with fail
                      refine ⟨XE_10.out, ?_⟩
                      try dsimp only [List.eraseIdx]
                      refine segE_alt _ rfl ?_ ?_
                      · skip
                        refine appC rfl (.tmp 42) (.tmp 45) rfl _ _ L10 rfl H_10.out _ _ _ (B.map Prod.fst) rfl (by rw [HMA.out.2.1]; try omega) (fun h => by cases h) (fun ad had j hj => absurd hj (by omega)) (by first | omega | (simp; done) | (simp; omega)) XE_10.out.size ?_
                        intro a_14 c_14 w_14 h_14 g_14
                        obtain ⟨L14, hL14⟩ : ∃ L, L10 ++ B.map Prod.fst = L := ⟨_, rfl⟩
                        rw [hL14] at h_14 ⊢
                        have HL14 := Lib.hid (show (A ++ (x, S.length) :: B).map Prod.fst = L14 by rw [← hL14, ← HL10.out, ← HL4.out]; simp)
                        have H_14 := Lib.hid h_14
                        have XE_14 := Lib.hid (ext_grown XE_10.out H_10.out (Nat.le_refl _) g_14)
                        clear h_14 g_14 hL14
                        go_wp2_with fail
                        refine ⟨XE_14.out, ?_⟩
                        try dsimp only [List.eraseIdx]
                        apply segE_quiet
                        · intro W hW
                          simp only [runsT, runsF, rep, pick]
                          go_wp2_with (first | refine Arr.wpList_ldA rfl _ _ rfl _ lx ?_)
                          exact ⟨rfl, rfl⟩
                        simp only [runsT, runsF, rep, left]
                        apply segE_done
                        go_wp2_with fail
                        go_roundg (len - (i + 1))
                        case measure => omega
                        case rel => exact ⟨i + 1, S ++ [x], R', A ++ (x, S.length) :: B, by go_num, by omega, Lib.hid ⟨by rw [HX.out.1]; simp, by rw [List.length_append, HX.out.2]; rfl⟩, Lib.hid ⟨by rw [HL14.out]; exact Row.RowG.base H_14.out HEK.out.size, HP.out, HEK.out.trans XE_14.out⟩, Nat.le_refl _⟩
                      exact segE_stop
                    exact segE_stop
                  exact segE_stop
                exact segE_stop
              refine segE_alt _ rfl ?_ ?_
              · skip
                refine lit1C rfl (.tmp 40) rfl x rfl ?_
                intro a_9 c_9 w_9 h_9 s_9
                have H_9 := Lib.hid h_9
                have S_9 := Lib.hid s_9
                have XE_9 := Lib.hid (((Ext.drew wr).trans (Ext.drew wr.drew)).trans s_9)
                clear h_9 s_9
                go_wp2_with fail
                refine ⟨XE_9.out, ?_⟩
                try dsimp only [List.eraseIdx]
                refine segE_alt _ rfl ?_ ?_
                · skip
                  refine lit0C rfl rfl ?_
                  intro a_0 c_0 w_0 h_0 s_0
                  have H_0 := Lib.hid h_0
                  have S_0 := Lib.hid s_0
                  have XE_0 := Lib.hid (XE_9.out.trans s_0)
                  clear h_0 s_0
                  go_wp2_with fail
                  refine ⟨XE_0.out, ?_⟩
                  try dsimp only [List.eraseIdx]
                  refine segE_alt _ rfl ?_ ?_
                  · skip
                    refine appC rfl (.tmp 32) (.tmp 35) rfl _ _ [] rfl H_0.out _ _ _ (A.map Prod.fst) rfl HMA.out.1 (fun h => by cases h) (fun ad had j hj => by cases had; exact (by have h := HVK.out.take (i := n) (by omega); rw [HMA.out.2.2, List.take_left' HMA.out.1] at h; exact h.flat XE_0.out hj)) (by first | (simp; done) | (simp; omega)) S_0.out.size ?_
                    intro a_4 c_4 w_4 h_4 g_4
                    obtain ⟨L4, hL4⟩ : ∃ L, [] ++ A.map Prod.fst = L := ⟨_, rfl⟩
                    rw [hL4] at h_4 ⊢
                    have l4 : L4.length ≤ 60 := by rw [← hL4, List.nil_append, HMA.out.1]; omega
                    have HL4 := Lib.hid hL4
                    have G_4 := Lib.hid g_4
                    have H_4 := Lib.hid h_4
                    have XE_4 := Lib.hid (ext_grown XE_0.out H_0.out XE_9.out.size g_4)
                    clear h_4 g_4 hL4
                    go_wp2_with fail
                    refine ⟨XE_4.out, ?_⟩
                    try dsimp only [List.eraseIdx]
                    refine segE_alt _ rfl ?_ ?_
                    · skip
                      refine appC2 rfl (.tmp 36) (.tmp 41) rfl _ _ L4 rfl H_4.out _ _ [x] rfl (Row.Own.kept (R := RC) (H_9.out.ext S_0.out) G_4.out (fun k hk hk5 => by have h1 := Row.Own.lt (R := RC) H_9.out k hk; have h2 := Row.Own.lt (R := RC) H_0.out k hk5; omega)) (by first | omega | (simp; done) | (simp; omega)) (Nat.le_trans S_0.out.size G_4.out.size) ?_
                      intro a_10 c_10 w_10 h_10 g_10
                      obtain ⟨L10, hL10⟩ : ∃ L, L4 ++ [x] = L := ⟨_, rfl⟩
                      rw [hL10] at h_10 ⊢
                      have l10 : L10.length ≤ 61 := by rw [← hL10]; simp; omega
                      have HL10 := Lib.hid hL10
                      have G_10 := Lib.hid g_10
                      have H_10 := Lib.hid h_10
                      have XE_10 := Lib.hid (ext_grown XE_4.out H_4.out XE_9.out.size g_10)
                      clear h_10 g_10 hL10
                      go_wp2_with fail
                      refine ⟨XE_10.out, ?_⟩
                      try dsimp only [List.eraseIdx]
                      refine segE_alt _ rfl ?_ ?_
                      · skip
                        refine appC rfl (.tmp 42) (.tmp 45) rfl _ _ L10 rfl H_10.out _ _ _ (B.map Prod.fst) rfl (by rw [HMA.out.2.1]; try omega) (fun h => by cases h) (fun ad had j hj => absurd hj (by omega)) (by first | omega | (simp; done) | (simp; omega)) (Nat.le_trans S_0.out.size (Nat.le_trans G_4.out.size G_10.out.size)) ?_
                        intro a_14 c_14 w_14 h_14 g_14
                        obtain ⟨L14, hL14⟩ : ∃ L, L10 ++ B.map Prod.fst = L := ⟨_, rfl⟩
                        rw [hL14] at h_14 ⊢
                        have HL14 := Lib.hid (show (A ++ (x, S.length) :: B).map Prod.fst = L14 by rw [← hL14, ← HL10.out, ← HL4.out]; simp)
                        have H_14 := Lib.hid h_14
                        have XE_14 := Lib.hid (ext_grown XE_10.out H_10.out XE_9.out.size g_14)
                        clear h_14 g_14 hL14
                        go_wp2_with fail
                        refine ⟨XE_14.out, ?_⟩
                        try dsimp only [List.eraseIdx]
                        apply segE_quiet
                        · intro W hW
                          simp only [runsT, runsF, rep, pick]
                          go_wp2_with (first | refine Arr.wpList_ldA rfl _ _ rfl _ lx ?_)
                          exact ⟨rfl, rfl⟩
                        simp only [runsT, runsF, rep, left]
                        apply segE_done
                        go_wp2_with fail
                        go_roundg (len - (i + 1))
                        case measure => omega
                        case rel => exact ⟨i + 1, S ++ [x], R', A ++ (x, S.length) :: B, by go_num, by omega, Lib.hid ⟨by rw [HX.out.1]; simp, by rw [List.length_append, HX.out.2]; rfl⟩, Lib.hid ⟨by rw [HL14.out]; exact Row.RowG.base H_14.out (HEK.out.trans XE_9.out).size, HP.out, HEK.out.trans XE_14.out⟩, Nat.le_refl _⟩
                      exact segE_stop
                    exact segE_stop
                  exact segE_stop
                exact segE_stop
              exact segE_stop
            · have htc : t < cv := by omega
              go_wp2_with fail
              refine wp_region_segsE (Ext wr) (.quiet [0, 1, 3, 1, 4, 2, 3, 2] (.alt 0 (.alt 0 (.alt 0 (.alt 0 (.alt 0 (.quiet [1] .done) .stop) .stop) .stop) (.alt 1 (.alt 0 (.alt 0 (.alt 0 (.quiet [1] .done) .stop) .stop) .stop) .stop)) (.alt 2 (.alt 0 (.alt 0 (.alt 0 (.alt 0 (.quiet [1] .done) .stop) .stop) .stop) .stop) .stop))) (by kernel_rfl) (by kernel_rfl) ((Ext.drew wr).trans (Ext.drew wr.drew)) ?_
              apply segE_quiet
              · intro W hW
                have lx := HXA.out.ld W (HEK.out.trans hW)
                simp only [runsT, runsF, rep, pick]
                go_wp2_with (first | refine Arr.wpList_ldA rfl _ _ rfl _ lx ?_)
                exact ⟨rfl, rfl⟩
              simp only [runsT, runsF, rep, left]
              refine segE_alt _ rfl ?_ ?_
              · skip
                refine lit0C rfl rfl ?_
                intro a_0 c_0 w_0 h_0 s_0
                have H_0 := Lib.hid h_0
                have S_0 := Lib.hid s_0
                have XE_0 := Lib.hid (((Ext.drew wr).trans (Ext.drew wr.drew)).trans s_0)
                clear h_0 s_0
                go_wp2_with fail
                refine ⟨XE_0.out, ?_⟩
                try dsimp only [List.eraseIdx]
                refine segE_alt _ rfl ?_ ?_
                · skip
                  refine appC rfl (.tmp 32) (.tmp 35) rfl _ _ [] rfl H_0.out _ _ _ (A.map Prod.fst) rfl HMA.out.1 (fun h => by cases h) (fun ad had j hj => by cases had; exact (by have h := HVK.out.take (i := t) (by omega); rw [HMA.out.2.2, List.take_left' HMA.out.1] at h; exact h.flat XE_0.out hj)) (by first | (simp; done) | (simp; omega)) XE_0.out.size ?_
                  intro a_4 c_4 w_4 h_4 g_4
                  obtain ⟨L4, hL4⟩ : ∃ L, [] ++ A.map Prod.fst = L := ⟨_, rfl⟩
                  rw [hL4] at h_4 ⊢
                  have l4 : L4.length ≤ 60 := by rw [← hL4, List.nil_append, HMA.out.1]; omega
                  have HL4 := Lib.hid hL4
                  have G_4 := Lib.hid g_4
                  have H_4 := Lib.hid h_4
                  have XE_4 := Lib.hid (ext_grown XE_0.out H_0.out (Nat.le_refl _) g_4)
                  clear h_4 g_4 hL4
                  go_wp2_with fail
                  refine ⟨XE_4.out, ?_⟩
                  try dsimp only [List.eraseIdx]
                  refine segE_alt _ rfl ?_ ?_
                  · skip
                    refine lit1C rfl (.tmp 40) rfl x rfl ?_
                    intro a_9 c_9 w_9 h_9 s_9
                    have H_9 := Lib.hid h_9
                    have S_9 := Lib.hid s_9
                    have XE_9 := Lib.hid (XE_4.out.trans s_9)
                    clear h_9 s_9
                    go_wp2_with fail
                    refine ⟨XE_9.out, ?_⟩
                    try dsimp only [List.eraseIdx]
                    refine segE_alt _ rfl ?_ ?_
                    · skip
                      refine appC2 rfl (.tmp 36) (.tmp 41) rfl _ _ L4 rfl (H_4.out.ext S_9.out) _ _ [x] rfl H_9.out (by first | omega | (simp; done) | (simp; omega)) XE_9.out.size ?_
                      intro a_10 c_10 w_10 h_10 g_10
                      obtain ⟨L10, hL10⟩ : ∃ L, L4 ++ [x] = L := ⟨_, rfl⟩
                      rw [hL10] at h_10 ⊢
                      have l10 : L10.length ≤ 61 := by rw [← hL10]; simp; omega
                      have HL10 := Lib.hid hL10
                      have G_10 := Lib.hid g_10
                      have H_10 := Lib.hid h_10
                      have XE_10 := Lib.hid (ext_grown XE_9.out (H_4.out.ext S_9.out) (Nat.le_refl _) g_10)
                      clear h_10 g_10 hL10
                      go_wp2_with fail
                      refine ⟨XE_10.out, ?_⟩
                      try dsimp only [List.eraseIdx]
                      refine segE_alt _ rfl ?_ ?_
                      · skip
                        refine appC rfl (.tmp 42) (.tmp 45) rfl _ _ L10 rfl H_10.out _ _ _ (B.map Prod.fst) rfl (by rw [HMA.out.2.1]; try omega) (fun h => by cases h) (fun ad had j hj => by cases had; exact (by have h := HVK.out.drop (i := t); rw [HMA.out.2.2, List.drop_left' HMA.out.1] at h; simp only [Nat.zero_add] at h; exact h.flat XE_10.out hj)) (by first | omega | (simp; done) | (simp; omega)) XE_10.out.size ?_
                        intro a_14 c_14 w_14 h_14 g_14
                        obtain ⟨L14, hL14⟩ : ∃ L, L10 ++ B.map Prod.fst = L := ⟨_, rfl⟩
                        rw [hL14] at h_14 ⊢
                        have HL14 := Lib.hid (show (A ++ (x, S.length) :: B).map Prod.fst = L14 by rw [← hL14, ← HL10.out, ← HL4.out]; simp)
                        have H_14 := Lib.hid h_14
                        have XE_14 := Lib.hid (ext_grown XE_10.out H_10.out (Nat.le_refl _) g_14)
                        clear h_14 g_14 hL14
                        go_wp2_with fail
                        refine ⟨XE_14.out, ?_⟩
                        try dsimp only [List.eraseIdx]
                        apply segE_quiet
                        · intro W hW
                          simp only [runsT, runsF, rep, pick]
                          go_wp2_with (first | refine Arr.wpList_ldA rfl _ _ rfl _ lx ?_)
                          exact ⟨rfl, rfl⟩
                        simp only [runsT, runsF, rep, left]
                        apply segE_done
                        go_wp2_with fail
                        go_roundg (len - (i + 1))
                        case measure => omega
                        case rel => exact ⟨i + 1, S ++ [x], R', A ++ (x, S.length) :: B, by go_num, by omega, Lib.hid ⟨by rw [HX.out.1]; simp, by rw [List.length_append, HX.out.2]; rfl⟩, Lib.hid ⟨by rw [HL14.out]; exact Row.RowG.base H_14.out HEK.out.size, HP.out, HEK.out.trans XE_14.out⟩, Nat.le_refl _⟩
                      exact segE_stop
                    exact segE_stop
                  exact segE_stop
                refine segE_alt _ rfl ?_ ?_
                · skip
                  refine lit1C rfl (.tmp 40) rfl x rfl ?_
                  intro a_9 c_9 w_9 h_9 s_9
                  have H_9 := Lib.hid h_9
                  have S_9 := Lib.hid s_9
                  have XE_9 := Lib.hid (XE_0.out.trans s_9)
                  clear h_9 s_9
                  go_wp2_with fail
                  refine ⟨XE_9.out, ?_⟩
                  try dsimp only [List.eraseIdx]
                  refine segE_alt _ rfl ?_ ?_
                  · skip
                    refine appC rfl (.tmp 32) (.tmp 35) rfl _ _ [] rfl (H_0.out.ext S_9.out) _ _ _ (A.map Prod.fst) rfl HMA.out.1 (fun h => by cases h) (fun ad had j hj => by cases had; exact (by have h := HVK.out.take (i := t) (by omega); rw [HMA.out.2.2, List.take_left' HMA.out.1] at h; exact h.flat XE_9.out hj)) (by first | (simp; done) | (simp; omega)) XE_9.out.size ?_
                    intro a_4 c_4 w_4 h_4 g_4
                    obtain ⟨L4, hL4⟩ : ∃ L, [] ++ A.map Prod.fst = L := ⟨_, rfl⟩
                    rw [hL4] at h_4 ⊢
                    have l4 : L4.length ≤ 60 := by rw [← hL4, List.nil_append, HMA.out.1]; omega
                    have HL4 := Lib.hid hL4
                    have G_4 := Lib.hid g_4
                    have H_4 := Lib.hid h_4
                    have XE_4 := Lib.hid (ext_grown XE_9.out (H_0.out.ext S_9.out) (Nat.le_refl _) g_4)
                    clear h_4 g_4 hL4
                    go_wp2_with fail
                    refine ⟨XE_4.out, ?_⟩
                    try dsimp only [List.eraseIdx]
                    refine segE_alt _ rfl ?_ ?_
                    · skip
                      refine appC2 rfl (.tmp 36) (.tmp 41) rfl _ _ L4 rfl H_4.out _ _ [x] rfl (Row.Own.kept (R := RC) H_9.out G_4.out (fun k hk hk5 => by have h1 := Row.Own.lt (R := RC) H_9.out k hk; have h2 := Row.Own.lt (R := RC) H_0.out k hk5; omega)) (by first | omega | (simp; done) | (simp; omega)) XE_4.out.size ?_
                      intro a_10 c_10 w_10 h_10 g_10
                      obtain ⟨L10, hL10⟩ : ∃ L, L4 ++ [x] = L := ⟨_, rfl⟩
                      rw [hL10] at h_10 ⊢
                      have l10 : L10.length ≤ 61 := by rw [← hL10]; simp; omega
                      have HL10 := Lib.hid hL10
                      have G_10 := Lib.hid g_10
                      have H_10 := Lib.hid h_10
                      have XE_10 := Lib.hid (ext_grown XE_4.out H_4.out (Nat.le_refl _) g_10)
                      clear h_10 g_10 hL10
                      go_wp2_with fail
                      refine ⟨XE_10.out, ?_⟩
                      try dsimp only [List.eraseIdx]
                      refine segE_alt _ rfl ?_ ?_
                      · skip
                        refine appC rfl (.tmp 42) (.tmp 45) rfl _ _ L10 rfl H_10.out _ _ _ (B.map Prod.fst) rfl (by rw [HMA.out.2.1]; try omega) (fun h => by cases h) (fun ad had j hj => by cases had; exact (by have h := HVK.out.drop (i := t); rw [HMA.out.2.2, List.drop_left' HMA.out.1] at h; simp only [Nat.zero_add] at h; exact h.flat XE_10.out hj)) (by first | omega | (simp; done) | (simp; omega)) XE_10.out.size ?_
                        intro a_14 c_14 w_14 h_14 g_14
                        obtain ⟨L14, hL14⟩ : ∃ L, L10 ++ B.map Prod.fst = L := ⟨_, rfl⟩
                        rw [hL14] at h_14 ⊢
                        have HL14 := Lib.hid (show (A ++ (x, S.length) :: B).map Prod.fst = L14 by rw [← hL14, ← HL10.out, ← HL4.out]; simp)
                        have H_14 := Lib.hid h_14
                        have XE_14 := Lib.hid (ext_grown XE_10.out H_10.out (Nat.le_refl _) g_14)
                        clear h_14 g_14 hL14
                        go_wp2_with fail
                        refine ⟨XE_14.out, ?_⟩
                        try dsimp only [List.eraseIdx]
                        apply segE_quiet
                        · intro W hW
                          simp only [runsT, runsF, rep, pick]
                          go_wp2_with (first | refine Arr.wpList_ldA rfl _ _ rfl _ lx ?_)
                          exact ⟨rfl, rfl⟩
                        simp only [runsT, runsF, rep, left]
                        apply segE_done
                        go_wp2_with fail
                        go_roundg (len - (i + 1))
                        case measure => omega
                        case rel => exact ⟨i + 1, S ++ [x], R', A ++ (x, S.length) :: B, by go_num, by omega, Lib.hid ⟨by rw [HX.out.1]; simp, by rw [List.length_append, HX.out.2]; rfl⟩, Lib.hid ⟨by rw [HL14.out]; exact Row.RowG.base H_14.out HEK.out.size, HP.out, HEK.out.trans XE_14.out⟩, Nat.le_refl _⟩
                      exact segE_stop
                    exact segE_stop
                  exact segE_stop
                exact segE_stop
              refine segE_alt _ rfl ?_ ?_
              · skip
                refine lit1C rfl (.tmp 40) rfl x rfl ?_
                intro a_9 c_9 w_9 h_9 s_9
                have H_9 := Lib.hid h_9
                have S_9 := Lib.hid s_9
                have XE_9 := Lib.hid (((Ext.drew wr).trans (Ext.drew wr.drew)).trans s_9)
                clear h_9 s_9
                go_wp2_with fail
                refine ⟨XE_9.out, ?_⟩
                try dsimp only [List.eraseIdx]
                refine segE_alt _ rfl ?_ ?_
                · skip
                  refine lit0C rfl rfl ?_
                  intro a_0 c_0 w_0 h_0 s_0
                  have H_0 := Lib.hid h_0
                  have S_0 := Lib.hid s_0
                  have XE_0 := Lib.hid (XE_9.out.trans s_0)
                  clear h_0 s_0
                  go_wp2_with fail
                  refine ⟨XE_0.out, ?_⟩
                  try dsimp only [List.eraseIdx]
                  refine segE_alt _ rfl ?_ ?_
                  · skip
                    refine appC rfl (.tmp 32) (.tmp 35) rfl _ _ [] rfl H_0.out _ _ _ (A.map Prod.fst) rfl HMA.out.1 (fun h => by cases h) (fun ad had j hj => by cases had; exact (by have h := HVK.out.take (i := t) (by omega); rw [HMA.out.2.2, List.take_left' HMA.out.1] at h; exact h.flat XE_0.out hj)) (by first | (simp; done) | (simp; omega)) S_0.out.size ?_
                    intro a_4 c_4 w_4 h_4 g_4
                    obtain ⟨L4, hL4⟩ : ∃ L, [] ++ A.map Prod.fst = L := ⟨_, rfl⟩
                    rw [hL4] at h_4 ⊢
                    have l4 : L4.length ≤ 60 := by rw [← hL4, List.nil_append, HMA.out.1]; omega
                    have HL4 := Lib.hid hL4
                    have G_4 := Lib.hid g_4
                    have H_4 := Lib.hid h_4
                    have XE_4 := Lib.hid (ext_grown XE_0.out H_0.out XE_9.out.size g_4)
                    clear h_4 g_4 hL4
                    go_wp2_with fail
                    refine ⟨XE_4.out, ?_⟩
                    try dsimp only [List.eraseIdx]
                    refine segE_alt _ rfl ?_ ?_
                    · skip
                      refine appC2 rfl (.tmp 36) (.tmp 41) rfl _ _ L4 rfl H_4.out _ _ [x] rfl (Row.Own.kept (R := RC) (H_9.out.ext S_0.out) G_4.out (fun k hk hk5 => by have h1 := Row.Own.lt (R := RC) H_9.out k hk; have h2 := Row.Own.lt (R := RC) H_0.out k hk5; omega)) (by first | omega | (simp; done) | (simp; omega)) (Nat.le_trans S_0.out.size G_4.out.size) ?_
                      intro a_10 c_10 w_10 h_10 g_10
                      obtain ⟨L10, hL10⟩ : ∃ L, L4 ++ [x] = L := ⟨_, rfl⟩
                      rw [hL10] at h_10 ⊢
                      have l10 : L10.length ≤ 61 := by rw [← hL10]; simp; omega
                      have HL10 := Lib.hid hL10
                      have G_10 := Lib.hid g_10
                      have H_10 := Lib.hid h_10
                      have XE_10 := Lib.hid (ext_grown XE_4.out H_4.out XE_9.out.size g_10)
                      clear h_10 g_10 hL10
                      go_wp2_with fail
                      refine ⟨XE_10.out, ?_⟩
                      try dsimp only [List.eraseIdx]
                      refine segE_alt _ rfl ?_ ?_
                      · skip
                        refine appC rfl (.tmp 42) (.tmp 45) rfl _ _ L10 rfl H_10.out _ _ _ (B.map Prod.fst) rfl (by rw [HMA.out.2.1]; try omega) (fun h => by cases h) (fun ad had j hj => by cases had; exact (by have h := HVK.out.drop (i := t); rw [HMA.out.2.2, List.drop_left' HMA.out.1] at h; simp only [Nat.zero_add] at h; exact h.flat XE_10.out hj)) (by first | omega | (simp; done) | (simp; omega)) (Nat.le_trans S_0.out.size (Nat.le_trans G_4.out.size G_10.out.size)) ?_
                        intro a_14 c_14 w_14 h_14 g_14
                        obtain ⟨L14, hL14⟩ : ∃ L, L10 ++ B.map Prod.fst = L := ⟨_, rfl⟩
                        rw [hL14] at h_14 ⊢
                        have HL14 := Lib.hid (show (A ++ (x, S.length) :: B).map Prod.fst = L14 by rw [← hL14, ← HL10.out, ← HL4.out]; simp)
                        have H_14 := Lib.hid h_14
                        have XE_14 := Lib.hid (ext_grown XE_10.out H_10.out XE_9.out.size g_14)
                        clear h_14 g_14 hL14
                        go_wp2_with fail
                        refine ⟨XE_14.out, ?_⟩
                        try dsimp only [List.eraseIdx]
                        apply segE_quiet
                        · intro W hW
                          simp only [runsT, runsF, rep, pick]
                          go_wp2_with (first | refine Arr.wpList_ldA rfl _ _ rfl _ lx ?_)
                          exact ⟨rfl, rfl⟩
                        simp only [runsT, runsF, rep, left]
                        apply segE_done
                        go_wp2_with fail
                        go_roundg (len - (i + 1))
                        case measure => omega
                        case rel => exact ⟨i + 1, S ++ [x], R', A ++ (x, S.length) :: B, by go_num, by omega, Lib.hid ⟨by rw [HX.out.1]; simp, by rw [List.length_append, HX.out.2]; rfl⟩, Lib.hid ⟨by rw [HL14.out]; exact Row.RowG.base H_14.out (HEK.out.trans XE_9.out).size, HP.out, HEK.out.trans XE_14.out⟩, Nat.le_refl _⟩
                      exact segE_stop
                    exact segE_stop
                  exact segE_stop
                exact segE_stop
              exact segE_stop
    · obtain rfl : i = len := by omega
      have d0 : decide (i < i) = false := decide_eq_false (by omega)
      go_wp2_with fail
      go_ret
      have e : T = S := by
        have h1 := HX.out
        have h2 := HV.out.len
        rw [h1.1, List.length_append] at h2
        rw [h1.1, List.eq_nil_of_length_eq_zero (show R.length = 0 by omega), List.append_nil]
      exact ⟨⟨av, n, cv, b', L, rfl, by omega, HVL.out, by rw [e]; exact HR.out.2.1⟩, HR.out.2.2⟩

end Go.Proofs.Ytbjkpiobfiebhaa.Hs
