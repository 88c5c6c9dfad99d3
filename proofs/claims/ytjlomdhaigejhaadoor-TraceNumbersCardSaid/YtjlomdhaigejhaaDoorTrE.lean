/-
  The document's line of a call, walked.
  The library's table of powers lies there; no other condition.
-/
import Derived.Test.YtjlomdhaigejhaaDoorTrD
namespace Go.Proofs.YtjlomdhaigejhaaDoor.Trc
open Go.RowKit Go.Shelf Go.Seg Go.Open Go.Lib Prg

theorem join_snoc (xs : List (List UInt8)) (y sep : List UInt8) (h : xs ≠ []) : join (xs ++ [y]) sep = join xs sep ++ (sep ++ y) := by
  match xs, h with
  | x :: r, _ => simp [join_cons, joinTail]
theorem join_app (xs ys : List (List UInt8)) (sep : List UInt8) (h : xs ≠ []) : join (xs ++ ys) sep = join xs sep ++ joinTail sep ys := by
  match xs, h with
  | x :: r, _ => simp [join_cons, joinTail]
/-- The line as far as it goes. -/
def accS (c : Cl) (q : Nat) : ByteArray := Str (join ((headW c ++ numW c q).map (·.data.toList)) [32])
theorem acc_zero (c : Cl) : accS c 0 = cat (cat (cat (cat (intS c.client) ⟨#[46]⟩) (intS c.id)) ⟨#[32]⟩) (nmS (c.f 0).toNat) := by
  simp [accS, headW, numW, join_cons, joinTail, cat, Str]
theorem acc_succ (c : Cl) (q j : Nat) (h : numW c (q + 1) = numW c q ++ [intS (c.f j)]) : accS c (q + 1) = cat (accS c q) (cat ⟨#[32]⟩ (intS (c.f j))) := by
  unfold accS
  rw [h, ← List.append_assoc, List.map_append, List.map_singleton, join_snoc _ _ _ (by simp [headW])]
  simp [cat, Str]
theorem acc_size {c : Cl} (h : Ok c) (q : Nat) (hq : q ≤ 4) : (accS c q).size ≤ 264 := by
  unfold accS
  rw [str_size]
  have hl : (numW c q).length ≤ 4 := by simp [numW]; omega
  have hh : (headW c).length = 2 := rfl
  have h1 := join_len [32] 43 ((headW c ++ numW c q).map (·.data.toList)) (fun x hx => by
    simp only [List.mem_map] at hx
    obtain ⟨y, hy, rfl⟩ := hx
    have e : y.data.toList.length = y.size := Array.length_toList
    rw [e]
    refine words_size h y ?_
    simp only [wordsW, numW, List.mem_append, List.mem_map] at hy ⊢
    rcases hy with hy | ⟨j, hj, rfl⟩
    · exact .inl (.inl hy)
    · exact .inl (.inr ⟨j, by rw [List.take_length]; exact List.mem_of_mem_take hj, rfl⟩))
  rw [List.length_map, List.length_append, hh] at h1
  have e : ([32] : List UInt8).length = 1 := rfl
  rw [e] at h1
  have : (2 + (numW c q).length) * (1 + 43) ≤ 6 * 44 := Nat.mul_le_mul (by omega) (by omega)
  omega
theorem call_of_acc (c : Cl) (hr : rightB c.f = true) : callS c = cat (cat (cat (cat (cat (cat (cat (cat (cat (cat (accS c (ownL (c.f 0)).length) (if c.ok then ⟨#[32, 61, 32, 111, 107, 32]⟩ else ⟨#[32, 61, 32, 110, 111, 32]⟩)) (intS c.val)) ⟨#[32, 91]⟩) (intS c.bgn)) ⟨#[32]⟩) (intS c.at_)) ⟨#[32]⟩) (intS c.end_)) ⟨#[93, 32, 64]⟩) (intS c.tick) := by
  unfold callS accS wordsW
  rw [if_pos hr, List.map_append, join_app _ _ _ (by simp [headW])]
  cases hk : c.ok <;> simp [tailW, joinTail, cat, Str, ansS, hk]
theorem names_at (k : Nat) (h : k < 8) : (#[.string ⟨#[110, 111, 110, 101]⟩, .string ⟨#[103, 101, 116]⟩, .string ⟨#[115, 101, 116]⟩, .string ⟨#[100, 101, 108]⟩, .string ⟨#[119, 97, 105, 116]⟩, .string ⟨#[99, 108, 101, 97, 114]⟩, .string ⟨#[99, 108, 111, 115, 101]⟩, .string ⟨#[108, 105, 109, 105, 116]⟩] : Array Value)[k]? = some (.string (nmS k)) := by
  match k, h with
  | 0, _ => rfl
  | 1, _ => rfl
  | 2, _ => rfl
  | 3, _ => rfl
  | 4, _ => rfl
  | 5, _ => rfl
  | 6, _ => rfl
  | 7, _ => rfl
set_option maxHeartbeats 4000000 in
set_option maxRecDepth 100000 in
theorem rCall (c : Cl) (h : Ok c) (w : World) : Calls Tryd.prog 6 #[.agg #[.int .i64 c.client, .int .i64 c.id, .int .i64 (c.f 0), .int .i64 (c.f 1), .int .i64 (c.f 2), .int .i64 (c.f 3), .int .i64 (c.f 4), .int .i64 c.bgn, .int .i64 c.at_, .int .i64 c.end_, .int .i64 c.tick, .bool c.ok, .int .i64 c.val]] w fun e w' => e = .returned (.string (callS c)) ∧ Ext w w' := by
  have HK := Lib.hid h
  have hB : Blk (w.alloc (.cells (#[.int .i64 c.client, .int .i64 c.id, .int .i64 (c.f 0), .int .i64 (c.f 1), .int .i64 (c.f 2), .int .i64 (c.f 3), .int .i64 (c.f 4), .int .i64 c.bgn, .int .i64 c.at_, .int .i64 c.end_, .int .i64 c.tick, .bool c.ok, .int .i64 c.val]) 25)) w.heap.size (#[.int .i64 c.client, .int .i64 c.id, .int .i64 (c.f 0), .int .i64 (c.f 1), .int .i64 (c.f 2), .int .i64 (c.f 3), .int .i64 (c.f 4), .int .i64 c.bgn, .int .i64 c.at_, .int .i64 c.end_, .int .i64 c.tick, .bool c.ok, .int .i64 c.val]) 25 := Blk.new _ _ _
  have hE0 : Ext w (w.alloc (.cells (#[.int .i64 c.client, .int .i64 c.id, .int .i64 (c.f 0), .int .i64 (c.f 1), .int .i64 (c.f 2), .int .i64 (c.f 3), .int .i64 (c.f 4), .int .i64 c.bgn, .int .i64 c.at_, .int .i64 c.end_, .int .i64 c.tick, .bool c.ok, .int .i64 c.val]) 25)) := (Below.refl _ _).alloc (Nat.le_refl _) _
  have HB := Lib.hid (And.intro hB hE0)
  clear h hB hE0
  by_cases hr : rightB c.f = true
  · have HR := Lib.hid hr
    have hk := right_kind hr
    obtain ⟨kk, hkk⟩ : ∃ kk : Nat, c.f 0 = kk := ⟨(c.f 0).toNat, by omega⟩
    have hk8 : kk < 8 := by omega
    have HKi := Lib.hid hkk
    clear hr hk hkk
    go_enter Tryd.func6, Tryd.ntmps6
    go_wp2_with fail
    refine (rRight c.f _).mono ?_
    rw [HR.out]
    rintro e w0 ⟨rfl, hE1⟩
    have HC0 := Lib.hid (show ∀ W, Ext w0 W → Blk W w.heap.size (#[.int .i64 c.client, .int .i64 c.id, .int .i64 (c.f 0), .int .i64 (c.f 1), .int .i64 (c.f 2), .int .i64 (c.f 3), .int .i64 (c.f 4), .int .i64 c.bgn, .int .i64 c.at_, .int .i64 c.end_, .int .i64 c.tick, .bool c.ok, .int .i64 c.val]) 25 from fun W hW => (HB.out.1.ext hE1).ext hW)
    have HX0 := Lib.hid (HB.out.2.trans hE1)
    clear hE1
    go_wp2_with fail
    have hNm : Blk (w0.alloc (.cells (#[.string ⟨#[110, 111, 110, 101]⟩, .string ⟨#[103, 101, 116]⟩, .string ⟨#[115, 101, 116]⟩, .string ⟨#[100, 101, 108]⟩, .string ⟨#[119, 97, 105, 116]⟩, .string ⟨#[99, 108, 101, 97, 114]⟩, .string ⟨#[99, 108, 111, 115, 101]⟩, .string ⟨#[108, 105, 109, 105, 116]⟩]) 9)) w0.heap.size (#[.string ⟨#[110, 111, 110, 101]⟩, .string ⟨#[103, 101, 116]⟩, .string ⟨#[115, 101, 116]⟩, .string ⟨#[100, 101, 108]⟩, .string ⟨#[119, 97, 105, 116]⟩, .string ⟨#[99, 108, 101, 97, 114]⟩, .string ⟨#[99, 108, 111, 115, 101]⟩, .string ⟨#[108, 105, 109, 105, 116]⟩]) 9 := Blk.new _ _ _
    have hE01 : Ext w0 (w0.alloc (.cells (#[.string ⟨#[110, 111, 110, 101]⟩, .string ⟨#[103, 101, 116]⟩, .string ⟨#[115, 101, 116]⟩, .string ⟨#[100, 101, 108]⟩, .string ⟨#[119, 97, 105, 116]⟩, .string ⟨#[99, 108, 101, 97, 114]⟩, .string ⟨#[99, 108, 111, 115, 101]⟩, .string ⟨#[108, 105, 109, 105, 116]⟩]) 9)) := (Below.refl _ _).alloc (Nat.le_refl _) _
    obtain ⟨w1, hw1⟩ : ∃ W, w0.alloc (.cells (#[.string ⟨#[110, 111, 110, 101]⟩, .string ⟨#[103, 101, 116]⟩, .string ⟨#[115, 101, 116]⟩, .string ⟨#[100, 101, 108]⟩, .string ⟨#[119, 97, 105, 116]⟩, .string ⟨#[99, 108, 101, 97, 114]⟩, .string ⟨#[99, 108, 111, 115, 101]⟩, .string ⟨#[108, 105, 109, 105, 116]⟩]) 9) = W := ⟨_, rfl⟩
    rw [hw1] at hNm hE01 ⊢
    have HX1 := Lib.hid (HX0.out.trans hE01)
    have HC := Lib.hid (show ∀ W, Ext w1 W → Blk W w.heap.size (#[.int .i64 c.client, .int .i64 c.id, .int .i64 (c.f 0), .int .i64 (c.f 1), .int .i64 (c.f 2), .int .i64 (c.f 3), .int .i64 (c.f 4), .int .i64 c.bgn, .int .i64 c.at_, .int .i64 c.end_, .int .i64 c.tick, .bool c.ok, .int .i64 c.val]) 25 from fun W hW => HC0.out W (hE01.trans hW))
    have HNm := Lib.hid (show ∀ W, Ext w1 W → W.cell? ⟨w0.heap.size, kk, none⟩ = some (.string (nmS kk)) from fun W hW => (hNm.ext hW).cell (names_at kk hk8))
    clear hNm hE01 hw1
    obtain ⟨s1, hs1⟩ : ∃ s, cat (intS c.client) ⟨#[46]⟩ = s := ⟨_, rfl⟩
    obtain ⟨s2, hs2⟩ : ∃ s, cat s1 (intS c.id) = s := ⟨_, rfl⟩
    obtain ⟨s3, hs3⟩ : ∃ s, cat s2 ⟨#[32]⟩ = s := ⟨_, rfl⟩
    obtain ⟨s4, hs4⟩ : ∃ s, cat s3 (nmS kk) = s := ⟨_, rfl⟩
    have z1 := intS_size HK.out.client
    have z2 := intS_size HK.out.id
    have z3 : s1.size ≤ 22 := by rw [← hs1, cat_size]; have : (ByteArray.mk #[46]).size = 1 := rfl; omega
    have z4 : s2.size ≤ 43 := by rw [← hs2, cat_size]; omega
    have z5 : s3.size ≤ 44 := by rw [← hs3, cat_size]; have : (ByteArray.mk #[32]).size = 1 := rfl; omega
    have z6 := nmS_size kk
    have a1 := sum _ _ _ hs1 (by omega) (by decide)
    have a2 := sum _ _ _ hs2 (by omega) (by omega)
    have a3 := sum _ _ _ hs3 (by omega) (by decide)
    have a4 := sum _ _ _ hs4 (by omega) (by omega)
    have HS4 := Lib.hid (show accS c 0 = s4 by rw [acc_zero, hs1, hs2, hs3, show (c.f 0).toNat = kk by rw [HKi.out]; rfl, hs4])
    have p0 : (0 : Int) ≤ (kk : Int) := by omega
    have p1 : (kk : Int) < 8 := by omega
    clear hs1 hs2 hs3 hs4 z1 z2 z3 z4 z5 z6
    refine wp_region_segs 17 [([2, 2, 2, 3, 6, 2], false), ([1, 5], false), ([4], false)] (by kernel_rfl) (by kernel_rfl) ?_
    apply segs_cons
    · intro W hW
      have hc : ∀ i, W.cell? ⟨w.heap.size, i, none⟩ = (#[.int .i64 c.client, .int .i64 c.id, .int .i64 (c.f 0), .int .i64 (c.f 1), .int .i64 (c.f 2), .int .i64 (c.f 3), .int .i64 (c.f 4), .int .i64 c.bgn, .int .i64 c.at_, .int .i64 c.end_, .int .i64 c.tick, .bool c.ok, .int .i64 c.val] : Array Value)[i]? := fun i => (HC.out W ((Ext.drew _).trans hW)).cells i
      have hn := HNm.out W ((Ext.drew _).trans hW)
      have hkk := HKi.out
      simp only [runsT, runsF, rep, pick]
      go_wp2_with fail
      exact ⟨rfl, rfl⟩
    simp only [runsT, runsF, rep, left]
    go_wp2_with fail
    refine (rInt c.client HK.out.client _).mono ?_
    rintro e w2 ⟨rfl, hE2⟩
    have HX2 := Lib.hid (show Ext w1 w2 from Ext.trans (Ext.drew _) hE2)
    go_wp2_with fail
    refine ⟨fun _ => hE2, ?_⟩
    apply segs_cons
    · intro W hW
      simp only [runsT, runsF, rep, pick]
      go_wp2_with fail
      exact ⟨rfl, rfl⟩
    simp only [runsT, runsF, rep, left]
    go_wp2_with fail
    clear hE2
    refine (rInt c.id HK.out.id _).mono ?_
    rintro e w3 ⟨rfl, hE3⟩
    have HX3 := Lib.hid (show Ext w1 w3 from HX2.out.trans hE3)
    go_wp2_with fail
    refine ⟨fun _ => hE3, ?_⟩
    apply segs_cons
    · intro W hW
      simp only [runsT, runsF, rep, pick]
      go_wp2_with fail
      exact ⟨rfl, rfl⟩
    simp only [runsT, runsF, rep, left]
    have hc : ∀ i, w3.cell? ⟨w.heap.size, i, none⟩ = (#[.int .i64 c.client, .int .i64 c.id, .int .i64 (c.f 0), .int .i64 (c.f 1), .int .i64 (c.f 2), .int .i64 (c.f 3), .int .i64 (c.f 4), .int .i64 c.bgn, .int .i64 c.at_, .int .i64 c.end_, .int .i64 c.tick, .bool c.ok, .int .i64 c.val] : Array Value)[i]? := fun i => (HC.out w3 HX3.out).cells i
    go_wp2_with fail
    clear hc a1 a2 a3 a4
    refine (rNumbers c.f _).mono ?_
    rintro e w4 ⟨v, rfl, hO, hE4⟩
    obtain ⟨n, hn⟩ : ∃ n, (ownL (c.f 0)).length = n := ⟨_, rfl⟩
    rw [hn] at hO
    obtain ⟨a, cap, bk, rfl, hle, _, ha, hbk, hcl⟩ := Row.Own.open' hO
    have HX4 := Lib.hid (HX3.out.trans hE4)
    have hn4 : n ≤ 4 := by rw [← hn]; exact ownL_len _
    have HNn := Lib.hid hn
    have HCl := Lib.hid (show ∀ W, Ext w4 W → ∀ j, j < n → W.cell? ⟨bk, j, none⟩ = some (.int .i64 (c.f ((ownL (c.f 0)).getD j 0))) from fun W hW j hj => by
      have := hcl W hW j (by simpa [RI] using hj)
      rw [this]
      have hj' : j < (ownL (c.f 0)).length := by rw [hn]; exact hj
      simp [List.getD_eq_getElem?_getD, hj'])
    have HA := Lib.hid ha
    clear hO hE4 hn hle ha hbk hcl
    go_wp2_with fail
    go_loopg [4, 6] n (fun g v i wr => ∃ q : Nat, q ≤ n ∧ i = .int .i64 q ∧ v = .string (accS c q) ∧ Ext w4 wr ∧ n - q ≤ g)
    case atStart => exact ⟨0, Nat.zero_le _, rfl, by rw [HS4.out], Ext.refl _, Nat.le_refl _⟩
    case round =>
      obtain ⟨q, hq, rfl, rfl, hX, hg⟩ := hrel
      have HX := Lib.hid hX
      clear hX
      by_cases hlt : q < n
      · have HM := Lib.hid (show n - (q + 1) < gk by omega)
        obtain rfl := HA.out (by omega)
        have hlt' : q < (ownL (c.f 0)).length := by rw [HNn.out]; exact hlt
        obtain ⟨j, hj⟩ : ∃ j, (ownL (c.f 0)).getD q 0 = j := ⟨_, rfl⟩
        have hcj := HCl.out _ HX.out q hlt
        rw [hj] at hcj
        have hjt : (ownL (c.f 0)).take (q + 1) = (ownL (c.f 0)).take q ++ [j] := by
          rw [List.take_succ_eq_append_getElem hlt', ← hj]; simp [List.getD_eq_getElem?_getD, hlt']
        obtain ⟨t1, ht1⟩ : ∃ s, cat ⟨#[32]⟩ (intS (c.f j)) = s := ⟨_, rfl⟩
        have hacc := acc_succ c q j (numW_succ c q j hlt' hjt)
        rw [ht1] at hacc
        have z1 := intS_size (HK.out.f j)
        have z2 := acc_size HK.out q (by omega)
        have z3 : t1.size ≤ 22 := by rw [← ht1, cat_size]; have : (ByteArray.mk #[32]).size = 1 := rfl; omega
        have a1 := sum _ _ _ ht1 (by decide) (by omega)
        have a2 := sum _ _ _ hacc.symm (by omega) (by omega)
        have d : decide ((q : Int) < (n : Int)) = true := decide_eq_true (by omega)
        have d' : decide (q < n) = true := decide_eq_true hlt
        have p0 : (0 : Int) ≤ (q : Int) := by omega
        have p1 : (q : Int) < (n : Int) := by omega
        clear hj hjt ht1 hacc z1 z2 z3 hg hlt'
        go_wp2_with fail
        refine (rInt (c.f j) (HK.out.f j) _).mono ?_
        rintro e w6 ⟨rfl, hE6⟩
        have HX6 := Lib.hid (HX.out.trans hE6)
        clear hE6 hcj
        go_wp2_with fail
        go_roundg (n - (q + 1))
        case measure => exact HM.out
        case rel => exact ⟨q + 1, hlt, by go_num, rfl, HX6.out, Nat.le_refl _⟩
      · obtain rfl : q = n := by omega
        have d : decide ((q : Int) < (q : Int)) = false := decide_eq_false (by omega)
        have hc : ∀ i, wr.cell? ⟨w.heap.size, i, none⟩ = (#[.int .i64 c.client, .int .i64 c.id, .int .i64 (c.f 0), .int .i64 (c.f 1), .int .i64 (c.f 2), .int .i64 (c.f 3), .int .i64 (c.f 4), .int .i64 c.bgn, .int .i64 c.at_, .int .i64 c.end_, .int .i64 c.tick, .bool c.ok, .int .i64 c.val] : Array Value)[i]? := fun i => (HC.out wr (HX4.out.trans HX.out)).cells i
        obtain ⟨u0, hu0⟩ : ∃ s, accS c q = s := ⟨_, rfl⟩
        obtain ⟨us, hus⟩ : ∃ s, (if c.ok then (⟨#[32, 61, 32, 111, 107, 32]⟩ : ByteArray) else ⟨#[32, 61, 32, 110, 111, 32]⟩) = s := ⟨_, rfl⟩
        have z0 : u0.size ≤ 264 := by rw [← hu0]; exact acc_size HK.out q (by omega)
        have zs : us.size = 6 := by rw [← hus]; split <;> rfl
        have y_val := intS_size HK.out.val
        have y_bgn := intS_size HK.out.bgn
        have y_at_ := intS_size HK.out.at_
        have y_end_ := intS_size HK.out.end_
        have y_tick := intS_size HK.out.tick
        have l1 : (ByteArray.mk #[32, 91]).size = 2 := rfl
        have l2 : (ByteArray.mk #[32]).size = 1 := rfl
        have l3 : (ByteArray.mk #[93, 32, 64]).size = 3 := rfl
        obtain ⟨u1, hu1⟩ : ∃ s, cat u0 (us) = s := ⟨_, rfl⟩
        have z1 : u1.size ≤ 285 := by rw [← hu1, cat_size]; omega
        have b0 := sum _ _ _ hu1 (by omega) (by omega)
        obtain ⟨u2, hu2⟩ : ∃ s, cat u1 (intS c.val) = s := ⟨_, rfl⟩
        have z2 : u2.size ≤ 306 := by rw [← hu2, cat_size]; omega
        have b1 := sum _ _ _ hu2 (by omega) (by omega)
        obtain ⟨u3, hu3⟩ : ∃ s, cat u2 (⟨#[32, 91]⟩) = s := ⟨_, rfl⟩
        have z3 : u3.size ≤ 327 := by rw [← hu3, cat_size]; omega
        have b2 := sum _ _ _ hu3 (by omega) (by omega)
        obtain ⟨u4, hu4⟩ : ∃ s, cat u3 (intS c.bgn) = s := ⟨_, rfl⟩
        have z4 : u4.size ≤ 348 := by rw [← hu4, cat_size]; omega
        have b3 := sum _ _ _ hu4 (by omega) (by omega)
        obtain ⟨u5, hu5⟩ : ∃ s, cat u4 (⟨#[32]⟩) = s := ⟨_, rfl⟩
        have z5 : u5.size ≤ 369 := by rw [← hu5, cat_size]; omega
        have b4 := sum _ _ _ hu5 (by omega) (by omega)
        obtain ⟨u6, hu6⟩ : ∃ s, cat u5 (intS c.at_) = s := ⟨_, rfl⟩
        have z6 : u6.size ≤ 390 := by rw [← hu6, cat_size]; omega
        have b5 := sum _ _ _ hu6 (by omega) (by omega)
        obtain ⟨u7, hu7⟩ : ∃ s, cat u6 (⟨#[32]⟩) = s := ⟨_, rfl⟩
        have z7 : u7.size ≤ 411 := by rw [← hu7, cat_size]; omega
        have b6 := sum _ _ _ hu7 (by omega) (by omega)
        obtain ⟨u8, hu8⟩ : ∃ s, cat u7 (intS c.end_) = s := ⟨_, rfl⟩
        have z8 : u8.size ≤ 432 := by rw [← hu8, cat_size]; omega
        have b7 := sum _ _ _ hu8 (by omega) (by omega)
        obtain ⟨u9, hu9⟩ : ∃ s, cat u8 (⟨#[93, 32, 64]⟩) = s := ⟨_, rfl⟩
        have z9 : u9.size ≤ 453 := by rw [← hu9, cat_size]; omega
        have b8 := sum _ _ _ hu9 (by omega) (by omega)
        obtain ⟨u10, hu10⟩ : ∃ s, cat u9 (intS c.tick) = s := ⟨_, rfl⟩
        have z10 : u10.size ≤ 474 := by rw [← hu10, cat_size]; omega
        have b9 := sum _ _ _ hu10 (by omega) (by omega)
        have hfin := call_of_acc c HR.out
        rw [HNn.out, hu0, hus, hu1, hu2, hu3, hu4, hu5, hu6, hu7, hu8, hu9, hu10] at hfin
        have HF := Lib.hid hfin
        have hUs := Lib.hid hus
        rw [hu0]
        clear hu0 hus hfin hg hlt z0 zs l1 l2 l3 y_val y_bgn y_at_ y_end_ y_tick hu1 z1 hu2 z2 hu3 z3 hu4 z4 hu5 z5 hu6 z6 hu7 z7 hu8 z8 hu9 z9 hu10 z10
        cases hok : c.ok with
        | true =>
          obtain rfl : us = ⟨#[32, 61, 32, 111, 107, 32]⟩ := by rw [← hUs.out, hok]; rfl
          go_wp2_with fail
          clear hc b0
          refine wp_region_segs 26 [([3, 3, 2, 3, 2, 3, 2, 3, 2, 3], false), ([2, 12], false), ([2, 9], false), ([2, 6], false), ([2, 3], false), ([2], false)] (by kernel_rfl) (by kernel_rfl) ?_
          apply segs_cons
          · intro W hW
            have hc : ∀ i, W.cell? ⟨w.heap.size, i, none⟩ = (#[.int .i64 c.client, .int .i64 c.id, .int .i64 (c.f 0), .int .i64 (c.f 1), .int .i64 (c.f 2), .int .i64 (c.f 3), .int .i64 (c.f 4), .int .i64 c.bgn, .int .i64 c.at_, .int .i64 c.end_, .int .i64 c.tick, .bool c.ok, .int .i64 c.val] : Array Value)[i]? := fun i => (HC.out W ((HX4.out.trans HX.out).trans hW.of_drew)).cells i
            simp only [runsT, runsF, rep, pick]
            go_wp2_with fail
            exact ⟨rfl, rfl⟩
          simp only [runsT, runsF, rep, left]
          go_wp2_with fail
          refine (rInt c.val HK.out.val _).mono ?_
          rintro e y3 ⟨rfl, hE3⟩
          have HY3 := Lib.hid (show Ext w1 y3 from Ext.trans ((HX4.out.trans HX.out).trans (Ext.drew wr)) hE3)
          go_wp2_with fail
          refine ⟨fun _ => hE3, ?_⟩
          apply segs_cons
          · intro W hW
            simp only [runsT, runsF, rep, pick]
            go_wp2_with fail
            exact ⟨rfl, rfl⟩
          simp only [runsT, runsF, rep, left]
          go_wp2_with fail
          clear hE3
          refine (rInt c.bgn HK.out.bgn _).mono ?_
          rintro e y8 ⟨rfl, hE8⟩
          have HY8 := Lib.hid (show Ext w1 y8 from Ext.trans HY3.out hE8)
          go_wp2_with fail
          refine ⟨fun _ => hE8, ?_⟩
          apply segs_cons
          · intro W hW
            simp only [runsT, runsF, rep, pick]
            go_wp2_with fail
            exact ⟨rfl, rfl⟩
          simp only [runsT, runsF, rep, left]
          go_wp2_with fail
          clear hE8
          refine (rInt c.at_ HK.out.at_ _).mono ?_
          rintro e y13 ⟨rfl, hE13⟩
          have HY13 := Lib.hid (show Ext w1 y13 from Ext.trans HY8.out hE13)
          go_wp2_with fail
          refine ⟨fun _ => hE13, ?_⟩
          apply segs_cons
          · intro W hW
            simp only [runsT, runsF, rep, pick]
            go_wp2_with fail
            exact ⟨rfl, rfl⟩
          simp only [runsT, runsF, rep, left]
          go_wp2_with fail
          clear hE13
          refine (rInt c.end_ HK.out.end_ _).mono ?_
          rintro e y18 ⟨rfl, hE18⟩
          have HY18 := Lib.hid (show Ext w1 y18 from Ext.trans HY13.out hE18)
          go_wp2_with fail
          refine ⟨fun _ => hE18, ?_⟩
          apply segs_cons
          · intro W hW
            simp only [runsT, runsF, rep, pick]
            go_wp2_with fail
            exact ⟨rfl, rfl⟩
          simp only [runsT, runsF, rep, left]
          go_wp2_with fail
          clear hE18
          refine (rInt c.tick HK.out.tick _).mono ?_
          rintro e y23 ⟨rfl, hE23⟩
          have HY23 := Lib.hid (show Ext w1 y23 from Ext.trans HY18.out hE23)
          go_wp2_with fail
          refine ⟨fun _ => hE23, ?_⟩
          apply segs_cons
          · intro W hW
            simp only [runsT, runsF, rep, pick]
            go_wp2_with fail
            exact ⟨rfl, rfl⟩
          simp only [runsT, runsF, rep, left]
          go_wp2_with fail
          go_ret
          rw [HF.out]
          exact ⟨rfl, HX1.out.trans HY23.out⟩
        | false =>
          obtain rfl : us = ⟨#[32, 61, 32, 110, 111, 32]⟩ := by rw [← hUs.out, hok]; rfl
          go_wp2_with fail
          clear hc b0
          refine wp_region_segs 26 [([3, 3, 2, 3, 2, 3, 2, 3, 2, 3], false), ([2, 12], false), ([2, 9], false), ([2, 6], false), ([2, 3], false), ([2], false)] (by kernel_rfl) (by kernel_rfl) ?_
          apply segs_cons
          · intro W hW
            have hc : ∀ i, W.cell? ⟨w.heap.size, i, none⟩ = (#[.int .i64 c.client, .int .i64 c.id, .int .i64 (c.f 0), .int .i64 (c.f 1), .int .i64 (c.f 2), .int .i64 (c.f 3), .int .i64 (c.f 4), .int .i64 c.bgn, .int .i64 c.at_, .int .i64 c.end_, .int .i64 c.tick, .bool c.ok, .int .i64 c.val] : Array Value)[i]? := fun i => (HC.out W ((HX4.out.trans HX.out).trans hW.of_drew)).cells i
            simp only [runsT, runsF, rep, pick]
            go_wp2_with fail
            exact ⟨rfl, rfl⟩
          simp only [runsT, runsF, rep, left]
          go_wp2_with fail
          refine (rInt c.val HK.out.val _).mono ?_
          rintro e y3 ⟨rfl, hE3⟩
          have HY3 := Lib.hid (show Ext w1 y3 from Ext.trans ((HX4.out.trans HX.out).trans (Ext.drew wr)) hE3)
          go_wp2_with fail
          refine ⟨fun _ => hE3, ?_⟩
          apply segs_cons
          · intro W hW
            simp only [runsT, runsF, rep, pick]
            go_wp2_with fail
            exact ⟨rfl, rfl⟩
          simp only [runsT, runsF, rep, left]
          go_wp2_with fail
          clear hE3
          refine (rInt c.bgn HK.out.bgn _).mono ?_
          rintro e y8 ⟨rfl, hE8⟩
          have HY8 := Lib.hid (show Ext w1 y8 from Ext.trans HY3.out hE8)
          go_wp2_with fail
          refine ⟨fun _ => hE8, ?_⟩
          apply segs_cons
          · intro W hW
            simp only [runsT, runsF, rep, pick]
            go_wp2_with fail
            exact ⟨rfl, rfl⟩
          simp only [runsT, runsF, rep, left]
          go_wp2_with fail
          clear hE8
          refine (rInt c.at_ HK.out.at_ _).mono ?_
          rintro e y13 ⟨rfl, hE13⟩
          have HY13 := Lib.hid (show Ext w1 y13 from Ext.trans HY8.out hE13)
          go_wp2_with fail
          refine ⟨fun _ => hE13, ?_⟩
          apply segs_cons
          · intro W hW
            simp only [runsT, runsF, rep, pick]
            go_wp2_with fail
            exact ⟨rfl, rfl⟩
          simp only [runsT, runsF, rep, left]
          go_wp2_with fail
          clear hE13
          refine (rInt c.end_ HK.out.end_ _).mono ?_
          rintro e y18 ⟨rfl, hE18⟩
          have HY18 := Lib.hid (show Ext w1 y18 from Ext.trans HY13.out hE18)
          go_wp2_with fail
          refine ⟨fun _ => hE18, ?_⟩
          apply segs_cons
          · intro W hW
            simp only [runsT, runsF, rep, pick]
            go_wp2_with fail
            exact ⟨rfl, rfl⟩
          simp only [runsT, runsF, rep, left]
          go_wp2_with fail
          clear hE18
          refine (rInt c.tick HK.out.tick _).mono ?_
          rintro e y23 ⟨rfl, hE23⟩
          have HY23 := Lib.hid (show Ext w1 y23 from Ext.trans HY18.out hE23)
          go_wp2_with fail
          refine ⟨fun _ => hE23, ?_⟩
          apply segs_cons
          · intro W hW
            simp only [runsT, runsF, rep, pick]
            go_wp2_with fail
            exact ⟨rfl, rfl⟩
          simp only [runsT, runsF, rep, left]
          go_wp2_with fail
          go_ret
          rw [HF.out]
          exact ⟨rfl, HX1.out.trans HY23.out⟩
  · have HR := Lib.hid (show rightB c.f = false by simpa using hr)
    have e : callS c = ⟨#[]⟩ := by unfold callS; rw [if_neg hr]
    rw [e]
    clear hr e
    go_enter Tryd.func6, Tryd.ntmps6
    go_wp2_with fail
    refine (rRight c.f _).mono ?_
    rw [HR.out]
    rintro e w1 ⟨rfl, hE1⟩
    have HX1 := Lib.hid (HB.out.2.trans hE1)
    clear hE1
    go_wp2_with fail
    go_ret
    exact ⟨rfl, HX1.out⟩
end Go.Proofs.YtjlomdhaigejhaaDoor.Trc
