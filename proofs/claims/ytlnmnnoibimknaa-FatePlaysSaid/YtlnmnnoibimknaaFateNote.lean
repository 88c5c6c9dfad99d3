/-
  The document's answer for layer 30: Get and Note over a row of the call's own.
-/
import Derived.Test.YtlnmnnoibimknaaFatePT
import Derived.Test.YtlnmnnoibimknaaOwnRows
namespace Go.Proofs.Ytlnmnnoibimknaa.Fa
open Go.RowKit Go.Seg Go.Open Go.Lib Rk TrII

/-- The document's row. -/
def Row (w : World) (B : Nat) (u : Value) (l : List (Int × Int)) : Prop := w.ownsRow B 38 2 u l.length (cellsP l)
theorem cellsP_eq (l : List (Int × Int)) : cellsP l = cells2 (fun x => .int .i64 x.1) (fun x => .int .i64 x.2) l := rfl

theorem Row.openR {w : World} {B : Nat} {u : Value} {l : List (Int × Int)} (h : Row w B u l) : ∃ (a : Option Addr) (cap b : Nat) (F : Nat → Int × Int), u = .slice a l.length cap ∧ (0 < l.length → a = some ⟨b, 0, none⟩) ∧ (∀ (i : Nat) (h : i < l.length), F i = l[i]) ∧
    (∀ W, Ext w W → ∀ i, i < l.length → W.cell? ⟨b, 0 + i * 2, none⟩ = some (.int .i64 (F i).1) ∧ W.cell? ⟨b, 0 + i * 2 + 1, none⟩ = some (.int .i64 (F i).2)) := by
  obtain ⟨a, cap, b, hu, _, _, ha, _, hc⟩ := own_open h
  refine ⟨a, cap, b, fun i => l.getD i (0, 0), hu, ha, fun i h => by simp [List.getD_eq_getElem?_getD, h], fun W hW i hi => ?_⟩
  obtain ⟨h1, h2⟩ := cells2_get (fun x : Int × Int => Value.int .i64 x.1) (fun x => .int .i64 x.2) l i hi
  have e : l.getD i (0, 0) = l[i] := by simp [List.getD_eq_getElem?_getD, hi]
  rw [Nat.zero_add, hc W hW (i * 2) (by omega), hc W hW (i * 2 + 1) (by omega), cellsP_eq, h1, h2]
  dsimp only
  rw [e]
  exact ⟨rfl, rfl⟩

def noteOk (l : List (Int × Int)) (id k : Int) : Bool := known k && (Rk.look cint id l).isNone
def noteL (l : List (Int × Int)) (id k : Int) : List (Int × Int) := if noteOk l id k = true then ins cint id k l else l

theorem rGet_any (u : Value) (B : Nat) (l : List (Int × Int)) (id : Int) (w : World) (h : Row w B u l) (hl : l.length ≤ 1000000) :
    Calls Try.prog 25 #[u, .int .i64 id] w fun e w' => e = .returned (.tuple #[.int .i64 ((Rk.look cint id l).getD 0), .bool (Rk.look cint id l).isSome]) ∧ w = w' := by
  obtain ⟨a, cap, b, F, rfl, ha, hF, hc⟩ := h.openR
  refine (rGet a l.length cap b 0 F id w ha hl (hc w (Ext.refl _))).mono ?_
  rintro e w' ⟨(⟨i, hi, hk, hn, rfl⟩ | ⟨hn, rfl⟩), rfl⟩
  · have := look_ix id l i hi (by rw [← hF i hi]; exact hk) (fun j hj => by rw [← hF j (by omega)]; exact hn j hj)
    rw [this, hF i hi]
    exact ⟨rfl, rfl⟩
  · have := look_no id l (fun j hj => by rw [← hF j hj]; exact hn j hj)
    rw [this]
    exact ⟨rfl, rfl⟩

theorem rCount_any (u : Value) (B : Nat) (l : List (Int × Int)) (k : Int) (w : World) (h : Row w B u l) (hl : l.length ≤ 1000000) :
    Calls Try.prog 26 #[u, .int .i64 k] w fun e w' => e = .returned (.int .i64 (cnt k l)) ∧ w = w' := by
  obtain ⟨a, cap, b, F, rfl, ha, hF, hc⟩ := h.openR
  refine (rCount a l.length cap b 0 F k w ha hl (hc w (Ext.refl _))).mono ?_
  rintro e w' ⟨rfl, rfl⟩
  rw [cntF_all l k F hF]
  exact ⟨rfl, rfl⟩

theorem rPut_any (u : Value) (B : Nat) (l : List (Int × Int)) (hu : Up cint l) (id k : Int) (w : World) (h : Row w B u l) (hl : l.length ≤ 1000000) (hk : Rk.look cint id l = none) :
    Calls Try.prog 52 #[u, .int .i64 id, .int .i64 k] w fun e w' => ∃ u', e = .returned u' ∧ Row w' w.heap.size u' (ins cint id k l) ∧ Ext w w' := by
  obtain ⟨a, cap, b, F, rfl, ha, hF, hc⟩ := h.openR
  refine (rPut a l.length cap b 0 F id k w ha hl hc).mono ?_
  rintro e w' ⟨u', rfl, ho, hb⟩
  rw [putR_ins l hu id k hk F hF] at ho
  exact ⟨u', rfl, ho, hb⟩

set_option maxHeartbeats 1000000 in
theorem rNote_any (u : Value) (B : Nat) (l : List (Int × Int)) (hu : Up cint l) (id k : Int) (w : World) (h : Row w B u l) (hB : B ≤ w.heap.size) (hl : l.length ≤ 1000000) :
    Calls Try.prog 24 #[u, .int .i64 id, .int .i64 k] w fun e w' => ∃ u', e = .returned (.tuple #[u', .bool (noteOk l id k)]) ∧ Row w' B u' (noteL l id k) ∧ Ext w w' := by
  have HU := Lib.hid hu
  have H := Lib.hid h
  obtain ⟨a, cap, b, F, rfl, _⟩ := h.openR
  clear hu h
  cases hs : Rk.look cint id l with
  | some v =>
    have e0 : noteOk l id k = false := by unfold noteOk; rw [hs]; simp
    have e1 : noteL l id k = l := by unfold noteL; rw [e0]; simp
    rw [e0, e1]
    have HS := Lib.hid hs
    clear e0 e1 hs
    go_enter Try.func24, Try.ntmps24
    go_wp2_with fail
    refine (rGet_any _ _ _ _ _ H.out hl).mono ?_
    rw [HS.out]
    rintro e w' ⟨rfl, rfl⟩
    go_wp2_with fail
    go_ret2
    exact ⟨_, rfl, H.out, Ext.refl _⟩
  | none =>
    have HS := Lib.hid hs
    by_cases hk : known k = true
    · have e0 : noteOk l id k = true := by unfold noteOk; rw [hs, hk]; rfl
      have e1 : noteL l id k = ins cint id k l := by unfold noteL; rw [e0]; simp
      rw [e0, e1]
      obtain ⟨k1, k5⟩ := known_le hk
      have d1 : decide (k < 1) = false := decide_eq_false (by omega)
      have d2 : decide (5 < k) = false := decide_eq_false (by omega)
      clear e0 e1 hs hk
      go_enter Try.func24, Try.ntmps24
      go_wp2_with fail
      refine (rGet_any _ _ _ _ _ H.out hl).mono ?_
      rw [HS.out]
      rintro e w' ⟨rfl, rfl⟩
      go_wp2_with fail
      refine (rPut_any _ _ _ HU.out _ _ _ H.out hl HS.out).mono ?_
      rintro e w1 ⟨u', rfl, hR, hE⟩
      have HR := Lib.hid hR
      clear hR
      go_wp2_with fail
      go_ret2
      exact ⟨_, rfl, own_base HR.out hB, hE⟩
    · have hk' : known k = false := by simpa using hk
      have e0 : noteOk l id k = false := by unfold noteOk; rw [hk']; rfl
      have e1 : noteL l id k = l := by unfold noteL; rw [e0]; simp
      rw [e0, e1]
      have hc : k < 1 ∨ 5 < k := by
        by_cases h1 : k < 1
        · exact .inl h1
        · by_cases h2 : 5 < k
          · exact .inr h2
          · exfalso
            apply hk
            unfold known
            simp
            omega
      clear e0 e1 hs hk hk'
      rcases hc with h1 | h1
      · have d1 : decide (k < 1) = true := decide_eq_true h1
        clear h1
        go_enter Try.func24, Try.ntmps24
        go_wp2_with fail
        refine (rGet_any _ _ _ _ _ H.out hl).mono ?_
        rw [HS.out]
        rintro e w' ⟨rfl, rfl⟩
        go_wp2_with fail
        go_ret2
        exact ⟨_, rfl, H.out, Ext.refl _⟩
      · have d1 : decide (k < 1) = false := decide_eq_false (by omega)
        have d2 : decide (5 < k) = true := decide_eq_true h1
        clear h1
        go_enter Try.func24, Try.ntmps24
        go_wp2_with fail
        refine (rGet_any _ _ _ _ _ H.out hl).mono ?_
        rw [HS.out]
        rintro e w' ⟨rfl, rfl⟩
        go_wp2_with fail
        go_ret2
        exact ⟨_, rfl, H.out, Ext.refl _⟩
end Go.Proofs.Ytlnmnnoibimknaa.Fa
