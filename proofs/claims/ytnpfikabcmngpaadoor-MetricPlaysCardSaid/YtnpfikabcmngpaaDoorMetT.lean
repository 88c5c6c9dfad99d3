/-
  Package metric: the plain law of counting: in whatever order, the counters are the same.
-/
import Derived.Test.YtnpfikabcmngpaaDoorMetB
namespace Go.Proofs.YtnpfikabcmngpaaDoor.Met
open Go.RowKit Go.Seg Go.Open Go.Lib

/-- Thirteen counters. -/
def vec (g : Nat → Int) : List Int := (List.range 13).map fun k => wr (g k)
theorem vec_len (g : Nat → Int) : (vec g).length = 13 := by simp [vec]
theorem vec_getD (g : Nat → Int) {k : Nat} (h : k < 13) : (vec g).getD k 0 = wr (g k) := by simp [vec, List.getD_eq_getElem?_getD, h]
theorem vec_inR (g : Nat → Int) : InR (vec g) := fun k => by
  by_cases h : k < 13
  · rw [vec_getD g h]; exact wr_in _
  · rw [List.getD_eq_getElem?_getD, List.getElem?_eq_none (by rw [vec_len]; omega)]; exact ⟨Int.le_refl _, by decide⟩
theorem wr_add (a b : Int) : wr (wr a + b) = wr (a + b) := by unfold wr; simp only [IntKind.wrap_u64]; omega
def one (kind n : Int) (k : Nat) : Int := if kind = (k : Int) then n else 0
theorem addL_vec (g : Nat → Int) (kind n : Int) : addL (vec g) kind n = vec (fun k => g k + one kind n k) := by
  unfold addL
  split
  · rename_i h
    obtain ⟨j, rfl⟩ : ∃ j : Nat, kind = j := ⟨kind.toNat, by omega⟩
    rw [Int.toNat_natCast, vec_getD g (by omega), wr_add]
    apply List.ext_getElem
    · simp [vec_len]
    · intro i h1 h2
      rw [vec_len] at h2
      rw [List.getElem_set]
      simp only [vec, List.getElem_map, List.getElem_range, one]
      by_cases e : j = i
      · subst e; simp
      · rw [if_neg e, if_neg (by omega), Int.add_zero]
  · rename_i h
    unfold vec
    apply List.map_congr_left
    intro k hk
    rw [List.mem_range] at hk
    show wr (g k) = wr (g k + one kind n k)
    unfold one
    rw [if_neg (by omega), Int.add_zero]
def mv (a b : Int) (k : Nat) : Int := if a < b then one 8 (wr (u64 b - u64 a)) k else one 9 (wr (u64 a - u64 b)) k
theorem moveL_vec (g : Nat → Int) (a b : Int) : moveL (vec g) a b = vec (fun k => g k + mv a b k) := by
  unfold moveL mv
  split <;> rw [addL_vec]
/-- What a step adds. -/
def Dl (f : Int × Int × Int) (k : Nat) : Int := one f.1 (u64 f.2.1) k + mv f.2.1 f.2.2 k
def stA (l : List Int) (f : Int × Int × Int) : List Int := moveL (addL l f.1 (u64 f.2.1)) f.2.1 f.2.2
def stB (l : List Int) (f : Int × Int × Int) : List Int := addL (moveL l f.2.1 f.2.2) f.1 (u64 f.2.1)
theorem stA_vec (g : Nat → Int) (f : Int × Int × Int) : stA (vec g) f = vec (fun k => g k + Dl f k) := by
  unfold stA Dl
  rw [addL_vec, moveL_vec]
  congr 1; funext k; omega
theorem stB_vec (g : Nat → Int) (f : Int × Int × Int) : stB (vec g) f = vec (fun k => g k + Dl f k) := by
  unfold stB Dl
  rw [moveL_vec, addL_vec]
  congr 1; funext k; omega
def runS (st : List Int → Int × Int × Int → List Int) (F : Nat → Int × Int × Int) : Nat → List Int
  | 0 => List.replicate 13 0
  | i + 1 => st (runS st F i) (F i)
def sumN (G : Nat → Int) : Nat → Int
  | 0 => 0
  | n + 1 => sumN G n + G n
theorem zero_vec : List.replicate 13 (0 : Int) = vec (fun _ => 0) := by decide
theorem runS_vec {st : List Int → Int × Int × Int → List Int} (hst : ∀ g f, st (vec g) f = vec (fun k => g k + Dl f k)) (F : Nat → Int × Int × Int) : ∀ n, runS st F n = vec (fun k => sumN (fun i => Dl (F i) k) n)
  | 0 => zero_vec
  | n + 1 => by simp only [runS, runS_vec hst F n, hst, sumN]
theorem sumN_congr {G H : Nat → Int} : ∀ {n : Nat}, (∀ i, i < n → G i = H i) → sumN G n = sumN H n
  | 0, _ => rfl
  | n + 1, h => by simp only [sumN]; rw [sumN_congr (fun i hi => h i (by omega)), h n (by omega)]
theorem sumN_shift (G : Nat → Int) : ∀ n, sumN (fun i => G (i + 1)) n + G 0 = sumN G (n + 1)
  | 0 => by simp [sumN]
  | n + 1 => by have := sumN_shift G n; simp only [sumN] at this ⊢; omega
theorem sumN_rot1 (G : Nat → Int) (n : Nat) : sumN (fun i => G ((i + 1) % n)) n = sumN G n := by
  cases n with
  | zero => rfl
  | succ m =>
    show sumN (fun i => G ((i + 1) % (m + 1))) m + G ((m + 1) % (m + 1)) = _
    rw [Nat.mod_self, ← sumN_shift, sumN_congr (H := fun i => G (i + 1)) (fun i hi => by rw [Nat.mod_eq_of_lt (by omega)])]
theorem sumN_rot (G : Nat → Int) (n : Nat) : ∀ t, sumN (fun i => G ((i + t) % n)) n = sumN G n
  | 0 => sumN_congr fun i hi => by rw [Nat.add_zero, Nat.mod_eq_of_lt hi]
  | t + 1 => by
    rw [← sumN_rot G n t, ← sumN_rot1 (fun i => G ((i + t) % n)) n]
    refine sumN_congr fun i hi => ?_
    rw [Nat.mod_add_mod, show i + 1 + t = i + (t + 1) by omega]
theorem order_same (F : Nat → Int × Int × Int) (n t : Nat) : runS stB (fun i => F ((i + t) % n)) n = runS stA F n := by
  rw [runS_vec stA_vec, runS_vec stB_vec]
  congr 1; funext k
  exact sumN_rot (fun i => Dl (F i) k) n t
theorem runS_inR {st : List Int → Int × Int × Int → List Int} (hst : ∀ g f, st (vec g) f = vec (fun k => g k + Dl f k)) (F : Nat → Int × Int × Int) (n : Nat) : InR (runS st F n) := by rw [runS_vec hst]; exact vec_inR _
theorem get_one (l : List Int) {i : Int} (hi : 0 < i) : getL (addL l 0 1) i = getL l i := by
  have e : addL l 0 1 = l.set 0 (wr (l.getD 0 0 + 1)) := by unfold addL; rw [if_pos (by omega)]; rfl
  rw [e]
  unfold getL
  split
  · obtain ⟨k, rfl⟩ : ∃ k : Nat, i = k := ⟨i.toNat, by omega⟩
    rw [Int.toNat_natCast, List.getD_eq_getElem?_getD, List.getElem?_set_ne (by omega), List.getD_eq_getElem?_getD]
  · rfl
theorem get_zero (l : List Int) (hl : l.length = 13) : getL (addL l 0 1) 0 = wr (getL l 0 + 1) := by
  unfold getL addL
  rw [if_pos (by omega), if_pos (by omega), if_pos (by omega)]
  show (l.set 0 _).getD 0 0 = wr (l.getD 0 0 + 1)
  rw [List.getD_eq_getElem?_getD, List.getElem?_set_self (by omega)]
  rfl
end Go.Proofs.YtnpfikabcmngpaaDoor.Met
