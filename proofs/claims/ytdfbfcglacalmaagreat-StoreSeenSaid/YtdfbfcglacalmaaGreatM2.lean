/-
  Slices of one's own of any element, as lists: opened, read element by element, grown by one. No program in sight; fewer than 1,000,000 elements; no other condition.
  PLAIN LAW: the ranked tree of package rank, as a Lean datatype: put, drop, find, at, and what they do to the list of keys and things in order. No program in sight; no condition.
-/
import Derived.Test.YtdfbfcglacalmaaGreatM1
section
namespace Go.Row
open Go.RowKit Go.Seg Go.Open Go.Lib

theorem flat_length {α : Type} (f : α → List Value) (n : Nat) (hf : ∀ x, (f x).length = n) : ∀ l : List α, (l.flatMap f).length = l.length * n
  | [] => by simp
  | x :: l => by
    rw [List.flatMap_cons, List.length_append, hf, flat_length f n hf l, List.length_cons, Nat.add_mul, Nat.one_mul, Nat.add_comm]
theorem flat_get {α : Type} (f : α → List Value) (n : Nat) (hf : ∀ x, (f x).length = n) : ∀ (l : List α) (i : Nat) (h : i < l.length) (j : Nat), j < n → (l.flatMap f)[i * n + j]? = (f l[i])[j]?
  | [], i, h, j, _ => by simp at h
  | x :: l, 0, _, j, hj => by
    rw [List.flatMap_cons, Nat.zero_mul, Nat.zero_add, List.getElem?_append_left (by rw [hf]; exact hj)]
    rfl
  | x :: l, i + 1, h, j, hj => by
    have h' : i < l.length := by simpa using h
    rw [List.flatMap_cons, List.getElem?_append_right (by rw [hf, Nat.add_mul]; omega), hf]
    have e : (i + 1) * n + j - n = i * n + j := by rw [Nat.add_mul]; omega
    rw [e, flat_get f n hf l i h' j hj]
    rfl

variable {P : Program} {α : Type} (R : Ty P) (f : α → List Value)
/-- A slice of one's own of what f lays down. -/
def RowG (w : World) (B : Nat) (u : Value) (l : List α) : Prop := Own R w B u l.length (l.flatMap f)
variable {R f} {w w' : World} {B B' : Nat} {u : Value} {l : List α}
theorem RowG.ext (h : RowG R f w B u l) (e : Ext w w') : RowG R f w' B u l := Own.ext h e
theorem RowG.base (h : RowG R f w B u l) (e : B' ≤ B) : RowG R f w B' u l := Own.base h e
theorem RowG.nil (w : World) (B : Nat) : RowG R f w B (.slice none 0 0) ([] : List α) := Own.nil w B
theorem RowG.chg {S : Nat → Prop} (h : RowG R f w B u l) (hc : Chg S w w') (hn : Off S w R.e) : RowG R f w' B u l := own_chg h hc hn
theorem RowG.openG [Inhabited α] (hf : ∀ x, (f x).length = R.size) (h : RowG R f w B u l) : ∃ (a : Option Addr) (cap b : Nat) (F : Nat → α), u = .slice a l.length cap ∧ l.length ≤ cap ∧ (0 < l.length → a = some ⟨b, 0, none⟩) ∧ (∀ (i : Nat) (h : i < l.length), F i = l[i]) ∧
    (∀ W, Ext w W → ∀ i, i < l.length → ∀ j, j < R.size → W.cell? ⟨b, i * R.size + j, none⟩ = (f (F i))[j]?) := by
  obtain ⟨a, cap, b, hu, hle, _, ha, _, hc⟩ := Own.open' h
  refine ⟨a, cap, b, fun i => l.getD i default, hu, hle, ha, fun i h => by simp [List.getD_eq_getElem?_getD, h], fun W hW i hi j hj => ?_⟩
  have e : l.getD i default = l[i] := by simp [List.getD_eq_getElem?_getD, hi]
  have hlt : i * R.size + j < l.length * R.size := by
    have : (i + 1) * R.size ≤ l.length * R.size := Nat.mul_le_mul_right _ hi
    rw [Nat.add_mul] at this
    omega
  dsimp only
  rw [hc W hW _ hlt, flat_get f R.size hf l i hi j hj, e]
theorem RowG.val (h : RowG R f w B u l) : ∃ a cap, u = .slice a l.length cap := by
  obtain ⟨a, cap, hv, _⟩ := Own.val h
  exact ⟨a, cap, hv⟩
/-- An element, loaded whole. -/
theorem loadE {W : World} {b n i : Nat} {x : List Value} (hx : x.length = n) (hc : ∀ j, j < n → W.cell? ⟨b, i * n + j, none⟩ = x[j]?) : (loadCellsFrom ⟨b, i * n, none⟩ 0 n #[]).run P W = .ok x.toArray W := by
  subst hx
  have := run_loadCells_list (P := P) W ⟨b, i * x.length, none⟩ x (fun j v hv => by
    have hadd : (⟨b, i * x.length, none⟩ : Addr).add j = ⟨b, i * x.length + j, none⟩ := by unfold Addr.add; split <;> simp_all
    have hj : j < x.length := (List.getElem?_eq_some_iff.1 hv).1
    rw [hadd, hc j hj]
    exact hv)
  simpa [loadCells] using this
/-- Grown by one that was laid in a block of its own. -/
theorem appG {W W0 : World} {ops : Array Oper} {r : List Oper} {o : Oper} {a : Act} {Q : Exit → Act → World → Prop} (hgd : o.guard = none) (s x : Operand)
    (ho : o.op = .call { callee := .builtin .append, args := #[s, x], argTypes := #[R.t, R.t] }) (v : Value) (l : List α) (hs : a.eval s = v) (hown : RowG R f W B v l) (y : α) (cs : Array Value) (hcs : cs.toList = f y) (hf : (f y).length = R.size) (h1 : ∀ u ∈ f y, u.oneCell' = true)
    (g : Nat) (hx : a.eval x = .slice (some ⟨g, 0, none⟩) 1 1) (hg : g = W.heap.size) (h63 : l.length + 1 ≤ 1000000) (hE : Ext W0 W) (hB : W0.heap.size ≤ B) (hB' : B ≤ W.heap.size)
    (h : ∀ a' cap w', RowG R f w' B (.slice a' (l.length + 1) cap) (l ++ [y]) → Ext W0 w' → w'.heap.size ≥ W.heap.size → (∀ k, v.ownBlock ≠ some k → k < W.heap.size → w'.heap[k]? = W.heap[k]?) → wpList P ops Q r (a.put o.dst (.slice a' (l.length + 1) cap)) w') :
    wpList P ops Q (o :: r) a (W.alloc (.cells cs R.e)) := by
  subst hg
  have hA : Ext W (W.alloc (.cells cs R.e)) := (Below.refl _ _).alloc (Nat.le_refl _) _
  have hsz : cs.size = R.size := by rw [← hf, ← hcs, Array.length_toList]
  have hlit := own_lit R W cs hsz
  rw [hcs] at hlit
  refine wpList_app2 R _ hgd s x ho B v l.length (l.flatMap f) hs (hown.ext hA) W.heap.size _ 1 (f y) hx hlit h1 h63 (by simp; omega) (fun a' cap w' hr hg => ?_)
  refine h a' cap w' ?_ (ext_grown (hE.trans hA) (hown.ext hA) hB hg) ?_ ?_
  · unfold RowG
    rw [List.length_append, List.flatMap_append, List.length_singleton]
    simpa using hr
  · have := hg.size; simp at this; omega
  · intro k hk hlt
    rw [hg.block k (by simp; omega) (fun e => hk e.symm), hA.block k hlt]
end Go.Row
end

section
namespace Rk

/-- A tree: a key, its thing, what stands left and right. -/
inductive T (α β : Type) where
  | nil
  | node (k : α) (v : β) (l r : T α β)

variable {α β : Type}

namespace T

/-- How many keys, how deep: whole numbers, as the program keeps them. -/
def sz : T α β → Int
  | nil => 0
  | node _ _ l r => sz l + sz r + 1

def dp : T α β → Int
  | nil => 0
  | node _ _ l r => max (dp l) (dp r) + 1

theorem sz_nn : ∀ t : T α β, 0 ≤ t.sz
  | nil => Int.le_refl _
  | node _ _ l r => by have := sz_nn l; have := sz_nn r; simp only [sz]; omega

theorem dp_nn : ∀ t : T α β, 0 ≤ t.dp
  | nil => Int.le_refl _
  | node _ _ l r => by have := dp_nn l; have := dp_nn r; simp only [dp]; omega

def toL : T α β → List (α × β)
  | nil => []
  | node k v l r => toL l ++ (k, v) :: toL r

theorem sz_toL : ∀ t : T α β, (t.toL.length : Int) = t.sz
  | nil => rfl
  | node _ _ l r => by
    have h1 := sz_toL l
    have h2 := sz_toL r
    simp only [toL, sz, List.length_append, List.length_cons]; omega

theorem dp_le_sz : ∀ t : T α β, t.dp ≤ t.sz
  | nil => Int.le_refl _
  | node _ _ l r => by have := dp_le_sz l; have := dp_le_sz r; have := sz_nn l; have := sz_nn r; simp only [dp, sz]; omega

theorem dp_pos {t : T α β} (h : 0 < t.dp) : ∃ k v l r, t = node k v l r := by
  cases t with
  | nil => simp [dp] at h
  | node k v l r => exact ⟨k, v, l, r, rfl⟩

def leftUp (k : α) (v : β) : T α β → T α β → T α β
  | node lk lv ll lr, r =>
    if dp ll < dp lr then
      match lr with
      | node mk mv ml mr => node mk mv (node lk lv ll ml) (node k v mr r)
      | nil => node lk lv ll (node k v lr r)
    else node lk lv ll (node k v lr r)
  | nil, r => node k v nil r

def rightUp (k : α) (v : β) (l : T α β) : T α β → T α β
  | node rk rv rl rr =>
    if dp rr < dp rl then
      match rl with
      | node mk mv ml mr => node mk mv (node k v l ml) (node rk rv mr rr)
      | nil => node rk rv (node k v l rl) rr
    else node rk rv (node k v l rl) rr
  | nil => node k v l nil

def joined (k : α) (v : β) (l r : T α β) : T α β :=
  if dp l - dp r > 1 then leftUp k v l r
  else if dp l - dp r < -1 then rightUp k v l r
  else node k v l r

theorem toL_leftUp (k : α) (v : β) (l r : T α β) : (leftUp k v l r).toL = l.toL ++ (k, v) :: r.toL := by
  unfold leftUp
  split
  · split
    · split <;> simp [toL]
    · simp [toL]
  · simp [toL]

theorem toL_rightUp (k : α) (v : β) (l r : T α β) : (rightUp k v l r).toL = l.toL ++ (k, v) :: r.toL := by
  unfold rightUp
  split
  · split
    · split <;> simp [toL]
    · simp [toL]
  · simp [toL]

theorem toL_joined (k : α) (v : β) (l r : T α β) : (joined k v l r).toL = l.toL ++ (k, v) :: r.toL := by
  unfold joined
  split
  · exact toL_leftUp k v l r
  · split
    · exact toL_rightUp k v l r
    · rfl

theorem sz_joined (k : α) (v : β) (l r : T α β) : (joined k v l r).sz = l.sz + r.sz + 1 := by
  rw [← sz_toL, toL_joined]
  have h1 := sz_toL l
  have h2 := sz_toL r
  simp only [List.length_append, List.length_cons]; omega

def put (c : α → α → Int) (k : α) (v : β) : T α β → T α β
  | nil => node k v nil nil
  | node xk xv l r =>
    if c k xk < 0 then joined xk xv (put c k v l) r
    else if c k xk > 0 then joined xk xv l (put c k v r)
    else node k v l r

/-- The tree without its first key, and that. -/
def first (k : α) (v : β) : T α β → T α β → T α β × α × β
  | nil, r => (r, k, v)
  | node lk lv ll lr, r => (joined k v (first lk lv ll lr).1 r, (first lk lv ll lr).2)

def both : T α β → T α β → T α β
  | nil, r => r
  | node lk lv ll lr, nil => node lk lv ll lr
  | node lk lv ll lr, node rk rv rl rr =>
    joined (first rk rv rl rr).2.1 (first rk rv rl rr).2.2 (node lk lv ll lr) (first rk rv rl rr).1

def drop (c : α → α → Int) (k : α) : T α β → T α β
  | nil => nil
  | node xk xv l r =>
    if c k xk < 0 then joined xk xv (drop c k l) r
    else if c k xk > 0 then joined xk xv l (drop c k r)
    else both l r

theorem toL_first : ∀ (l : T α β) (k : α) (v : β) (r : T α β), (first k v l r).2 :: (first k v l r).1.toL = l.toL ++ (k, v) :: r.toL
  | nil, k, v, r => rfl
  | node lk lv ll lr, k, v, r => by
    have h := toL_first ll lk lv lr
    simp only [first, toL_joined, toL]
    rw [← h]; simp

theorem toL_both (l r : T α β) : (both l r).toL = l.toL ++ r.toL := by
  unfold both
  split
  · simp [toL]
  · simp [toL]
  · rename_i lk lv ll lr rk rv rl rr
    have h := toL_first rl rk rv rr
    simp only [toL_joined]
    rw [show ((first rk rv rl rr).2.1, (first rk rv rl rr).2.2) = (first rk rv rl rr).2 from rfl, h]; rfl

end T

/-- What a comparison must do. -/
structure Lawful (c : α → α → Int) : Prop where
  eq : ∀ a b, c a b = 0 ↔ a = b
  swap : ∀ a b, c a b < 0 ↔ 0 < c b a
  trans : ∀ a b d, c a b < 0 → c b d < 0 → c a d < 0

/-- Rising keys. -/
def Up (c : α → α → Int) (l : List (α × β)) : Prop := l.Pairwise fun x y => c x.1 y.1 < 0

/-- A key's thing put into a rising list. -/
def ins (c : α → α → Int) (k : α) (v : β) : List (α × β) → List (α × β)
  | [] => [(k, v)]
  | x :: l => if c k x.1 < 0 then (k, v) :: x :: l else if c k x.1 > 0 then x :: ins c k v l else (k, v) :: l

/-- A key taken out. -/
def del (c : α → α → Int) (k : α) : List (α × β) → List (α × β)
  | [] => []
  | x :: l => if c k x.1 = 0 then l else x :: del c k l

/-- A key's thing. -/
def look (c : α → α → Int) (k : α) : List (α × β) → Option β
  | [] => none
  | x :: l => if c k x.1 = 0 then some x.2 else look c k l

/-- How many keys are ahead. -/
def ahead (c : α → α → Int) (k : α) : List (α × β) → Nat
  | [] => 0
  | x :: l => (if c k x.1 > 0 then 1 else 0) + ahead c k l

variable {c : α → α → Int}

theorem ins_app (hc : Lawful c) (k : α) (v : β) : ∀ (a b : List (α × β)) (x : α × β), (∀ y ∈ a, c y.1 x.1 < 0) →
    ins c k v (a ++ x :: b) = if c k x.1 < 0 then ins c k v a ++ x :: b else if c k x.1 > 0 then a ++ x :: ins c k v b else a ++ (k, v) :: b
  | [], b, x, _ => by
    simp only [List.nil_append, ins]
    split
    · simp
    · rfl
  | y :: a, b, x, h => by
    have hy : c y.1 x.1 < 0 := h y (by simp)
    have ih := ins_app hc k v a b x (fun z hz => h z (by simp [hz]))
    simp only [List.cons_append, ins]
    by_cases h1 : c k y.1 < 0
    · have h2 : c k x.1 < 0 := hc.trans _ _ _ h1 hy
      simp [h1, h2]
    · by_cases h3 : c k y.1 > 0
      · simp only [h1, if_false, h3, if_true, ih]
        split
        · rfl
        · split <;> rfl
      · have h4 : c k y.1 = 0 := by omega
        have h5 : k = y.1 := (hc.eq _ _).1 h4
        have h2 : c k x.1 < 0 := by rw [h5]; exact hy
        simp [h4, h2]

theorem toL_put (hc : Lawful c) (k : α) (v : β) : ∀ t : T α β, Up c t.toL → (T.put c k v t).toL = ins c k v t.toL
  | .nil, _ => rfl
  | .node xk xv l r, h => by
    have hl : Up c l.toL := (List.pairwise_append.1 h).1
    have hr : Up c r.toL := (List.pairwise_cons.1 (List.pairwise_append.1 h).2.1).2
    have hx : ∀ y ∈ l.toL, c y.1 xk < 0 := fun y hy => (List.pairwise_append.1 h).2.2 y hy (xk, xv) (by simp)
    simp only [T.put, T.toL]
    rw [ins_app hc k v _ _ _ hx]
    split
    · rw [T.toL_joined, toL_put hc k v l hl]
    · split
      · rw [T.toL_joined, toL_put hc k v r hr]
      · rfl

theorem del_app_lt (hc : Lawful c) (k : α) : ∀ (a b : List (α × β)), (∀ y ∈ b, c k y.1 < 0) → del c k (a ++ b) = del c k a ++ b
  | [], b, h => by
    simp only [List.nil_append, del]
    induction b with
    | nil => rfl
    | cons y b ih =>
      have : c k y.1 < 0 := h y (by simp)
      simp only [del]
      rw [if_neg (by omega), ih (fun z hz => h z (by simp [hz]))]
  | x :: a, b, h => by
    simp only [List.cons_append, del]
    split
    · rfl
    · rw [del_app_lt hc k a b h]; rfl

theorem del_app_gt (k : α) : ∀ (a b : List (α × β)), (∀ y ∈ a, 0 < c k y.1) → del c k (a ++ b) = a ++ del c k b
  | [], _, _ => rfl
  | x :: a, b, h => by
    have : 0 < c k x.1 := h x (by simp)
    simp only [List.cons_append, del]
    rw [if_neg (by omega), del_app_gt k a b (fun z hz => h z (by simp [hz]))]

theorem toL_drop (hc : Lawful c) (k : α) : ∀ t : T α β, Up c t.toL → (T.drop c k t).toL = del c k t.toL
  | .nil, _ => rfl
  | .node xk xv l r, h => by
    have h' : (l.toL ++ (xk, xv) :: r.toL).Pairwise fun x y => c x.1 y.1 < 0 := h
    obtain ⟨hl, hxr, hlx⟩ := List.pairwise_append.1 h'
    obtain ⟨hx, hr⟩ := List.pairwise_cons.1 hxr
    simp only [T.drop, T.toL]
    by_cases h1 : c k xk < 0
    · rw [if_pos h1, T.toL_joined, toL_drop hc k l hl, del_app_lt hc k]
      intro y hy
      rcases List.mem_cons.1 hy with rfl | hy
      · exact h1
      · exact hc.trans _ _ _ h1 (hx y hy)
    · by_cases h2 : c k xk > 0
      · rw [if_neg h1, if_pos h2, T.toL_joined, toL_drop hc k r hr, del_app_gt k l.toL]
        · simp only [del]; rw [if_neg (by omega)]
        · intro y hy
          have h3 : c xk k < 0 := (hc.swap _ _).2 h2
          exact (hc.swap _ _).1 (hc.trans _ _ _ (hlx y hy (xk, xv) (by simp)) h3)
      · have h4 : c k xk = 0 := by omega
        have h5 : k = xk := (hc.eq _ _).1 h4
        rw [if_neg h1, if_neg h2, T.toL_both, del_app_gt k l.toL]
        · simp [del, h4]
        · intro y hy
          have := hlx y hy (xk, xv) (by simp)
          rw [h5]; exact (hc.swap _ _).1 this

/-- What is found at a key, and how many keys are ahead of it. -/
def T.find (c : α → α → Int) (k : α) : T α β → Option (T α β) × Int
  | nil => (none, 0)
  | node xk xv l r =>
    if c k xk = 0 then (some (node xk xv l r), l.sz)
    else if c k xk < 0 then find c k l
    else ((find c k r).1, l.sz + 1 + (find c k r).2)

def T.get (c : α → α → Int) (k : α) : T α β → Option β
  | nil => none
  | node xk xv l r => if c k xk = 0 then some xv else if c k xk < 0 then get c k l else get c k r

theorem look_app_lt (k : α) : ∀ (a b : List (α × β)), (∀ y ∈ b, c k y.1 < 0) → look c k (a ++ b) = look c k a
  | [], b, h => by
    simp only [List.nil_append, look]
    induction b with
    | nil => rfl
    | cons y b ih =>
      have : c k y.1 < 0 := h y (by simp)
      simp only [look]
      rw [if_neg (by omega), ih (fun z hz => h z (by simp [hz]))]
  | x :: a, b, h => by
    simp only [List.cons_append, look]
    split
    · rfl
    · exact look_app_lt k a b h

theorem look_app_gt (k : α) : ∀ (a b : List (α × β)), (∀ y ∈ a, 0 < c k y.1) → look c k (a ++ b) = look c k b
  | [], _, _ => rfl
  | x :: a, b, h => by
    have : 0 < c k x.1 := h x (by simp)
    simp only [List.cons_append, look]
    rw [if_neg (by omega), look_app_gt k a b (fun z hz => h z (by simp [hz]))]

theorem get_toL (hc : Lawful c) (k : α) : ∀ t : T α β, Up c t.toL → T.get c k t = look c k t.toL
  | .nil, _ => rfl
  | .node xk xv l r, h => by
    have h' : (l.toL ++ (xk, xv) :: r.toL).Pairwise fun x y => c x.1 y.1 < 0 := h
    obtain ⟨hl, hxr, hlx⟩ := List.pairwise_append.1 h'
    obtain ⟨hx, hr⟩ := List.pairwise_cons.1 hxr
    simp only [T.get, T.toL]
    by_cases h1 : c k xk = 0
    · have h5 : k = xk := (hc.eq _ _).1 h1
      rw [if_pos h1, look_app_gt k l.toL]
      · simp [look, h1]
      · intro y hy
        have := hlx y hy (xk, xv) (by simp)
        rw [h5]; exact (hc.swap _ _).1 this
    · by_cases h2 : c k xk < 0
      · rw [if_neg h1, if_pos h2, get_toL hc k l hl, look_app_lt k]
        intro y hy
        rcases List.mem_cons.1 hy with rfl | hy
        · exact h2
        · exact hc.trans _ _ _ h2 (hx y hy)
      · rw [if_neg h1, if_neg h2, get_toL hc k r hr, look_app_gt k l.toL]
        · simp only [look]; rw [if_neg h1]
        · intro y hy
          have h3 : c xk k < 0 := (hc.swap _ _).2 (by omega)
          exact (hc.swap _ _).1 (hc.trans _ _ _ (hlx y hy (xk, xv) (by simp)) h3)

/-- The i-th key and its thing. -/
def T.at (i : Int) : T α β → Option (α × β)
  | nil => none
  | node xk xv l r => if i < l.sz then T.at i l else if l.sz < i then T.at (i - l.sz - 1) r else some (xk, xv)

theorem at_toL : ∀ (t : T α β) (i : Int), 0 ≤ i → T.at i t = t.toL[i.toNat]?
  | .nil, i, _ => by simp [T.at, T.toL]
  | .node xk xv l r, i, hi => by
    have hz := T.sz_toL l
    simp only [T.at, T.toL]
    rw [List.getElem?_append]
    by_cases h1 : i < l.sz
    · have h3 : i.toNat < l.toL.length := by omega
      rw [if_pos h1, if_pos h3, at_toL l i hi]
    · have h3 : ¬ i.toNat < l.toL.length := by omega
      rw [if_neg h1, if_neg h3]
      by_cases h2 : l.sz < i
      · rw [if_pos h2, at_toL r _ (by omega), show i.toNat - l.toL.length = (i - l.sz - 1).toNat + 1 from by omega, List.getElem?_cons_succ]
      · rw [if_neg h2, show i.toNat - l.toL.length = 0 from by omega]; rfl

theorem mem_ins (hc : Lawful c) (k : α) (v : β) : ∀ (l : List (α × β)) (y : α × β), y ∈ ins c k v l → y = (k, v) ∨ y ∈ l
  | [], y, h => by simp [ins] at h; exact .inl h
  | x :: l, y, h => by
    simp only [ins] at h
    split at h
    · simp at h ⊢; rcases h with h | h | h <;> simp [h]
    · split at h
      · rcases List.mem_cons.1 h with rfl | h
        · simp
        · rcases mem_ins hc k v l y h with h | h <;> simp [h]
      · simp at h ⊢; rcases h with h | h <;> simp [h]

theorem up_ins (hc : Lawful c) (k : α) (v : β) : ∀ (l : List (α × β)), Up c l → Up c (ins c k v l)
  | [], _ => by simp [ins, Up]
  | x :: l, h => by
    obtain ⟨hx, hl⟩ := List.pairwise_cons.1 h
    simp only [ins]
    split
    · rename_i h1
      refine List.pairwise_cons.2 ⟨fun y hy => ?_, h⟩
      rcases List.mem_cons.1 hy with rfl | hy
      · exact h1
      · exact hc.trans _ _ _ h1 (hx y hy)
    · split
      · rename_i h1 h2
        refine List.pairwise_cons.2 ⟨fun y hy => ?_, up_ins hc k v l hl⟩
        rcases mem_ins hc k v l y hy with rfl | hy
        · exact (hc.swap _ _).2 h2
        · exact hx y hy
      · rename_i h1 h2
        have h5 : k = x.1 := (hc.eq _ _).1 (by omega)
        exact List.pairwise_cons.2 ⟨fun y hy => by rw [h5]; exact hx y hy, hl⟩

theorem mem_del (k : α) : ∀ (l : List (α × β)) (y : α × β), y ∈ del c k l → y ∈ l
  | [], _, h => by simp [del] at h
  | x :: l, y, h => by
    simp only [del] at h
    split at h
    · exact List.mem_cons_of_mem _ h
    · rcases List.mem_cons.1 h with rfl | h
      · simp
      · exact List.mem_cons_of_mem _ (mem_del k l y h)

theorem up_del (k : α) : ∀ (l : List (α × β)), Up c l → Up c (del c k l)
  | [], _ => by simp [del, Up]
  | x :: l, h => by
    obtain ⟨hx, hl⟩ := List.pairwise_cons.1 h
    simp only [del]
    split
    · exact hl
    · exact List.pairwise_cons.2 ⟨fun y hy => hx y (mem_del k l y hy), up_del k l hl⟩

/-- Whole numbers compared as cmp.Compare does. -/
def cint (a b : Int) : Int := if a < b then -1 else if b < a then 1 else 0

theorem cint_lawful : Lawful cint where
  eq a b := by unfold cint; split <;> (try split) <;> omega
  swap a b := by unfold cint; split <;> (try split) <;> (try split) <;> omega
  trans a b d := by unfold cint; split <;> (try split) <;> (try split) <;> (try split) <;> omega

theorem T.sz_leftUp (k : α) (v : β) (l r : T α β) : (T.leftUp k v l r).sz = l.sz + r.sz + 1 := by
  rw [← T.sz_toL, T.toL_leftUp]
  have h1 := T.sz_toL l
  have h2 := T.sz_toL r
  simp only [List.length_append, List.length_cons]; omega

theorem T.sz_put_le (c : α → α → Int) (k : α) (v : β) : ∀ t : T α β, (T.put c k v t).sz ≤ t.sz + 1
  | .nil => by simp [T.put, T.sz]
  | .node xk xv l r => by
    have h1 := sz_put_le c k v l
    have h2 := sz_put_le c k v r
    simp only [T.put]
    split
    · rw [T.sz_joined]; simp only [T.sz]; omega
    · split
      · rw [T.sz_joined]; simp only [T.sz]; omega
      · simp only [T.sz]; omega

theorem T.sz_first : ∀ (l : T α β) (k : α) (v : β) (r : T α β), (T.first k v l r).1.sz = l.sz + r.sz
  | .nil, _, _, _ => by simp [T.first, T.sz]
  | .node lk lv ll lr, k, v, r => by
    have := sz_first ll lk lv lr
    simp only [T.first]
    rw [T.sz_joined, this]; simp only [T.sz]; omega

theorem T.sz_both (l r : T α β) : (T.both l r).sz = l.sz + r.sz := by
  rw [← T.sz_toL, T.toL_both]
  have h1 := T.sz_toL l
  have h2 := T.sz_toL r
  simp only [List.length_append]; omega

theorem T.sz_drop_le (c : α → α → Int) (k : α) : ∀ t : T α β, (T.drop c k t).sz ≤ t.sz
  | .nil => by simp [T.drop]
  | .node xk xv l r => by
    have h1 := sz_drop_le c k l
    have h2 := sz_drop_le c k r
    simp only [T.drop]
    split
    · rw [T.sz_joined]; simp only [T.sz]; omega
    · split
      · rw [T.sz_joined]; simp only [T.sz]; omega
      · rw [T.sz_both]; simp only [T.sz]; omega

theorem look_ins_self (hc : Lawful c) (k : α) (v : β) : ∀ l : List (α × β), look c k (ins c k v l) = some v
  | [] => by simp [ins, look, (hc.eq k k).2 rfl]
  | x :: l => by
    have h0 : c k k = 0 := (hc.eq k k).2 rfl
    simp only [ins]
    split
    · simp [look, h0]
    · split
      · rename_i h1 h2
        simp only [look]
        rw [if_neg (by omega), look_ins_self hc k v l]
      · simp [look, h0]

theorem length_ins (k : α) (v : β) : ∀ l : List (α × β), look c k l = none → (ins c k v l).length = l.length + 1
  | [], _ => rfl
  | x :: l, h => by
    simp only [look] at h
    split at h
    · cases h
    · rename_i h0
      simp only [ins]
      split
      · rfl
      · split
        · simp [length_ins k v l h]
        · omega

theorem look_mem (k : α) (v : β) : ∀ l : List (α × β), look c k l = some v → ∃ k', (k', v) ∈ l
  | [], h => by cases h
  | x :: l, h => by
    simp only [look] at h
    split at h
    · cases h; exact ⟨x.1, by simp⟩
    · obtain ⟨k', hk⟩ := look_mem k v l h
      exact ⟨k', by simp [hk]⟩

end Rk
end
