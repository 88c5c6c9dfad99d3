/-
  Package trace: the line of a call.
  The library's table of powers and the kinds' names lie there; no other condition.
-/
import Derived.Test.YtjlomdhaigejhaaDoorTrB
import Derived.Lib.Join
namespace Go.Proofs.YtjlomdhaigejhaaDoor.Trc
open Go.RowKit Go.Shelf Go.Seg Go.Open Go.Lib Prg

def RS : Row.Ty Tryd.prog := ⟨46, 9, .string ⟨#[]⟩, 1, 16, Tryd.underlying46, by kernel_rfl, rfl, by decide, by decide⟩
theorem strs_one (L : List ByteArray) : ∀ u ∈ L.map Value.string, u.oneCell' = true := by
  intro u hu
  simp only [List.mem_map] at hu
  obtain ⟨s, _, rfl⟩ := hu
  rfl
/-- A new block of places, or of texts. -/
theorem own_litS (w : World) (cs : Array Value) (n : Nat) (hn : cs.size = n) (hm : n ≤ 1000) : Row.Own RS (w.alloc (.cells cs 9)) w.heap.size (.slice (some ⟨w.heap.size, 0, none⟩) n n) n cs.toList := by
  subst hn
  exact ⟨by simp [RS], .inr ⟨w.heap.size, cs.size, cs, rfl, Nat.le_refl _, World.alloc_heap_new w _, Nat.le_refl _, by unfold maxLen; omega, by simp [RS], by rw [show cs.size * RS.size = cs.toList.length by simp [RS]]; exact List.take_length⟩⟩
set_option maxHeartbeats 1000000 in
theorem town (b o : Nat) (k : Int) (w : World) (hc : w.cell? ⟨b, o, none⟩ = some (.int .i64 k)) : Calls Tryd.prog 18 #[.pointer (some ⟨b, o, none⟩)] w fun e w' => ∃ N a, e = .returned (.slice a (ownL k).length (ownL k).length) ∧ (0 < (ownL k).length → a = some ⟨N, 0, none⟩ ∧ Blk w' N (((ownL k).map fun j => Value.pointer (some ⟨b, o + j, none⟩)).toArray) 50) ∧ Ext w w' := by
  have hE1 : ∀ cs, Ext w (w.alloc (.cells cs 50)) := fun cs => (Below.refl _ _).alloc (Nat.le_refl _) _
  have hE2 : ∀ cs, Ext w ((w.alloc (.cells cs 50)).drew) := fun cs => Ext.trans ((Below.refl _ _).alloc (Nat.le_refl _) _) (Ext.drew _)
  have HE := Lib.hid (And.intro hE1 hE2)
  clear hE1 hE2
  by_cases h1 : k = 1
  · subst h1
    go_enter Tryd.func18, Tryd.ntmps18
    go_wp2_with fail
    go_ret
    exact ⟨_, _, rfl, fun _ => ⟨rfl, Blk.new w _ _⟩, HE.out.1 _⟩
  by_cases h3 : k = 3
  · subst h3
    go_enter Tryd.func18, Tryd.ntmps18
    go_wp2_with fail
    go_ret
    exact ⟨_, _, rfl, fun _ => ⟨rfl, Blk.new w _ _⟩, HE.out.1 _⟩
  by_cases h2 : k = 2
  · subst h2
    go_enter Tryd.func18, Tryd.ntmps18
    go_wp2_with fail
    refine wp_region_segsK [([12, 2], 0, 0), ([1, 1], 1, 0), ([1], 0, 0)] (by kernel_rfl) (by kernel_rfl) ?_
    apply segsK_pure
    · intro W
      simp only [runsT, runsF, rep, pick]
      go_wp2_with fail
      exact ⟨rfl, rfl⟩
    simp only [runsT, runsF, rep, left]
    apply segsK_op
    go_wp2_with fail
    refine ⟨fun h => (by cases h), ?_⟩
    apply segsK_pure
    · intro W
      simp only [runsT, runsF, rep, pick]
      go_wp2_with fail
      exact ⟨rfl, rfl⟩
    simp only [runsT, runsF, rep, left]
    apply segsK_nil
    go_wp2_with fail
    go_ret
    exact ⟨_, _, rfl, fun _ => ⟨rfl, (Blk.new w _ _).drew⟩, HE.out.2 _⟩
  by_cases h7 : k = 7
  · subst h7
    go_enter Tryd.func18, Tryd.ntmps18
    go_wp2_with fail
    go_ret
    exact ⟨_, _, rfl, fun _ => ⟨rfl, Blk.new w _ _⟩, HE.out.1 _⟩
  have e : ownL k = [] := by unfold ownL; rw [if_neg (by omega), if_neg h2, if_neg h7]
  rw [e]
  clear e
  have d1 : (k == 1) = false := by simpa using h1
  have d3 : (k == 3) = false := by simpa using h3
  have d2 : (k == 2) = false := by simpa using h2
  have d7 : (k == 7) = false := by simpa using h7
  clear h1 h2 h3 h7
  go_enter Tryd.func18, Tryd.ntmps18
  go_wp2_with fail
  go_ret
  exact ⟨0, none, rfl, fun h => (by cases h), Ext.refl _⟩
/-- A call's line. -/
structure Cl where
  client : Int
  id : Int
  f : Nat → Int
  bgn : Int
  at_ : Int
  end_ : Int
  tick : Int
  ok : Bool
  val : Int
def ansS (b : Bool) : ByteArray := if b then ⟨#[111, 107]⟩ else ⟨#[110, 111]⟩
def headW (c : Cl) : List ByteArray := [cat (cat (intS c.client) ⟨#[46]⟩) (intS c.id), nmS (c.f 0).toNat]
def numW (c : Cl) (q : Nat) : List ByteArray := ((ownL (c.f 0)).take q).map fun j => intS (c.f j)
def tailW (c : Cl) : List ByteArray := [⟨#[61]⟩, ansS c.ok, intS c.val, cat ⟨#[91]⟩ (intS c.bgn), intS c.at_, cat (intS c.end_) ⟨#[93]⟩, cat ⟨#[64]⟩ (intS c.tick)]
def wordsW (c : Cl) : List ByteArray := headW c ++ numW c (ownL (c.f 0)).length ++ tailW c
def callS (c : Cl) : ByteArray := if rightB c.f then Str (join ((wordsW c).map (·.data.toList)) [32]) else ⟨#[]⟩
structure Ok (c : Cl) : Prop where
  client : I64 c.client
  id : I64 c.id
  f : ∀ j, I64 (c.f j)
  bgn : I64 c.bgn
  at_ : I64 c.at_
  end_ : I64 c.end_
  tick : I64 c.tick
  val : I64 c.val
theorem joinTail_len (sep : List UInt8) (m : Nat) : ∀ r : List (List UInt8), (∀ x ∈ r, x.length ≤ m) → (joinTail sep r).length ≤ r.length * (sep.length + m)
  | [], _ => by simp [joinTail]
  | x :: r, h => by
    have h1 := joinTail_len sep m r (fun y hy => h y (by simp [hy]))
    have h2 := h x (by simp)
    simp only [joinTail, List.map_cons, List.flatten_cons, List.length_append, List.length_cons] at h1 ⊢
    rw [Nat.add_mul, Nat.one_mul]
    omega
theorem join_len (sep : List UInt8) (m : Nat) : ∀ r : List (List UInt8), (∀ x ∈ r, x.length ≤ m) → (join r sep).length ≤ r.length * (sep.length + m)
  | [], _ => by simp [join_nil]
  | x :: r, h => by
    have h1 := joinTail_len sep m r (fun y hy => h y (by simp [hy]))
    have h2 := h x (by simp)
    rw [join_cons, List.length_append, List.length_cons, Nat.add_mul, Nat.one_mul]
    omega
theorem ansS_size (b : Bool) : (ansS b).size = 2 := by cases b <;> rfl
theorem words_size {c : Cl} (h : Ok c) : ∀ x ∈ wordsW c, x.size ≤ 43 := by
  intro x hx
  have e1 := intS_size h.client
  have e2 := intS_size h.id
  have e3 := intS_size h.bgn
  have e4 := intS_size h.at_
  have e5 := intS_size h.end_
  have e6 := intS_size h.tick
  have e7 := intS_size h.val
  have e8 := nmS_size (c.f 0).toNat
  have e9 := ansS_size c.ok
  have d1 : (ByteArray.mk #[46]).size = 1 := rfl
  have d2 : (ByteArray.mk #[91]).size = 1 := rfl
  have d3 : (ByteArray.mk #[93]).size = 1 := rfl
  have d4 : (ByteArray.mk #[64]).size = 1 := rfl
  have d5 : (ByteArray.mk #[61]).size = 1 := rfl
  simp only [wordsW, headW, numW, tailW, List.mem_append, List.mem_cons, List.mem_map, List.not_mem_nil, or_false] at hx
  rcases hx with ((rfl | rfl) | ⟨j, _, rfl⟩) | (rfl | rfl | rfl | rfl | rfl | rfl | rfl)
  all_goals (try simp only [cat_size])
  all_goals first | omega | exact Nat.le_trans (intS_size (h.f j)) (by decide)
end Go.Proofs.YtjlomdhaigejhaaDoor.Trc
