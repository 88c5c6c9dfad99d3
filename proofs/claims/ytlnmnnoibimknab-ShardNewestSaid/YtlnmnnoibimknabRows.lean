/-
  No cell of these rows narrows 'for every input' (looked for: loops, veiled, ifaces, maps, wideKeys, modest, calm, conditions, laid).
  DERIVED. THE GIVEN ROWS OF THIS SEAT. 5 by the template 'for every input the law returns true; each argument reads behind the call as it read before'; 0 by the template 'total and deterministic' (their statements: YtlnmnnoibimknabTotals.lean).
  GIVEN WITH THE SEED: the statements are not yours to turn. If you find one false, say at which input.
  Laid BY PROGRAM, IN A SANDBOX (cutbox-rows.mjs): the forced cells as the released guide's own fill.sh prints them over the translation bd9ab82c6e95173d… (all of the seat's roots in one cut). By AI agents, Wed Nov 11 2026. No macro, syntax, notation, axiom, sorry.
-/
import Derived.Test.YtlnmnnoibimknabChecked
import GoSem.Claim
import GoSem.ClaimJoined
import GoSem.ClaimMapViews
import Derived.JoinedTies
import Derived.KernelRfl
namespace Go.Proofs.Ytlnmnnoibimknab
/- THE CELL 'sum', in the pinned program and in every row, IS THE sha256 OF THE DUMP (.gsa) THAT YtlnmnnoibimknabProg.lean LOADS. Nothing in Lean hashes anything: it is a label: what it is worth is what the hold of that sum in a sandbox is worth. -/
noncomputable def Try.pinned : Pinned := { name := "ytlnmnnoibimknab", sum := "bd9ab82c6e95173d4af8dd087caf7712a302e126522c6f5f41efd737aa9488e2", checked := Try.checked }
namespace Rows
def none {H : Type} : Left H := { results := [], args := [] }

/-- 'cortadolaw48.BeladyBest': WHATEVER THE INPUT: true; the input reads as it did. -/
def beladyBestSpec : ChangeSpec := { name := "beladyBest", fn := fun _ => fun
  | [d1, d2] => { results := [.lit (.bool true)], args := [d1, d2] }
  | _ => none }
def beladyBestRow : OpenClaim := { program := "ytlnmnnoibimknab", sum := "bd9ab82c6e95173d4af8dd087caf7712a302e126522c6f5f41efd737aa9488e2", func := "cortado/cortadolaw48.BeladyBest", spec := "beladyBest", unfollowed := true, recurses := true, apart := false }
def BeladyBestSaid : Prop := beladyBestRow.holds Try.pinned (OpenSpec.ofChange beladyBestSpec)

/-- ITS FALSE NEIGHBOUR: 'it returns false'. Refute it at one input. -/
def beladyBestWrong : ChangeSpec := { name := "beladyBest", fn := fun _ => fun
  | [d1, d2] => { results := [.lit (.bool false)], args := [d1, d2] }
  | _ => none }
def BeladyBestWrongFalsely : Prop := beladyBestRow.holds Try.pinned (OpenSpec.ofChange beladyBestWrong)

/-- 'cortadolaw38.LossyHits': WHATEVER THE INPUT: true; the input reads as it did. -/
def lossyHitsSpec : ChangeSpec := { name := "lossyHits", fn := fun _ => fun
  | [d] => { results := [.lit (.bool true)], args := [d] }
  | _ => none }
def lossyHitsRow : OpenClaim := { program := "ytlnmnnoibimknab", sum := "bd9ab82c6e95173d4af8dd087caf7712a302e126522c6f5f41efd737aa9488e2", func := "cortado/cortadolaw38.LossyHits", spec := "lossyHits", unfollowed := true, recurses := true, apart := false }
def LossyHitsSaid : Prop := lossyHitsRow.holds Try.pinned (OpenSpec.ofChange lossyHitsSpec)

/-- ITS FALSE NEIGHBOUR: 'it returns false'. Refute it at one input. -/
def lossyHitsWrong : ChangeSpec := { name := "lossyHits", fn := fun _ => fun
  | [d] => { results := [.lit (.bool false)], args := [d] }
  | _ => none }
def LossyHitsWrongFalsely : Prop := lossyHitsRow.holds Try.pinned (OpenSpec.ofChange lossyHitsWrong)

/-- 'cortadolaw22.ShardPlays': WHATEVER THE INPUT: true; the input reads as it did. -/
def shardPlaysSpec : ChangeSpec := { name := "shardPlays", fn := fun _ => fun
  | [d1, d2] => { results := [.lit (.bool true)], args := [d1, d2] }
  | _ => none }
def shardPlaysRow : OpenClaim := { program := "ytlnmnnoibimknab", sum := "bd9ab82c6e95173d4af8dd087caf7712a302e126522c6f5f41efd737aa9488e2", func := "cortado/cortadolaw22.ShardPlays", spec := "shardPlays", unfollowed := true, recurses := true, apart := false }
def ShardPlaysSaid : Prop := shardPlaysRow.holds Try.pinned (OpenSpec.ofChange shardPlaysSpec)

/-- ITS FALSE NEIGHBOUR: 'it returns false'. Refute it at one input. -/
def shardPlaysWrong : ChangeSpec := { name := "shardPlays", fn := fun _ => fun
  | [d1, d2] => { results := [.lit (.bool false)], args := [d1, d2] }
  | _ => none }
def ShardPlaysWrongFalsely : Prop := shardPlaysRow.holds Try.pinned (OpenSpec.ofChange shardPlaysWrong)

/-- 'cortadolaw22.ShardNewest': WHATEVER THE INPUT: true; the input reads as it did. -/
def shardNewestSpec : ChangeSpec := { name := "shardNewest", fn := fun _ => fun
  | [d1, d2, d3] => { results := [.lit (.bool true)], args := [d1, d2, d3] }
  | _ => none }
def shardNewestRow : OpenClaim := { program := "ytlnmnnoibimknab", sum := "bd9ab82c6e95173d4af8dd087caf7712a302e126522c6f5f41efd737aa9488e2", func := "cortado/cortadolaw22.ShardNewest", spec := "shardNewest", unfollowed := true, recurses := true, apart := false }
def ShardNewestSaid : Prop := shardNewestRow.holds Try.pinned (OpenSpec.ofChange shardNewestSpec)

/-- ITS FALSE NEIGHBOUR: 'it returns false'. Refute it at one input. -/
def shardNewestWrong : ChangeSpec := { name := "shardNewest", fn := fun _ => fun
  | [d1, d2, d3] => { results := [.lit (.bool false)], args := [d1, d2, d3] }
  | _ => none }
def ShardNewestWrongFalsely : Prop := shardNewestRow.holds Try.pinned (OpenSpec.ofChange shardNewestWrong)

/-- 'cortadolaw37.HistCounts': WHATEVER THE INPUT: true; the input reads as it did. -/
def histCountsSpec : ChangeSpec := { name := "histCounts", fn := fun _ => fun
  | [d] => { results := [.lit (.bool true)], args := [d] }
  | _ => none }
def histCountsRow : OpenClaim := { program := "ytlnmnnoibimknab", sum := "bd9ab82c6e95173d4af8dd087caf7712a302e126522c6f5f41efd737aa9488e2", func := "cortado/cortadolaw37.HistCounts", spec := "histCounts", unfollowed := true, recurses := true, apart := false }
def HistCountsSaid : Prop := histCountsRow.holds Try.pinned (OpenSpec.ofChange histCountsSpec)

/-- ITS FALSE NEIGHBOUR: 'it returns false'. Refute it at one input. -/
def histCountsWrong : ChangeSpec := { name := "histCounts", fn := fun _ => fun
  | [d] => { results := [.lit (.bool false)], args := [d] }
  | _ => none }
def HistCountsWrongFalsely : Prop := histCountsRow.holds Try.pinned (OpenSpec.ofChange histCountsWrong)

/- THE SECOND FORM. 'bulk': how many values and letters a reading holds, each counted each time it is reached (what is shared counts as often as it is met; a slice's spare places count too). A statement '..UptoSaid' is the law's where the arguments, and the package variables that the reading takes, are together of bulk at most 1048576: NARROWER than '..Said'. Prove '..Said' where nothing that the law and all that it calls make is longer than what came in: it says more and counts as full. Else prove '..UptoSaid'. A law counts once. -/
mutual
def uptoBulk {H : Type} : DataW H → Nat
  | .lit (.string bytes) => bytes.length + 1
  | .lit _ => 1
  | .nil => 1
  | .ptr d => uptoBulk d + 1
  | .slice elems spare => uptoBulkAll elems + uptoBulkAll spare + 1
  | .agg parts => uptoBulkAll parts + 1
  | .iface _ d => uptoBulk d + 1
  | .map entries => uptoBulkEntries entries + 1
  | .held _ => 1
def uptoBulkAll {H : Type} : List (DataW H) → Nat
  | [] => 0
  | d :: r => uptoBulk d + uptoBulkAll r
def uptoBulkEntries {H : Type} : List (Lit × DataW H) → Nat
  | [] => 0
  | x :: r => uptoBulkEntry x + uptoBulkEntries r
def uptoBulkEntry {H : Type} : Lit × DataW H → Nat
  | (.string bytes, d) => bytes.length + uptoBulk d + 1
  | (_, d) => uptoBulk d + 1
 end
def uptoSmall : (H : Type) → List (DataW H) → Bool := fun _ ds => decide (uptoBulkAll ds ≤ 1048576)
def OpenSpec.upto (s : _root_.Go.ChangeSpec) : _root_.Go.OpenSpec := { _root_.Go.OpenSpec.ofChange s with cond := some uptoSmall }

/-- 'cortadolaw48.BeladyBest', WHERE WHAT IT READS IS OF BULK AT MOST 1048576: true; the input reads as it did. -/
def beladyBestUptoRow : OpenClaim := { program := "ytlnmnnoibimknab", sum := "bd9ab82c6e95173d4af8dd087caf7712a302e126522c6f5f41efd737aa9488e2", func := "cortado/cortadolaw48.BeladyBest", spec := "beladyBest", unfollowed := true, recurses := true, apart := false, narrowed := true }
def BeladyBestUptoSaid : Prop := beladyBestUptoRow.holds Try.pinned (OpenSpec.upto beladyBestSpec)

/-- 'cortadolaw38.LossyHits', WHERE WHAT IT READS IS OF BULK AT MOST 1048576: true; the input reads as it did. -/
def lossyHitsUptoRow : OpenClaim := { program := "ytlnmnnoibimknab", sum := "bd9ab82c6e95173d4af8dd087caf7712a302e126522c6f5f41efd737aa9488e2", func := "cortado/cortadolaw38.LossyHits", spec := "lossyHits", unfollowed := true, recurses := true, apart := false, narrowed := true }
def LossyHitsUptoSaid : Prop := lossyHitsUptoRow.holds Try.pinned (OpenSpec.upto lossyHitsSpec)

/-- 'cortadolaw22.ShardPlays', WHERE WHAT IT READS IS OF BULK AT MOST 1048576: true; the input reads as it did. -/
def shardPlaysUptoRow : OpenClaim := { program := "ytlnmnnoibimknab", sum := "bd9ab82c6e95173d4af8dd087caf7712a302e126522c6f5f41efd737aa9488e2", func := "cortado/cortadolaw22.ShardPlays", spec := "shardPlays", unfollowed := true, recurses := true, apart := false, narrowed := true }
def ShardPlaysUptoSaid : Prop := shardPlaysUptoRow.holds Try.pinned (OpenSpec.upto shardPlaysSpec)

/-- 'cortadolaw22.ShardNewest', WHERE WHAT IT READS IS OF BULK AT MOST 1048576: true; the input reads as it did. -/
def shardNewestUptoRow : OpenClaim := { program := "ytlnmnnoibimknab", sum := "bd9ab82c6e95173d4af8dd087caf7712a302e126522c6f5f41efd737aa9488e2", func := "cortado/cortadolaw22.ShardNewest", spec := "shardNewest", unfollowed := true, recurses := true, apart := false, narrowed := true }
def ShardNewestUptoSaid : Prop := shardNewestUptoRow.holds Try.pinned (OpenSpec.upto shardNewestSpec)

/-- 'cortadolaw37.HistCounts', WHERE WHAT IT READS IS OF BULK AT MOST 1048576: true; the input reads as it did. -/
def histCountsUptoRow : OpenClaim := { program := "ytlnmnnoibimknab", sum := "bd9ab82c6e95173d4af8dd087caf7712a302e126522c6f5f41efd737aa9488e2", func := "cortado/cortadolaw37.HistCounts", spec := "histCounts", unfollowed := true, recurses := true, apart := false, narrowed := true }
def HistCountsUptoSaid : Prop := histCountsUptoRow.holds Try.pinned (OpenSpec.upto histCountsSpec)

end Rows
end Go.Proofs.Ytlnmnnoibimknab
