/-
  No cell of these rows narrows 'for every input' (looked for: loops, veiled, ifaces, maps, wideKeys, modest, calm, conditions, laid).
  DERIVED. THE GIVEN ROWS OF THIS SEAT. 6 by the template 'for every input the law returns true; each argument reads behind the call as it read before'; 0 by the template 'total and deterministic' (their statements: YtnjohjicmhobdaaTotals.lean).
  GIVEN WITH THE SEED: the statements are not yours to turn. If you find one false, say at which input.
  Laid BY PROGRAM, IN A SANDBOX (cutbox-rows.mjs): the forced cells as the released guide's own fill.sh prints them over the translation 27ba28c4acccd53a… (all of the seat's roots in one cut). By AI agents, Wed Nov 11 2026. No macro, syntax, notation, axiom, sorry.
-/
import Derived.Test.YtnjohjicmhobdaaChecked
import GoSem.Claim
import GoSem.ClaimJoined
import GoSem.ClaimMapViews
import Derived.JoinedTies
import Derived.KernelRfl
namespace Go.Proofs.Ytnjohjicmhobdaa
/- THE CELL 'sum', in the pinned program and in every row, IS THE sha256 OF THE DUMP (.gsa) THAT YtnjohjicmhobdaaProg.lean LOADS. Nothing in Lean hashes anything: it is a label: what it is worth is what the hold of that sum in a sandbox is worth. -/
noncomputable def Try.pinned : Pinned := { name := "ytnjohjicmhobdaa", sum := "27ba28c4acccd53a9e40569145aac9e3d415c2524d7db4dea3bb89e27806d298", checked := Try.checked }
namespace Rows
def none {H : Type} : Left H := { results := [], args := [] }

/-- 'cortadolaw48.BeladyBest': WHATEVER THE INPUT: true; the input reads as it did. -/
def beladyBestSpec : ChangeSpec := { name := "beladyBest", fn := fun _ => fun
  | [d1, d2] => { results := [.lit (.bool true)], args := [d1, d2] }
  | _ => none }
def beladyBestRow : OpenClaim := { program := "ytnjohjicmhobdaa", sum := "27ba28c4acccd53a9e40569145aac9e3d415c2524d7db4dea3bb89e27806d298", func := "cortado/cortadolaw48.BeladyBest", spec := "beladyBest", unfollowed := true, recurses := true, apart := false }
def BeladyBestSaid : Prop := beladyBestRow.holds Try.pinned (OpenSpec.ofChange beladyBestSpec)

/-- ITS FALSE NEIGHBOUR: 'it returns false'. Refute it at one input. -/
def beladyBestWrong : ChangeSpec := { name := "beladyBest", fn := fun _ => fun
  | [d1, d2] => { results := [.lit (.bool false)], args := [d1, d2] }
  | _ => none }
def BeladyBestWrongFalsely : Prop := beladyBestRow.holds Try.pinned (OpenSpec.ofChange beladyBestWrong)

/-- 'cortadolaw48.BeladyPlans': WHATEVER THE INPUT: true; the input reads as it did. -/
def beladyPlansSpec : ChangeSpec := { name := "beladyPlans", fn := fun _ => fun
  | [d1, d2, d3] => { results := [.lit (.bool true)], args := [d1, d2, d3] }
  | _ => none }
def beladyPlansRow : OpenClaim := { program := "ytnjohjicmhobdaa", sum := "27ba28c4acccd53a9e40569145aac9e3d415c2524d7db4dea3bb89e27806d298", func := "cortado/cortadolaw48.BeladyPlans", spec := "beladyPlans", inPlace := ["slices.overlaps[int]"], unfollowed := true, recurses := true, apart := false }
def BeladyPlansSaid : Prop := beladyPlansRow.holds Try.pinned (OpenSpec.ofChange beladyPlansSpec)

/-- ITS FALSE NEIGHBOUR: 'it returns false'. Refute it at one input. -/
def beladyPlansWrong : ChangeSpec := { name := "beladyPlans", fn := fun _ => fun
  | [d1, d2, d3] => { results := [.lit (.bool false)], args := [d1, d2, d3] }
  | _ => none }
def BeladyPlansWrongFalsely : Prop := beladyPlansRow.holds Try.pinned (OpenSpec.ofChange beladyPlansWrong)

/-- 'cortadolaw48.BeladyServes': WHATEVER THE INPUT: true; the input reads as it did. -/
def beladyServesSpec : ChangeSpec := { name := "beladyServes", fn := fun _ => fun
  | [d1, d2, d3] => { results := [.lit (.bool true)], args := [d1, d2, d3] }
  | _ => none }
def beladyServesRow : OpenClaim := { program := "ytnjohjicmhobdaa", sum := "27ba28c4acccd53a9e40569145aac9e3d415c2524d7db4dea3bb89e27806d298", func := "cortado/cortadolaw48.BeladyServes", spec := "beladyServes", inPlace := ["slices.overlaps[int]"], unfollowed := true, recurses := true, apart := false }
def BeladyServesSaid : Prop := beladyServesRow.holds Try.pinned (OpenSpec.ofChange beladyServesSpec)

/-- ITS FALSE NEIGHBOUR: 'it returns false'. Refute it at one input. -/
def beladyServesWrong : ChangeSpec := { name := "beladyServes", fn := fun _ => fun
  | [d1, d2, d3] => { results := [.lit (.bool false)], args := [d1, d2, d3] }
  | _ => none }
def BeladyServesWrongFalsely : Prop := beladyServesRow.holds Try.pinned (OpenSpec.ofChange beladyServesWrong)

/-- 'cortadolaw22.ShardPlays': WHATEVER THE INPUT: true; the input reads as it did. -/
def shardPlaysSpec : ChangeSpec := { name := "shardPlays", fn := fun _ => fun
  | [d1, d2] => { results := [.lit (.bool true)], args := [d1, d2] }
  | _ => none }
def shardPlaysRow : OpenClaim := { program := "ytnjohjicmhobdaa", sum := "27ba28c4acccd53a9e40569145aac9e3d415c2524d7db4dea3bb89e27806d298", func := "cortado/cortadolaw22.ShardPlays", spec := "shardPlays", unfollowed := true, recurses := true, apart := false }
def ShardPlaysSaid : Prop := shardPlaysRow.holds Try.pinned (OpenSpec.ofChange shardPlaysSpec)

/-- ITS FALSE NEIGHBOUR: 'it returns false'. Refute it at one input. -/
def shardPlaysWrong : ChangeSpec := { name := "shardPlays", fn := fun _ => fun
  | [d1, d2] => { results := [.lit (.bool false)], args := [d1, d2] }
  | _ => none }
def ShardPlaysWrongFalsely : Prop := shardPlaysRow.holds Try.pinned (OpenSpec.ofChange shardPlaysWrong)

/-- 'cortadolaw20.ExpiryPlays': WHATEVER THE INPUT: true; the input reads as it did. -/
def expiryPlaysSpec : ChangeSpec := { name := "expiryPlays", fn := fun _ => fun
  | [d1, d2, d3] => { results := [.lit (.bool true)], args := [d1, d2, d3] }
  | _ => none }
def expiryPlaysRow : OpenClaim := { program := "ytnjohjicmhobdaa", sum := "27ba28c4acccd53a9e40569145aac9e3d415c2524d7db4dea3bb89e27806d298", func := "cortado/cortadolaw20.ExpiryPlays", spec := "expiryPlays", unfollowed := true, recurses := true, apart := false }
def ExpiryPlaysSaid : Prop := expiryPlaysRow.holds Try.pinned (OpenSpec.ofChange expiryPlaysSpec)

/-- ITS FALSE NEIGHBOUR: 'it returns false'. Refute it at one input. -/
def expiryPlaysWrong : ChangeSpec := { name := "expiryPlays", fn := fun _ => fun
  | [d1, d2, d3] => { results := [.lit (.bool false)], args := [d1, d2, d3] }
  | _ => none }
def ExpiryPlaysWrongFalsely : Prop := expiryPlaysRow.holds Try.pinned (OpenSpec.ofChange expiryPlaysWrong)

/-- 'cortadolaw20.ExpiryEmpties': WHATEVER THE INPUT: true; the input reads as it did. -/
def expiryEmptiesSpec : ChangeSpec := { name := "expiryEmpties", fn := fun _ => fun
  | [d1, d2] => { results := [.lit (.bool true)], args := [d1, d2] }
  | _ => none }
def expiryEmptiesRow : OpenClaim := { program := "ytnjohjicmhobdaa", sum := "27ba28c4acccd53a9e40569145aac9e3d415c2524d7db4dea3bb89e27806d298", func := "cortado/cortadolaw20.ExpiryEmpties", spec := "expiryEmpties", unfollowed := true, recurses := true, apart := false }
def ExpiryEmptiesSaid : Prop := expiryEmptiesRow.holds Try.pinned (OpenSpec.ofChange expiryEmptiesSpec)

/-- ITS FALSE NEIGHBOUR: 'it returns false'. Refute it at one input. -/
def expiryEmptiesWrong : ChangeSpec := { name := "expiryEmpties", fn := fun _ => fun
  | [d1, d2] => { results := [.lit (.bool false)], args := [d1, d2] }
  | _ => none }
def ExpiryEmptiesWrongFalsely : Prop := expiryEmptiesRow.holds Try.pinned (OpenSpec.ofChange expiryEmptiesWrong)

/- THE SECOND FORM. 'bulk': how many values and letters a reading holds, each counted each time it is reached (what is shared counts as often as it is met; a slice's spare places count too). A statement '..UptoSaid' is the law's where the arguments, and the package variables that the reading takes, are together of bulk at most 1048576: NARROWER than '..Said'. Prove '..Said' where nothing that the law and all that it calls make is longer than what came in: it says more and counts as full. Else prove '..UptoSaid'. A law counts once. -/
mutual
def uptoBulk {H : Type} : DataW H → Nat
  | .lit (.string bytes) => bytes.length + 1
  | .lit _ => 1
  | .nil => 1
  | .ptr d => uptoBulk d + 1
  | .slice elems spare => uptoBulkAll elems + uptoBulkAll spare + 1
  | .agg parts => uptoBulkAll parts + 1
  | .iface _ d => uptoBulk d + 1
  | .map entries => uptoBulkEntries entries + 1
  | .held _ => 1
def uptoBulkAll {H : Type} : List (DataW H) → Nat
  | [] => 0
  | d :: r => uptoBulk d + uptoBulkAll r
def uptoBulkEntries {H : Type} : List (Lit × DataW H) → Nat
  | [] => 0
  | x :: r => uptoBulkEntry x + uptoBulkEntries r
def uptoBulkEntry {H : Type} : Lit × DataW H → Nat
  | (.string bytes, d) => bytes.length + uptoBulk d + 1
  | (_, d) => uptoBulk d + 1
 end
def uptoSmall : (H : Type) → List (DataW H) → Bool := fun _ ds => decide (uptoBulkAll ds ≤ 1048576)
def OpenSpec.upto (s : _root_.Go.ChangeSpec) : _root_.Go.OpenSpec := { _root_.Go.OpenSpec.ofChange s with cond := some uptoSmall }

/-- 'cortadolaw48.BeladyBest', WHERE WHAT IT READS IS OF BULK AT MOST 1048576: true; the input reads as it did. -/
def beladyBestUptoRow : OpenClaim := { program := "ytnjohjicmhobdaa", sum := "27ba28c4acccd53a9e40569145aac9e3d415c2524d7db4dea3bb89e27806d298", func := "cortado/cortadolaw48.BeladyBest", spec := "beladyBest", unfollowed := true, recurses := true, apart := false, narrowed := true }
def BeladyBestUptoSaid : Prop := beladyBestUptoRow.holds Try.pinned (OpenSpec.upto beladyBestSpec)

/-- 'cortadolaw48.BeladyPlans', WHERE WHAT IT READS IS OF BULK AT MOST 1048576: true; the input reads as it did. -/
def beladyPlansUptoRow : OpenClaim := { program := "ytnjohjicmhobdaa", sum := "27ba28c4acccd53a9e40569145aac9e3d415c2524d7db4dea3bb89e27806d298", func := "cortado/cortadolaw48.BeladyPlans", spec := "beladyPlans", inPlace := ["slices.overlaps[int]"], unfollowed := true, recurses := true, apart := false, narrowed := true }
def BeladyPlansUptoSaid : Prop := beladyPlansUptoRow.holds Try.pinned (OpenSpec.upto beladyPlansSpec)

/-- 'cortadolaw48.BeladyServes', WHERE WHAT IT READS IS OF BULK AT MOST 1048576: true; the input reads as it did. -/
def beladyServesUptoRow : OpenClaim := { program := "ytnjohjicmhobdaa", sum := "27ba28c4acccd53a9e40569145aac9e3d415c2524d7db4dea3bb89e27806d298", func := "cortado/cortadolaw48.BeladyServes", spec := "beladyServes", inPlace := ["slices.overlaps[int]"], unfollowed := true, recurses := true, apart := false, narrowed := true }
def BeladyServesUptoSaid : Prop := beladyServesUptoRow.holds Try.pinned (OpenSpec.upto beladyServesSpec)

/-- 'cortadolaw22.ShardPlays', WHERE WHAT IT READS IS OF BULK AT MOST 1048576: true; the input reads as it did. -/
def shardPlaysUptoRow : OpenClaim := { program := "ytnjohjicmhobdaa", sum := "27ba28c4acccd53a9e40569145aac9e3d415c2524d7db4dea3bb89e27806d298", func := "cortado/cortadolaw22.ShardPlays", spec := "shardPlays", unfollowed := true, recurses := true, apart := false, narrowed := true }
def ShardPlaysUptoSaid : Prop := shardPlaysUptoRow.holds Try.pinned (OpenSpec.upto shardPlaysSpec)

/-- 'cortadolaw20.ExpiryPlays', WHERE WHAT IT READS IS OF BULK AT MOST 1048576: true; the input reads as it did. -/
def expiryPlaysUptoRow : OpenClaim := { program := "ytnjohjicmhobdaa", sum := "27ba28c4acccd53a9e40569145aac9e3d415c2524d7db4dea3bb89e27806d298", func := "cortado/cortadolaw20.ExpiryPlays", spec := "expiryPlays", unfollowed := true, recurses := true, apart := false, narrowed := true }
def ExpiryPlaysUptoSaid : Prop := expiryPlaysUptoRow.holds Try.pinned (OpenSpec.upto expiryPlaysSpec)

/-- 'cortadolaw20.ExpiryEmpties', WHERE WHAT IT READS IS OF BULK AT MOST 1048576: true; the input reads as it did. -/
def expiryEmptiesUptoRow : OpenClaim := { program := "ytnjohjicmhobdaa", sum := "27ba28c4acccd53a9e40569145aac9e3d415c2524d7db4dea3bb89e27806d298", func := "cortado/cortadolaw20.ExpiryEmpties", spec := "expiryEmpties", unfollowed := true, recurses := true, apart := false, narrowed := true }
def ExpiryEmptiesUptoSaid : Prop := expiryEmptiesUptoRow.holds Try.pinned (OpenSpec.upto expiryEmptiesSpec)

end Rows
end Go.Proofs.Ytnjohjicmhobdaa
