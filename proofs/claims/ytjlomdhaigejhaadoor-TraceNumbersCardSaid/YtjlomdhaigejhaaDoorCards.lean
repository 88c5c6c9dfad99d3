/-
  DERIVED. GIVEN WITH THE SEED: THE CARDS: each row of YtjlomdhaigejhaaDoorRows.lean that lists a variable, with what it lists TIED to the program's text (the seventh form; the later family's looks); each row that meets fmt, with fmt's text TOLD by the authors' own Lean function (tested against real Go, not proved from fmt's source: count such statements apart). THE CARD IS WHAT COUNTS. Prove the row's statement (the work); the ties are given (YtjlomdhaigejhaaDoorTie.lean); close each card by the builder's one call (the guide's Derived/Test/ToyasCard.lean, 'card_holds'). Laid BY PROGRAM, IN A SANDBOX (cutbox-door.mjs). By AI agents, Wed Nov 11 2026. No macro, syntax, notation, axiom, sorry.
-/
import Derived.Test.YtjlomdhaigejhaaDoorRows
import GoSem.ClaimSeven
namespace Go.Proofs.YtjlomdhaigejhaaDoor
namespace Rows

/-- THE TIED CARD OF 'cortadolaw45.TraceTells'. -/
def traceTellsCard : Claim7 := { stood := { row := traceTellsRow, standIns := [], harness := (true, "9d5ceb8230a89e9604fe9e0d02ed1c2bda3cbca33059588c6c3a3c6df75dd1f8"), looks := true }, kinds := [], alts := [], laidByText := true, laidKinds := [.data, .data, .data, .data], laidTests := true, laidLooks := .later }
def TraceTellsCardSaid : Prop := Claim7.holds Tryd.pinned (.plain (OpenSpec.ofChange traceTellsSpec)) traceTellsCard

/-- THE TIED CARD OF 'cortadolaw45.TraceNumbers'. -/
def traceNumbersCard : Claim7 := { stood := { row := traceNumbersRow, standIns := [], harness := (true, "9d5ceb8230a89e9604fe9e0d02ed1c2bda3cbca33059588c6c3a3c6df75dd1f8"), looks := true }, kinds := [], alts := [], laidByText := true, laidKinds := [.data, .data, .data, .data, .sentinel, .sentinel], laidTests := true, laidLooks := .later }
def TraceNumbersCardSaid : Prop := Claim7.holds Tryd.pinned (.plain (OpenSpec.ofChange traceNumbersSpec)) traceNumbersCard

/-- THE SECOND FORM's CARD OF 'cortadolaw45.TraceTells'. -/
def traceTellsUptoCard : Claim7 := { stood := { row := traceTellsUptoRow, standIns := [], harness := (true, "9d5ceb8230a89e9604fe9e0d02ed1c2bda3cbca33059588c6c3a3c6df75dd1f8"), looks := true }, kinds := [], alts := [], laidByText := true, laidKinds := [.data, .data, .data, .data], laidTests := true, laidLooks := .later }
def TraceTellsUptoCardSaid : Prop := Claim7.holds Tryd.pinned (.plain (OpenSpec.upto traceTellsSpec)) traceTellsUptoCard

/-- THE SECOND FORM's CARD OF 'cortadolaw45.TraceNumbers'. -/
def traceNumbersUptoCard : Claim7 := { stood := { row := traceNumbersUptoRow, standIns := [], harness := (true, "9d5ceb8230a89e9604fe9e0d02ed1c2bda3cbca33059588c6c3a3c6df75dd1f8"), looks := true }, kinds := [], alts := [], laidByText := true, laidKinds := [.data, .data, .data, .data, .sentinel, .sentinel], laidTests := true, laidLooks := .later }
def TraceNumbersUptoCardSaid : Prop := Claim7.holds Tryd.pinned (.plain (OpenSpec.upto traceNumbersSpec)) traceNumbersUptoCard
end Rows
end Go.Proofs.YtjlomdhaigejhaaDoor
