/-
  DERIVED. GIVEN WITH THE SEED: THE CARDS: each row of YtnpfikabcmngpaaDoorRows.lean that lists a variable, with what it lists TIED to the program's text (the seventh form; the later family's looks); each row that meets fmt, with fmt's text TOLD by the authors' own Lean function (tested against real Go, not proved from fmt's source: count such statements apart). THE CARD IS WHAT COUNTS. Prove the row's statement (the work); the ties are given (YtnpfikabcmngpaaDoorTie.lean); close each card by the builder's one call (the guide's Derived/Test/ToyasCard.lean, 'card_holds'). Laid BY PROGRAM, IN A SANDBOX (cutbox-door.mjs). By AI agents, Wed Nov 11 2026. No macro, syntax, notation, axiom, sorry.
-/
import Derived.Test.YtnpfikabcmngpaaDoorRows
import GoSem.ClaimSeven
namespace Go.Proofs.YtnpfikabcmngpaaDoor
namespace Rows

/-- THE TIED CARD OF 'cortadolaw29.MetricPlays'. -/
def metricPlaysCard : Claim7 := { stood := { row := metricPlaysRow, standIns := [], harness := (true, "491c8873703c05f1ef602f3f9ab47d5090082ad8acd3805d03d96c022885ef29"), looks := true }, kinds := [], alts := [], laidByText := true, laidKinds := [.data, .data, .data, .data], laidTests := true, laidLooks := .later }
def MetricPlaysCardSaid : Prop := Claim7.holds Tryd.pinned (.plain (OpenSpec.ofChange metricPlaysSpec)) metricPlaysCard

/-- THE TIED CARD OF 'cortadolaw29.MetricOrder'. -/
def metricOrderCard : Claim7 := { stood := { row := metricOrderRow, standIns := [], harness := (true, "491c8873703c05f1ef602f3f9ab47d5090082ad8acd3805d03d96c022885ef29"), looks := true }, kinds := [], alts := [], laidByText := true, laidKinds := [.data, .data, .data, .data], laidTests := true, laidLooks := .later }
def MetricOrderCardSaid : Prop := Claim7.holds Tryd.pinned (.plain (OpenSpec.ofChange metricOrderSpec)) metricOrderCard

/-- THE TIED CARD OF 'cortadolaw45.TraceTells'. -/
def traceTellsCard : Claim7 := { stood := { row := traceTellsRow, standIns := [], harness := (true, "491c8873703c05f1ef602f3f9ab47d5090082ad8acd3805d03d96c022885ef29"), looks := true }, kinds := [], alts := [], laidByText := true, laidKinds := [.data, .data, .data, .data], laidTests := true, laidLooks := .later }
def TraceTellsCardSaid : Prop := Claim7.holds Tryd.pinned (.plain (OpenSpec.ofChange traceTellsSpec)) traceTellsCard

/-- THE TIED CARD OF 'cortadolaw45.TraceNumbers'. -/
def traceNumbersCard : Claim7 := { stood := { row := traceNumbersRow, standIns := [], harness := (true, "491c8873703c05f1ef602f3f9ab47d5090082ad8acd3805d03d96c022885ef29"), looks := true }, kinds := [], alts := [], laidByText := true, laidKinds := [.data, .data, .data, .data, .sentinel, .sentinel], laidTests := true, laidLooks := .later }
def TraceNumbersCardSaid : Prop := Claim7.holds Tryd.pinned (.plain (OpenSpec.ofChange traceNumbersSpec)) traceNumbersCard

/-- THE SECOND FORM's CARD OF 'cortadolaw29.MetricPlays'. -/
def metricPlaysUptoCard : Claim7 := { stood := { row := metricPlaysUptoRow, standIns := [], harness := (true, "491c8873703c05f1ef602f3f9ab47d5090082ad8acd3805d03d96c022885ef29"), looks := true }, kinds := [], alts := [], laidByText := true, laidKinds := [.data, .data, .data, .data], laidTests := true, laidLooks := .later }
def MetricPlaysUptoCardSaid : Prop := Claim7.holds Tryd.pinned (.plain (OpenSpec.upto metricPlaysSpec)) metricPlaysUptoCard

/-- THE SECOND FORM's CARD OF 'cortadolaw29.MetricOrder'. -/
def metricOrderUptoCard : Claim7 := { stood := { row := metricOrderUptoRow, standIns := [], harness := (true, "491c8873703c05f1ef602f3f9ab47d5090082ad8acd3805d03d96c022885ef29"), looks := true }, kinds := [], alts := [], laidByText := true, laidKinds := [.data, .data, .data, .data], laidTests := true, laidLooks := .later }
def MetricOrderUptoCardSaid : Prop := Claim7.holds Tryd.pinned (.plain (OpenSpec.upto metricOrderSpec)) metricOrderUptoCard

/-- THE SECOND FORM's CARD OF 'cortadolaw45.TraceTells'. -/
def traceTellsUptoCard : Claim7 := { stood := { row := traceTellsUptoRow, standIns := [], harness := (true, "491c8873703c05f1ef602f3f9ab47d5090082ad8acd3805d03d96c022885ef29"), looks := true }, kinds := [], alts := [], laidByText := true, laidKinds := [.data, .data, .data, .data], laidTests := true, laidLooks := .later }
def TraceTellsUptoCardSaid : Prop := Claim7.holds Tryd.pinned (.plain (OpenSpec.upto traceTellsSpec)) traceTellsUptoCard

/-- THE SECOND FORM's CARD OF 'cortadolaw45.TraceNumbers'. -/
def traceNumbersUptoCard : Claim7 := { stood := { row := traceNumbersUptoRow, standIns := [], harness := (true, "491c8873703c05f1ef602f3f9ab47d5090082ad8acd3805d03d96c022885ef29"), looks := true }, kinds := [], alts := [], laidByText := true, laidKinds := [.data, .data, .data, .data, .sentinel, .sentinel], laidTests := true, laidLooks := .later }
def TraceNumbersUptoCardSaid : Prop := Claim7.holds Tryd.pinned (.plain (OpenSpec.upto traceNumbersSpec)) traceNumbersUptoCard
end Rows
end Go.Proofs.YtnpfikabcmngpaaDoor
