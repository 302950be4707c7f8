/-
  DERIVED. GIVEN WITH THE SEED: THE CARDS: each row of YtbllgmcpebifhaaGreatDoorRows.lean that lists a variable, with what it lists TIED to the program's text (the seventh form; the later family's looks); each row that meets fmt, with fmt's text TOLD by the authors' own Lean function (tested against real Go, not proved from fmt's source: count such statements apart). THE CARD IS WHAT COUNTS. Prove the row's statement (the work); the ties are given (YtbllgmcpebifhaaGreatDoorTie.lean); close each card by the builder's one call (the guide's Derived/Test/ToyasCard.lean, 'card_holds'). Laid BY PROGRAM, IN A SANDBOX (cutbox-door.mjs). By AI agents, Wed Nov 11 2026. No macro, syntax, notation, axiom, sorry.
-/
import Derived.Test.YtbllgmcpebifhaaGreatDoorRows
import GoSem.ClaimSeven
namespace Go.Proofs.YtbllgmcpebifhaaGreatDoor
namespace Rows

/-- THE TIED CARD OF 'laws.FnModerates'. -/
def fnModeratesCard : Claim7 := { stood := { row := fnModeratesRow, standIns := [], harness := (true, "8c0e4fa56201f97647ebb7638f91c11d4a3267f137e82cd7df0bc603c3767ddd"), looks := true }, kinds := [], alts := [], laidByText := true, laidKinds := [.data], laidTests := true, laidLooks := .later }
def FnModeratesCardSaid : Prop := Claim7.holds Tryz.pinned (.plain (OpenSpec.ofChange fnModeratesSpec)) fnModeratesCard

/-- THE TIED CARD OF 'laws.FnDyadics'. -/
def fnDyadicsCard : Claim7 := { stood := { row := fnDyadicsRow, standIns := [], harness := (true, "8c0e4fa56201f97647ebb7638f91c11d4a3267f137e82cd7df0bc603c3767ddd"), looks := true }, kinds := [], alts := [], laidByText := true, laidKinds := [.data, .data, .data, .sentinel, .sentinel], laidTests := true, laidLooks := .later }
def FnDyadicsCardSaid : Prop := Claim7.holds Tryz.pinned (.plain (OpenSpec.ofChange fnDyadicsSpec)) fnDyadicsCard

/-- THE TIED CARD OF 'laws.FnExactParsePolynomial'. -/
def fnExactParsePolynomialCard : Claim7 := { stood := { row := fnExactParsePolynomialRow, standIns := [], harness := (true, "8c0e4fa56201f97647ebb7638f91c11d4a3267f137e82cd7df0bc603c3767ddd"), looks := true }, kinds := [], alts := [], laidByText := true, laidKinds := [.data, .data, .data, .data, .sentinel, .sentinel, .pinned], laidTests := true, laidLooks := .later }
def FnExactParsePolynomialCardSaid : Prop := Claim7.holds Tryz.pinned (.plain (OpenSpec.ofChange fnExactParsePolynomialSpec)) fnExactParsePolynomialCard

/-- THE TIED CARD OF 'laws.FnExactParseTask'. -/
def fnExactParseTaskCard : Claim7 := { stood := { row := fnExactParseTaskRow, standIns := [], harness := (true, "8c0e4fa56201f97647ebb7638f91c11d4a3267f137e82cd7df0bc603c3767ddd"), looks := true }, kinds := [], alts := [], laidByText := true, laidKinds := [.data, .data, .data, .data, .sentinel, .sentinel, .pinned], laidTests := true, laidLooks := .later }
def FnExactParseTaskCardSaid : Prop := Claim7.holds Tryz.pinned (.plain (OpenSpec.ofChange fnExactParseTaskSpec)) fnExactParseTaskCard

/-- THE TIED CARD OF 'laws.FnPolynomialTexts'. -/
def fnPolynomialTextsCard : Claim7 := { stood := { row := fnPolynomialTextsRow, standIns := [], harness := (true, "8c0e4fa56201f97647ebb7638f91c11d4a3267f137e82cd7df0bc603c3767ddd"), looks := true }, kinds := [], alts := [], laidByText := true, laidKinds := [.data, .data, .data, .data, .sentinel, .sentinel, .pinned], laidTests := true, laidLooks := .later }
def FnPolynomialTextsCardSaid : Prop := Claim7.holds Tryz.pinned (.plain (OpenSpec.ofChange fnPolynomialTextsSpec)) fnPolynomialTextsCard

/-- THE SECOND FORM's CARD OF 'laws.FnModerates'. -/
def fnModeratesUptoCard : Claim7 := { stood := { row := fnModeratesUptoRow, standIns := [], harness := (true, "8c0e4fa56201f97647ebb7638f91c11d4a3267f137e82cd7df0bc603c3767ddd"), looks := true }, kinds := [], alts := [], laidByText := true, laidKinds := [.data], laidTests := true, laidLooks := .later }
def FnModeratesUptoCardSaid : Prop := Claim7.holds Tryz.pinned (.plain (OpenSpec.upto fnModeratesSpec)) fnModeratesUptoCard

/-- THE SECOND FORM's CARD OF 'laws.FnDyadics'. -/
def fnDyadicsUptoCard : Claim7 := { stood := { row := fnDyadicsUptoRow, standIns := [], harness := (true, "8c0e4fa56201f97647ebb7638f91c11d4a3267f137e82cd7df0bc603c3767ddd"), looks := true }, kinds := [], alts := [], laidByText := true, laidKinds := [.data, .data, .data, .sentinel, .sentinel], laidTests := true, laidLooks := .later }
def FnDyadicsUptoCardSaid : Prop := Claim7.holds Tryz.pinned (.plain (OpenSpec.upto fnDyadicsSpec)) fnDyadicsUptoCard

/-- THE SECOND FORM's CARD OF 'laws.FnExactParsePolynomial'. -/
def fnExactParsePolynomialUptoCard : Claim7 := { stood := { row := fnExactParsePolynomialUptoRow, standIns := [], harness := (true, "8c0e4fa56201f97647ebb7638f91c11d4a3267f137e82cd7df0bc603c3767ddd"), looks := true }, kinds := [], alts := [], laidByText := true, laidKinds := [.data, .data, .data, .data, .sentinel, .sentinel, .pinned], laidTests := true, laidLooks := .later }
def FnExactParsePolynomialUptoCardSaid : Prop := Claim7.holds Tryz.pinned (.plain (OpenSpec.upto fnExactParsePolynomialSpec)) fnExactParsePolynomialUptoCard

/-- THE SECOND FORM's CARD OF 'laws.FnExactParseTask'. -/
def fnExactParseTaskUptoCard : Claim7 := { stood := { row := fnExactParseTaskUptoRow, standIns := [], harness := (true, "8c0e4fa56201f97647ebb7638f91c11d4a3267f137e82cd7df0bc603c3767ddd"), looks := true }, kinds := [], alts := [], laidByText := true, laidKinds := [.data, .data, .data, .data, .sentinel, .sentinel, .pinned], laidTests := true, laidLooks := .later }
def FnExactParseTaskUptoCardSaid : Prop := Claim7.holds Tryz.pinned (.plain (OpenSpec.upto fnExactParseTaskSpec)) fnExactParseTaskUptoCard

/-- THE SECOND FORM's CARD OF 'laws.FnPolynomialTexts'. -/
def fnPolynomialTextsUptoCard : Claim7 := { stood := { row := fnPolynomialTextsUptoRow, standIns := [], harness := (true, "8c0e4fa56201f97647ebb7638f91c11d4a3267f137e82cd7df0bc603c3767ddd"), looks := true }, kinds := [], alts := [], laidByText := true, laidKinds := [.data, .data, .data, .data, .sentinel, .sentinel, .pinned], laidTests := true, laidLooks := .later }
def FnPolynomialTextsUptoCardSaid : Prop := Claim7.holds Tryz.pinned (.plain (OpenSpec.upto fnPolynomialTextsSpec)) fnPolynomialTextsUptoCard
end Rows
end Go.Proofs.YtbllgmcpebifhaaGreatDoor
