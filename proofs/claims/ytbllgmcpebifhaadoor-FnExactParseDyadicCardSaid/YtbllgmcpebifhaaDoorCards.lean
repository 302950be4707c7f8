/-
  DERIVED. GIVEN WITH THE SEED: THE CARDS: each row of YtbllgmcpebifhaaDoorRows.lean that lists a variable, with what it lists TIED to the program's text (the seventh form; the later family's looks); each row that meets fmt, with fmt's text TOLD by the authors' own Lean function (tested against real Go, not proved from fmt's source: count such statements apart). THE CARD IS WHAT COUNTS. Prove the row's statement (the work); the ties are given (YtbllgmcpebifhaaDoorTie.lean); close each card by the builder's one call (the guide's Derived/Test/ToyasCard.lean, 'card_holds'). Laid BY PROGRAM, IN A SANDBOX (cutbox-door.mjs). By AI agents, Wed Nov 11 2026. No macro, syntax, notation, axiom, sorry.
-/
import Derived.Test.YtbllgmcpebifhaaDoorRows
import GoSem.ClaimSeven
namespace Go.Proofs.YtbllgmcpebifhaaDoor
namespace Rows

/-- THE TIED CARD OF 'laws.FnExactParseDyadic'. -/
def fnExactParseDyadicCard : Claim7 := { stood := { row := fnExactParseDyadicRow, standIns := [], harness := (true, "d7feeef6a573885adbfbcd264ee9236331afc4d9bd58a5402762e8db4c71feab"), looks := true }, kinds := [], alts := [], laidByText := true, laidKinds := [.data, .data, .data, .sentinel, .sentinel], laidTests := true, laidLooks := .later }
def FnExactParseDyadicCardSaid : Prop := Claim7.holds Tryd.pinned (.plain (OpenSpec.ofChange fnExactParseDyadicSpec)) fnExactParseDyadicCard

/-- THE SECOND FORM's CARD OF 'laws.FnExactParseDyadic'. -/
def fnExactParseDyadicUptoCard : Claim7 := { stood := { row := fnExactParseDyadicUptoRow, standIns := [], harness := (true, "d7feeef6a573885adbfbcd264ee9236331afc4d9bd58a5402762e8db4c71feab"), looks := true }, kinds := [], alts := [], laidByText := true, laidKinds := [.data, .data, .data, .sentinel, .sentinel], laidTests := true, laidLooks := .later }
def FnExactParseDyadicUptoCardSaid : Prop := Claim7.holds Tryd.pinned (.plain (OpenSpec.upto fnExactParseDyadicSpec)) fnExactParseDyadicUptoCard
end Rows
end Go.Proofs.YtbllgmcpebifhaaDoor
