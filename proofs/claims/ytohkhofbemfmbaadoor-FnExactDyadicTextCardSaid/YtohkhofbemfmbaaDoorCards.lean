/-
  DERIVED. GIVEN WITH THE SEED: THE CARDS: each row of YtohkhofbemfmbaaDoorRows.lean that lists a variable, with what it lists TIED to the program's text (the seventh form; the later family's looks); each row that meets fmt, with fmt's text TOLD by the authors' own Lean function (tested against real Go, not proved from fmt's source: count such statements apart). THE CARD IS WHAT COUNTS. Prove the row's statement (the work); the ties are given (YtohkhofbemfmbaaDoorTie.lean); close each card by the builder's one call (the guide's Derived/Test/ToyasCard.lean, 'card_holds'). Laid BY PROGRAM, IN A SANDBOX (cutbox-door.mjs). By AI agents, Wed Nov 11 2026. No macro, syntax, notation, axiom, sorry.
-/
import Derived.Test.YtohkhofbemfmbaaDoorRows
import GoSem.ClaimSeven
namespace Go.Proofs.YtohkhofbemfmbaaDoor
namespace Rows

/-- THE TIED CARD OF 'laws.FnExactDyadicText'. -/
def fnExactDyadicTextCard : Claim7 := { stood := { row := fnExactDyadicTextRow, standIns := [], harness := (true, "e24e506624cc6918272d4d819f6988550923c693fd6fae8ad6be120ed5944d81"), looks := false }, kinds := [], alts := [], laidByText := true, laidKinds := [.data, .data, .data], laidTests := true, laidLooks := .later }
def FnExactDyadicTextCardSaid : Prop := Claim7.holds Tryd.pinned (.plain (OpenSpec.ofChange fnExactDyadicTextSpec)) fnExactDyadicTextCard

/-- THE SECOND FORM's CARD OF 'laws.FnExactDyadicText'. -/
def fnExactDyadicTextUptoCard : Claim7 := { stood := { row := fnExactDyadicTextUptoRow, standIns := [], harness := (true, "e24e506624cc6918272d4d819f6988550923c693fd6fae8ad6be120ed5944d81"), looks := false }, kinds := [], alts := [], laidByText := true, laidKinds := [.data, .data, .data], laidTests := true, laidLooks := .later }
def FnExactDyadicTextUptoCardSaid : Prop := Claim7.holds Tryd.pinned (.plain (OpenSpec.upto fnExactDyadicTextSpec)) fnExactDyadicTextUptoCard
end Rows
end Go.Proofs.YtohkhofbemfmbaaDoor
