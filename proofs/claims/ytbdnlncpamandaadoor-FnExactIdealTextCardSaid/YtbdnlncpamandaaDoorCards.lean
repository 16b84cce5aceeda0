/-
  DERIVED. GIVEN WITH THE SEED: THE CARDS: each row of YtbdnlncpamandaaDoorRows.lean that lists a variable, with what it lists TIED to the program's text (the seventh form; the later family's looks); each row that meets fmt, with fmt's text TOLD by the authors' own Lean function (tested against real Go, not proved from fmt's source: count such statements apart). THE CARD IS WHAT COUNTS. Prove the row's statement (the work); the ties are given (YtbdnlncpamandaaDoorTie.lean); close each card by the builder's one call (the guide's Derived/Test/ToyasCard.lean, 'card_holds'). Laid BY PROGRAM, IN A SANDBOX (cutbox-door.mjs). By AI agents, Wed Nov 11 2026. No macro, syntax, notation, axiom, sorry.
-/
import Derived.Test.YtbdnlncpamandaaDoorRows
import GoSem.ClaimSeven
namespace Go.Proofs.YtbdnlncpamandaaDoor
namespace Rows

/-- THE TIED CARD OF 'laws.FnExactIdealText'. -/
def fnExactIdealTextCard : Claim7 := { stood := { row := fnExactIdealTextRow, standIns := [], harness := (true, "bed2c8f8de9645797da3c710540267b5561b71ae2efa6b93961393f5fcbced1e"), looks := false }, kinds := [], alts := [], laidByText := true, laidKinds := [.data, .data, .data], laidTests := true, laidLooks := .later }
def FnExactIdealTextCardSaid : Prop := Claim7.holds Tryd.pinned (.plain (OpenSpec.ofChange fnExactIdealTextSpec)) fnExactIdealTextCard

/-- THE SECOND FORM's CARD OF 'laws.FnExactIdealText'. -/
def fnExactIdealTextUptoCard : Claim7 := { stood := { row := fnExactIdealTextUptoRow, standIns := [], harness := (true, "bed2c8f8de9645797da3c710540267b5561b71ae2efa6b93961393f5fcbced1e"), looks := false }, kinds := [], alts := [], laidByText := true, laidKinds := [.data, .data, .data], laidTests := true, laidLooks := .later }
def FnExactIdealTextUptoCardSaid : Prop := Claim7.holds Tryd.pinned (.plain (OpenSpec.upto fnExactIdealTextSpec)) fnExactIdealTextUptoCard
end Rows
end Go.Proofs.YtbdnlncpamandaaDoor
