/-
  DERIVED. GIVEN WITH THE SEED: THE CARDS: each row of YtpoolkmcbeghjaaDoorRows.lean that lists a variable, with what it lists TIED to the program's text (the seventh form; the later family's looks); each row that meets fmt, with fmt's text TOLD by the authors' own Lean function (tested against real Go, not proved from fmt's source: count such statements apart). THE CARD IS WHAT COUNTS. Prove the row's statement (the work); the ties are given (YtpoolkmcbeghjaaDoorTie.lean); close each card by the builder's one call (the guide's Derived/Test/ToyasCard.lean, 'card_holds'). Laid BY PROGRAM, IN A SANDBOX (cutbox-door.mjs). By AI agents, Wed Nov 11 2026. No macro, syntax, notation, axiom, sorry.
-/
import Derived.Test.YtpoolkmcbeghjaaDoorRows
import GoSem.ClaimSeven
namespace Go.Proofs.YtpoolkmcbeghjaaDoor
namespace Rows

/-- THE TIED CARD OF 'laws.FnExactPosetText'. -/
def fnExactPosetTextCard : Claim7 := { stood := { row := fnExactPosetTextRow, standIns := [], harness := (true, "928a1502ea84f853fb84e55e706c177034e833d0c967981e8d2100b7847b8655"), looks := false }, kinds := [], alts := [], laidByText := true, laidKinds := [.data, .data, .data], laidTests := true, laidLooks := .later }
def FnExactPosetTextCardSaid : Prop := Claim7.holds Tryd.pinned (.plain (OpenSpec.ofChange fnExactPosetTextSpec)) fnExactPosetTextCard

/-- THE TIED CARD OF 'laws.FnExactIdealText'. -/
def fnExactIdealTextCard : Claim7 := { stood := { row := fnExactIdealTextRow, standIns := [], harness := (true, "928a1502ea84f853fb84e55e706c177034e833d0c967981e8d2100b7847b8655"), looks := false }, kinds := [], alts := [], laidByText := true, laidKinds := [.data, .data, .data], laidTests := true, laidLooks := .later }
def FnExactIdealTextCardSaid : Prop := Claim7.holds Tryd.pinned (.plain (OpenSpec.ofChange fnExactIdealTextSpec)) fnExactIdealTextCard

/-- THE SECOND FORM's CARD OF 'laws.FnExactPosetText'. -/
def fnExactPosetTextUptoCard : Claim7 := { stood := { row := fnExactPosetTextUptoRow, standIns := [], harness := (true, "928a1502ea84f853fb84e55e706c177034e833d0c967981e8d2100b7847b8655"), looks := false }, kinds := [], alts := [], laidByText := true, laidKinds := [.data, .data, .data], laidTests := true, laidLooks := .later }
def FnExactPosetTextUptoCardSaid : Prop := Claim7.holds Tryd.pinned (.plain (OpenSpec.upto fnExactPosetTextSpec)) fnExactPosetTextUptoCard

/-- THE SECOND FORM's CARD OF 'laws.FnExactIdealText'. -/
def fnExactIdealTextUptoCard : Claim7 := { stood := { row := fnExactIdealTextUptoRow, standIns := [], harness := (true, "928a1502ea84f853fb84e55e706c177034e833d0c967981e8d2100b7847b8655"), looks := false }, kinds := [], alts := [], laidByText := true, laidKinds := [.data, .data, .data], laidTests := true, laidLooks := .later }
def FnExactIdealTextUptoCardSaid : Prop := Claim7.holds Tryd.pinned (.plain (OpenSpec.upto fnExactIdealTextSpec)) fnExactIdealTextUptoCard
end Rows
end Go.Proofs.YtpoolkmcbeghjaaDoor
