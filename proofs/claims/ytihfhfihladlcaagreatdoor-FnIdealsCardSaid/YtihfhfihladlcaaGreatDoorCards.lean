/-
  DERIVED. GIVEN WITH THE SEED: THE CARDS: each row of YtihfhfihladlcaaGreatDoorRows.lean that lists a variable, with what it lists TIED to the program's text (the seventh form; the later family's looks); each row that meets fmt, with fmt's text TOLD by the authors' own Lean function (tested against real Go, not proved from fmt's source: count such statements apart). THE CARD IS WHAT COUNTS. Prove the row's statement (the work); the ties are given (YtihfhfihladlcaaGreatDoorTie.lean); close each card by the builder's one call (the guide's Derived/Test/ToyasCard.lean, 'card_holds'). Laid BY PROGRAM, IN A SANDBOX (cutbox-door.mjs). By AI agents, Wed Nov 11 2026. No macro, syntax, notation, axiom, sorry.
-/
import Derived.Test.YtihfhfihladlcaaGreatDoorRows
import GoSem.ClaimSeven
namespace Go.Proofs.YtihfhfihladlcaaGreatDoor
namespace Rows

/-- THE TIED CARD OF 'laws.FnIdeals'. -/
def fnIdealsCard : Claim7 := { stood := { row := fnIdealsRow, standIns := [], harness := (true, "6bbab2ff68183ca0fddee177ca796f627ccf99335abb2d92c24ca504e667bb21"), looks := false }, kinds := [], alts := [], laidByText := true, laidKinds := [.data, .data, .data], laidTests := true, laidLooks := .later }
def FnIdealsCardSaid : Prop := Claim7.holds Tryz.pinned (.plain (OpenSpec.ofChange fnIdealsSpec)) fnIdealsCard

/-- THE TIED CARD OF 'laws.FnExactSurfaceText'. -/
def fnExactSurfaceTextCard : Claim7 := { stood := { row := fnExactSurfaceTextRow, standIns := [], harness := (true, "6bbab2ff68183ca0fddee177ca796f627ccf99335abb2d92c24ca504e667bb21"), looks := false }, kinds := [], alts := [], laidByText := true, laidKinds := [.data, .data, .data], laidTests := true, laidLooks := .later }
def FnExactSurfaceTextCardSaid : Prop := Claim7.holds Tryz.pinned (.plain (OpenSpec.ofChange fnExactSurfaceTextSpec)) fnExactSurfaceTextCard

/-- THE TIED CARD OF 'laws.FnPosets'. -/
def fnPosetsCard : Claim7 := { stood := { row := fnPosetsRow, standIns := [], harness := (true, "6bbab2ff68183ca0fddee177ca796f627ccf99335abb2d92c24ca504e667bb21"), looks := false }, kinds := [], alts := [], laidByText := true, laidKinds := [.data, .data, .data], laidTests := true, laidLooks := .later }
def FnPosetsCardSaid : Prop := Claim7.holds Tryz.pinned (.plain (OpenSpec.ofChange fnPosetsSpec)) fnPosetsCard

/-- THE TIED CARD OF 'laws.FnManifolds'. -/
def fnManifoldsCard : Claim7 := { stood := { row := fnManifoldsRow, standIns := [], harness := (true, "6bbab2ff68183ca0fddee177ca796f627ccf99335abb2d92c24ca504e667bb21"), looks := false }, kinds := [], alts := [], laidByText := true, laidKinds := [.data, .data, .data], laidTests := true, laidLooks := .later }
def FnManifoldsCardSaid : Prop := Claim7.holds Tryz.pinned (.plain (OpenSpec.ofChange fnManifoldsSpec)) fnManifoldsCard

/-- THE SECOND FORM's CARD OF 'laws.FnIdeals'. -/
def fnIdealsUptoCard : Claim7 := { stood := { row := fnIdealsUptoRow, standIns := [], harness := (true, "6bbab2ff68183ca0fddee177ca796f627ccf99335abb2d92c24ca504e667bb21"), looks := false }, kinds := [], alts := [], laidByText := true, laidKinds := [.data, .data, .data], laidTests := true, laidLooks := .later }
def FnIdealsUptoCardSaid : Prop := Claim7.holds Tryz.pinned (.plain (OpenSpec.upto fnIdealsSpec)) fnIdealsUptoCard

/-- THE SECOND FORM's CARD OF 'laws.FnExactSurfaceText'. -/
def fnExactSurfaceTextUptoCard : Claim7 := { stood := { row := fnExactSurfaceTextUptoRow, standIns := [], harness := (true, "6bbab2ff68183ca0fddee177ca796f627ccf99335abb2d92c24ca504e667bb21"), looks := false }, kinds := [], alts := [], laidByText := true, laidKinds := [.data, .data, .data], laidTests := true, laidLooks := .later }
def FnExactSurfaceTextUptoCardSaid : Prop := Claim7.holds Tryz.pinned (.plain (OpenSpec.upto fnExactSurfaceTextSpec)) fnExactSurfaceTextUptoCard

/-- THE SECOND FORM's CARD OF 'laws.FnPosets'. -/
def fnPosetsUptoCard : Claim7 := { stood := { row := fnPosetsUptoRow, standIns := [], harness := (true, "6bbab2ff68183ca0fddee177ca796f627ccf99335abb2d92c24ca504e667bb21"), looks := false }, kinds := [], alts := [], laidByText := true, laidKinds := [.data, .data, .data], laidTests := true, laidLooks := .later }
def FnPosetsUptoCardSaid : Prop := Claim7.holds Tryz.pinned (.plain (OpenSpec.upto fnPosetsSpec)) fnPosetsUptoCard

/-- THE SECOND FORM's CARD OF 'laws.FnManifolds'. -/
def fnManifoldsUptoCard : Claim7 := { stood := { row := fnManifoldsUptoRow, standIns := [], harness := (true, "6bbab2ff68183ca0fddee177ca796f627ccf99335abb2d92c24ca504e667bb21"), looks := false }, kinds := [], alts := [], laidByText := true, laidKinds := [.data, .data, .data], laidTests := true, laidLooks := .later }
def FnManifoldsUptoCardSaid : Prop := Claim7.holds Tryz.pinned (.plain (OpenSpec.upto fnManifoldsSpec)) fnManifoldsUptoCard
end Rows
end Go.Proofs.YtihfhfihladlcaaGreatDoor
