/-
  DERIVED. GIVEN WITH THE SEED: THE CARDS: each row of YtpfljhdfinbdcaaGreatDoorRows.lean that lists a variable, with what it lists TIED to the program's text (the seventh form; the later family's looks); each row that meets fmt, with fmt's text TOLD by the authors' own Lean function (tested against real Go, not proved from fmt's source: count such statements apart). THE CARD IS WHAT COUNTS. Prove the row's statement (the work); the ties are given (YtpfljhdfinbdcaaGreatDoorTie.lean); close each card by the builder's one call (the guide's Derived/Test/ToyasCard.lean, 'card_holds'). Laid BY PROGRAM, IN A SANDBOX (cutbox-door.mjs). By AI agents, Wed Nov 11 2026. No macro, syntax, notation, axiom, sorry.
-/
import Derived.Test.YtpfljhdfinbdcaaGreatDoorRows
import GoSem.ClaimSeven
namespace Go.Proofs.YtpfljhdfinbdcaaGreatDoor
namespace Rows

/-- THE TIED CARD OF 'taluslaw20.ExprWorse'. -/
def exprWorseCard : Claim7 := { stood := { row := exprWorseRow, standIns := [], harness := (true, "7558875f040187ea571910d945b9329a8d7aa23e458bc500c97f1b33096b8c7b"), looks := true }, kinds := [], alts := [], laidByText := true, laidKinds := [.data, .pinned], laidTests := true, laidLooks := .later }
def ExprWorseCardSaid : Prop := Claim7.holds Tryz.pinned (.plain (OpenSpec.ofChange exprWorseSpec)) exprWorseCard

/-- THE TIED CARD OF 'taluslaw20.ExprLogic'. -/
def exprLogicCard : Claim7 := { stood := { row := exprLogicRow, standIns := [], harness := (true, "7558875f040187ea571910d945b9329a8d7aa23e458bc500c97f1b33096b8c7b"), looks := true }, kinds := [], alts := [], laidByText := true, laidKinds := [.data, .pinned], laidTests := true, laidLooks := .later }
def ExprLogicCardSaid : Prop := Claim7.holds Tryz.pinned (.plain (OpenSpec.ofChange exprLogicSpec)) exprLogicCard

/-- THE TIED CARD OF 'taluslaw20.ExprTwice'. -/
def exprTwiceCard : Claim7 := { stood := { row := exprTwiceRow, standIns := [], harness := (true, "7558875f040187ea571910d945b9329a8d7aa23e458bc500c97f1b33096b8c7b"), looks := true }, kinds := [], alts := [], laidByText := true, laidKinds := [.data, .pinned], laidTests := true, laidLooks := .later }
def ExprTwiceCardSaid : Prop := Claim7.holds Tryz.pinned (.plain (OpenSpec.ofChange exprTwiceSpec)) exprTwiceCard

/-- THE TIED CARD OF 'taluslaw20.ExprTests'. -/
def exprTestsCard : Claim7 := { stood := { row := exprTestsRow, standIns := [], harness := (true, "7558875f040187ea571910d945b9329a8d7aa23e458bc500c97f1b33096b8c7b"), looks := true }, kinds := [], alts := [], laidByText := true, laidKinds := [.data, .pinned], laidTests := true, laidLooks := .later }
def ExprTestsCardSaid : Prop := Claim7.holds Tryz.pinned (.plain (OpenSpec.ofChange exprTestsSpec)) exprTestsCard

/-- THE SECOND FORM's CARD OF 'taluslaw20.ExprWorse'. -/
def exprWorseUptoCard : Claim7 := { stood := { row := exprWorseUptoRow, standIns := [], harness := (true, "7558875f040187ea571910d945b9329a8d7aa23e458bc500c97f1b33096b8c7b"), looks := true }, kinds := [], alts := [], laidByText := true, laidKinds := [.data, .pinned], laidTests := true, laidLooks := .later }
def ExprWorseUptoCardSaid : Prop := Claim7.holds Tryz.pinned (.plain (OpenSpec.upto exprWorseSpec)) exprWorseUptoCard

/-- THE SECOND FORM's CARD OF 'taluslaw20.ExprLogic'. -/
def exprLogicUptoCard : Claim7 := { stood := { row := exprLogicUptoRow, standIns := [], harness := (true, "7558875f040187ea571910d945b9329a8d7aa23e458bc500c97f1b33096b8c7b"), looks := true }, kinds := [], alts := [], laidByText := true, laidKinds := [.data, .pinned], laidTests := true, laidLooks := .later }
def ExprLogicUptoCardSaid : Prop := Claim7.holds Tryz.pinned (.plain (OpenSpec.upto exprLogicSpec)) exprLogicUptoCard

/-- THE SECOND FORM's CARD OF 'taluslaw20.ExprTwice'. -/
def exprTwiceUptoCard : Claim7 := { stood := { row := exprTwiceUptoRow, standIns := [], harness := (true, "7558875f040187ea571910d945b9329a8d7aa23e458bc500c97f1b33096b8c7b"), looks := true }, kinds := [], alts := [], laidByText := true, laidKinds := [.data, .pinned], laidTests := true, laidLooks := .later }
def ExprTwiceUptoCardSaid : Prop := Claim7.holds Tryz.pinned (.plain (OpenSpec.upto exprTwiceSpec)) exprTwiceUptoCard

/-- THE SECOND FORM's CARD OF 'taluslaw20.ExprTests'. -/
def exprTestsUptoCard : Claim7 := { stood := { row := exprTestsUptoRow, standIns := [], harness := (true, "7558875f040187ea571910d945b9329a8d7aa23e458bc500c97f1b33096b8c7b"), looks := true }, kinds := [], alts := [], laidByText := true, laidKinds := [.data, .pinned], laidTests := true, laidLooks := .later }
def ExprTestsUptoCardSaid : Prop := Claim7.holds Tryz.pinned (.plain (OpenSpec.upto exprTestsSpec)) exprTestsUptoCard
end Rows
end Go.Proofs.YtpfljhdfinbdcaaGreatDoor
