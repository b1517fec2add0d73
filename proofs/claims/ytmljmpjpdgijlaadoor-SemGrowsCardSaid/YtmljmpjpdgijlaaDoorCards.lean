/-
  DERIVED. GIVEN WITH THE SEED: THE CARDS: each row of YtmljmpjpdgijlaaDoorRows.lean that lists a variable, with what it lists TIED to the program's text (the seventh form; the later family's looks); each row that meets fmt, with fmt's text TOLD by the authors' own Lean function (tested against real Go, not proved from fmt's source: count such statements apart). THE CARD IS WHAT COUNTS. Prove the row's statement (the work); the ties are given (YtmljmpjpdgijlaaDoorTie.lean); close each card by the builder's one call (the guide's Derived/Test/ToyasCard.lean, 'card_holds'). Laid BY PROGRAM, IN A SANDBOX (cutbox-door.mjs). By AI agents, Wed Nov 11 2026. No macro, syntax, notation, axiom, sorry.
-/
import Derived.Test.YtmljmpjpdgijlaaDoorRows
import GoSem.ClaimSeven
namespace Go.Proofs.YtmljmpjpdgijlaaDoor
namespace Rows

/-- THE TIED CARD OF 'crupperlaw07.SetPlays'. -/
def setPlaysCard : Claim7 := { stood := { row := setPlaysRow, standIns := [], harness := (true, "19ede123e48966f09d729073eb857be53a037cb58b35a1822e400d0ef29e3586"), looks := false }, kinds := [], alts := [], laidByText := true, laidKinds := [.data], laidTests := true, laidLooks := .later }
def SetPlaysCardSaid : Prop := Claim7.holds Tryd.pinned (.plain (OpenSpec.ofChange setPlaysSpec)) setPlaysCard

/-- THE TIED CARD OF 'crupperlaw07.SetCopies'. -/
def setCopiesCard : Claim7 := { stood := { row := setCopiesRow, standIns := [], harness := (true, "19ede123e48966f09d729073eb857be53a037cb58b35a1822e400d0ef29e3586"), looks := false }, kinds := [], alts := [], laidByText := true, laidKinds := [.data], laidTests := true, laidLooks := .later }
def SetCopiesCardSaid : Prop := Claim7.holds Tryd.pinned (.plain (OpenSpec.ofChange setCopiesSpec)) setCopiesCard

/-- THE TIED CARD OF 'crupperlaw08.SemGrows'. -/
def semGrowsCard : Claim7 := { stood := { row := semGrowsRow, standIns := [], harness := (true, "19ede123e48966f09d729073eb857be53a037cb58b35a1822e400d0ef29e3586"), looks := false }, kinds := [], alts := [], laidByText := true, laidKinds := [.data], laidTests := true, laidLooks := .later }
def SemGrowsCardSaid : Prop := Claim7.holds Tryd.pinned (.plain (OpenSpec.ofChange semGrowsSpec)) semGrowsCard

/-- THE TIED CARD OF 'crupperlaw08.SemSteps'. -/
def semStepsCard : Claim7 := { stood := { row := semStepsRow, standIns := [], harness := (true, "19ede123e48966f09d729073eb857be53a037cb58b35a1822e400d0ef29e3586"), looks := false }, kinds := [], alts := [], laidByText := true, laidKinds := [.data], laidTests := true, laidLooks := .later }
def SemStepsCardSaid : Prop := Claim7.holds Tryd.pinned (.plain (OpenSpec.ofChange semStepsSpec)) semStepsCard

/-- THE SECOND FORM's CARD OF 'crupperlaw07.SetPlays'. -/
def setPlaysUptoCard : Claim7 := { stood := { row := setPlaysUptoRow, standIns := [], harness := (true, "19ede123e48966f09d729073eb857be53a037cb58b35a1822e400d0ef29e3586"), looks := false }, kinds := [], alts := [], laidByText := true, laidKinds := [.data], laidTests := true, laidLooks := .later }
def SetPlaysUptoCardSaid : Prop := Claim7.holds Tryd.pinned (.plain (OpenSpec.upto setPlaysSpec)) setPlaysUptoCard

/-- THE SECOND FORM's CARD OF 'crupperlaw07.SetCopies'. -/
def setCopiesUptoCard : Claim7 := { stood := { row := setCopiesUptoRow, standIns := [], harness := (true, "19ede123e48966f09d729073eb857be53a037cb58b35a1822e400d0ef29e3586"), looks := false }, kinds := [], alts := [], laidByText := true, laidKinds := [.data], laidTests := true, laidLooks := .later }
def SetCopiesUptoCardSaid : Prop := Claim7.holds Tryd.pinned (.plain (OpenSpec.upto setCopiesSpec)) setCopiesUptoCard

/-- THE SECOND FORM's CARD OF 'crupperlaw08.SemGrows'. -/
def semGrowsUptoCard : Claim7 := { stood := { row := semGrowsUptoRow, standIns := [], harness := (true, "19ede123e48966f09d729073eb857be53a037cb58b35a1822e400d0ef29e3586"), looks := false }, kinds := [], alts := [], laidByText := true, laidKinds := [.data], laidTests := true, laidLooks := .later }
def SemGrowsUptoCardSaid : Prop := Claim7.holds Tryd.pinned (.plain (OpenSpec.upto semGrowsSpec)) semGrowsUptoCard

/-- THE SECOND FORM's CARD OF 'crupperlaw08.SemSteps'. -/
def semStepsUptoCard : Claim7 := { stood := { row := semStepsUptoRow, standIns := [], harness := (true, "19ede123e48966f09d729073eb857be53a037cb58b35a1822e400d0ef29e3586"), looks := false }, kinds := [], alts := [], laidByText := true, laidKinds := [.data], laidTests := true, laidLooks := .later }
def SemStepsUptoCardSaid : Prop := Claim7.holds Tryd.pinned (.plain (OpenSpec.upto semStepsSpec)) semStepsUptoCard
end Rows
end Go.Proofs.YtmljmpjpdgijlaaDoor
