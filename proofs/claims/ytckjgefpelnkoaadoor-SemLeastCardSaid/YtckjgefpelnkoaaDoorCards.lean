/-
  DERIVED. GIVEN WITH THE SEED: THE CARDS: each row of YtckjgefpelnkoaaDoorRows.lean that lists a variable, with what it lists TIED to the program's text (the seventh form; the later family's looks); each row that meets fmt, with fmt's text TOLD by the authors' own Lean function (tested against real Go, not proved from fmt's source: count such statements apart). THE CARD IS WHAT COUNTS. Prove the row's statement (the work); the ties are given (YtckjgefpelnkoaaDoorTie.lean); close each card by the builder's one call (the guide's Derived/Test/ToyasCard.lean, 'card_holds'). Laid BY PROGRAM, IN A SANDBOX (cutbox-door.mjs). By AI agents, Wed Nov 11 2026. No macro, syntax, notation, axiom, sorry.
-/
import Derived.Test.YtckjgefpelnkoaaDoorRows
import GoSem.ClaimSeven
namespace Go.Proofs.YtckjgefpelnkoaaDoor
namespace Rows

/-- THE TIED CARD OF 'crupperlaw08.SemLeast'. -/
def semLeastCard : Claim7 := { stood := { row := semLeastRow, standIns := [], harness := (true, "dd9a9e741a7faf1e0f00129d803375add7a058a2c42c20bcf86b021d54f87249"), looks := false }, kinds := [], alts := [], laidByText := true, laidKinds := [.data], laidTests := true, laidLooks := .later }
def SemLeastCardSaid : Prop := Claim7.holds Tryd.pinned (.plain (OpenSpec.ofChange semLeastSpec)) semLeastCard

/-- THE TIED CARD OF 'crupperlaw08.SemModels'. -/
def semModelsCard : Claim7 := { stood := { row := semModelsRow, standIns := [], harness := (true, "dd9a9e741a7faf1e0f00129d803375add7a058a2c42c20bcf86b021d54f87249"), looks := false }, kinds := [], alts := [], laidByText := true, laidKinds := [.data], laidTests := true, laidLooks := .later }
def SemModelsCardSaid : Prop := Claim7.holds Tryd.pinned (.plain (OpenSpec.ofChange semModelsSpec)) semModelsCard

/-- THE SECOND FORM's CARD OF 'crupperlaw08.SemLeast'. -/
def semLeastUptoCard : Claim7 := { stood := { row := semLeastUptoRow, standIns := [], harness := (true, "dd9a9e741a7faf1e0f00129d803375add7a058a2c42c20bcf86b021d54f87249"), looks := false }, kinds := [], alts := [], laidByText := true, laidKinds := [.data], laidTests := true, laidLooks := .later }
def SemLeastUptoCardSaid : Prop := Claim7.holds Tryd.pinned (.plain (OpenSpec.upto semLeastSpec)) semLeastUptoCard

/-- THE SECOND FORM's CARD OF 'crupperlaw08.SemModels'. -/
def semModelsUptoCard : Claim7 := { stood := { row := semModelsUptoRow, standIns := [], harness := (true, "dd9a9e741a7faf1e0f00129d803375add7a058a2c42c20bcf86b021d54f87249"), looks := false }, kinds := [], alts := [], laidByText := true, laidKinds := [.data], laidTests := true, laidLooks := .later }
def SemModelsUptoCardSaid : Prop := Claim7.holds Tryd.pinned (.plain (OpenSpec.upto semModelsSpec)) semModelsUptoCard
end Rows
end Go.Proofs.YtckjgefpelnkoaaDoor
