/-
  DERIVED. GIVEN WITH THE SEED: THE CARDS: each row of YtaabmkebbnkonaaDoorRows.lean that lists a variable, with what it lists TIED to the program's text (the seventh form; the later family's looks); each row that meets fmt, with fmt's text TOLD by the authors' own Lean function (tested against real Go, not proved from fmt's source: count such statements apart). THE CARD IS WHAT COUNTS. Prove the row's statement (the work); the ties are given (YtaabmkebbnkonaaDoorTie.lean); close each card by the builder's one call (the guide's Derived/Test/ToyasCard.lean, 'card_holds'). Laid BY PROGRAM, IN A SANDBOX (cutbox-door.mjs). By AI agents, Wed Nov 11 2026. No macro, syntax, notation, axiom, sorry.
-/
import Derived.Test.YtaabmkebbnkonaaDoorRows
import GoSem.ClaimSeven
namespace Go.Proofs.YtaabmkebbnkonaaDoor
namespace Rows

/-- THE TIED CARD OF 'crupperlaw43.LiveLeast'. -/
def liveLeastCard : Claim7 := { stood := { row := liveLeastRow, standIns := [], harness := (true, "47d3ad5d173aea0c0a4c70e74882fc617caaf2363aad9981aa3b5e4a96e57a23"), looks := false }, kinds := [], alts := [], laidByText := true, laidKinds := [.data], laidTests := true, laidLooks := .later }
def LiveLeastCardSaid : Prop := Claim7.holds Tryd.pinned (.plain (OpenSpec.ofChange liveLeastSpec)) liveLeastCard

/-- THE TIED CARD OF 'crupperlaw43.LivePlays'. -/
def livePlaysCard : Claim7 := { stood := { row := livePlaysRow, standIns := [], harness := (true, "47d3ad5d173aea0c0a4c70e74882fc617caaf2363aad9981aa3b5e4a96e57a23"), looks := false }, kinds := [], alts := [], laidByText := true, laidKinds := [.data], laidTests := true, laidLooks := .later }
def LivePlaysCardSaid : Prop := Claim7.holds Tryd.pinned (.plain (OpenSpec.ofChange livePlaysSpec)) livePlaysCard

/-- THE TIED CARD OF 'crupperlaw43.LiveOrders'. -/
def liveOrdersCard : Claim7 := { stood := { row := liveOrdersRow, standIns := [], harness := (true, "47d3ad5d173aea0c0a4c70e74882fc617caaf2363aad9981aa3b5e4a96e57a23"), looks := false }, kinds := [], alts := [], laidByText := true, laidKinds := [.data], laidTests := true, laidLooks := .later }
def LiveOrdersCardSaid : Prop := Claim7.holds Tryd.pinned (.plain (OpenSpec.ofChange liveOrdersSpec)) liveOrdersCard

/-- THE SECOND FORM's CARD OF 'crupperlaw43.LiveLeast'. -/
def liveLeastUptoCard : Claim7 := { stood := { row := liveLeastUptoRow, standIns := [], harness := (true, "47d3ad5d173aea0c0a4c70e74882fc617caaf2363aad9981aa3b5e4a96e57a23"), looks := false }, kinds := [], alts := [], laidByText := true, laidKinds := [.data], laidTests := true, laidLooks := .later }
def LiveLeastUptoCardSaid : Prop := Claim7.holds Tryd.pinned (.plain (OpenSpec.upto liveLeastSpec)) liveLeastUptoCard

/-- THE SECOND FORM's CARD OF 'crupperlaw43.LivePlays'. -/
def livePlaysUptoCard : Claim7 := { stood := { row := livePlaysUptoRow, standIns := [], harness := (true, "47d3ad5d173aea0c0a4c70e74882fc617caaf2363aad9981aa3b5e4a96e57a23"), looks := false }, kinds := [], alts := [], laidByText := true, laidKinds := [.data], laidTests := true, laidLooks := .later }
def LivePlaysUptoCardSaid : Prop := Claim7.holds Tryd.pinned (.plain (OpenSpec.upto livePlaysSpec)) livePlaysUptoCard

/-- THE SECOND FORM's CARD OF 'crupperlaw43.LiveOrders'. -/
def liveOrdersUptoCard : Claim7 := { stood := { row := liveOrdersUptoRow, standIns := [], harness := (true, "47d3ad5d173aea0c0a4c70e74882fc617caaf2363aad9981aa3b5e4a96e57a23"), looks := false }, kinds := [], alts := [], laidByText := true, laidKinds := [.data], laidTests := true, laidLooks := .later }
def LiveOrdersUptoCardSaid : Prop := Claim7.holds Tryd.pinned (.plain (OpenSpec.upto liveOrdersSpec)) liveOrdersUptoCard
end Rows
end Go.Proofs.YtaabmkebbnkonaaDoor
