/-
  No cell of these rows narrows 'for every input' (looked for: loops, veiled, ifaces, maps, wideKeys, modest, calm, conditions, laid).
  DERIVED. THE GIVEN ROWS OF THIS SEAT. 9 by the template 'for every input the law returns true; each argument reads behind the call as it read before'; 0 by the template 'total and deterministic' (their statements: YtipcgjigkipcpaaTotals.lean).
  GIVEN WITH THE SEED: the statements are not yours to turn. If you find one false, say at which input.
  Laid BY PROGRAM, IN A SANDBOX (cutbox-rows.mjs): the forced cells as the released guide's own fill.sh prints them over the translation 4cb535ff3a0c9192… (all of the seat's roots in one cut). By AI agents, Wed Nov 11 2026. No macro, syntax, notation, axiom, sorry.
-/
import Derived.Test.YtipcgjigkipcpaaChecked
import GoSem.Claim
import GoSem.ClaimJoined
import GoSem.ClaimMapViews
import Derived.JoinedTies
import Derived.KernelRfl
namespace Go.Proofs.Ytipcgjigkipcpaa
/- THE CELL 'sum', in the pinned program and in every row, IS THE sha256 OF THE DUMP (.gsa) THAT YtipcgjigkipcpaaProg.lean LOADS. Nothing in Lean hashes anything: it is a label: what it is worth is what the hold of that sum in a sandbox is worth. -/
noncomputable def Try.pinned : Pinned := { name := "ytipcgjigkipcpaa", sum := "4cb535ff3a0c9192b9f5dfc73486b2983991ebd5d44b390731e22ab87b1f5303", checked := Try.checked }
namespace Rows
def none {H : Type} : Left H := { results := [], args := [] }

/-- 'crupperlaw17.QuantOrders': WHATEVER THE INPUT: true; the input reads as it did. -/
def quantOrdersSpec : ChangeSpec := { name := "quantOrders", fn := fun _ => fun
  | [d1, d2, d3] => { results := [.lit (.bool true)], args := [d1, d2, d3] }
  | _ => none }
def quantOrdersRow : OpenClaim := { program := "ytipcgjigkipcpaa", sum := "4cb535ff3a0c9192b9f5dfc73486b2983991ebd5d44b390731e22ab87b1f5303", func := "crupper/crupperlaw17.QuantOrders", spec := "quantOrders", unfollowed := true, recurses := true, apart := false }
def QuantOrdersSaid : Prop := quantOrdersRow.holds Try.pinned (OpenSpec.ofChange quantOrdersSpec)

/-- ITS FALSE NEIGHBOUR: 'it returns false'. Refute it at one input. -/
def quantOrdersWrong : ChangeSpec := { name := "quantOrders", fn := fun _ => fun
  | [d1, d2, d3] => { results := [.lit (.bool false)], args := [d1, d2, d3] }
  | _ => none }
def QuantOrdersWrongFalsely : Prop := quantOrdersRow.holds Try.pinned (OpenSpec.ofChange quantOrdersWrong)

/-- 'crupperlaw37.OrderMoves': WHATEVER THE INPUT: true; the input reads as it did. -/
def orderMovesSpec : ChangeSpec := { name := "orderMoves", fn := fun _ => fun
  | [d1, d2, d3] => { results := [.lit (.bool true)], args := [d1, d2, d3] }
  | _ => none }
def orderMovesRow : OpenClaim := { program := "ytipcgjigkipcpaa", sum := "4cb535ff3a0c9192b9f5dfc73486b2983991ebd5d44b390731e22ab87b1f5303", func := "crupper/crupperlaw37.OrderMoves", spec := "orderMoves", unfollowed := true, recurses := true, apart := false }
def OrderMovesSaid : Prop := orderMovesRow.holds Try.pinned (OpenSpec.ofChange orderMovesSpec)

/-- ITS FALSE NEIGHBOUR: 'it returns false'. Refute it at one input. -/
def orderMovesWrong : ChangeSpec := { name := "orderMoves", fn := fun _ => fun
  | [d1, d2, d3] => { results := [.lit (.bool false)], args := [d1, d2, d3] }
  | _ => none }
def OrderMovesWrongFalsely : Prop := orderMovesRow.holds Try.pinned (OpenSpec.ofChange orderMovesWrong)

/-- 'crupperlaw19.ExprTells': WHATEVER THE INPUT: true; the input reads as it did. -/
def exprTellsSpec : ChangeSpec := { name := "exprTells", fn := fun _ => fun
  | [d1, d2, d3] => { results := [.lit (.bool true)], args := [d1, d2, d3] }
  | _ => none }
def exprTellsRow : OpenClaim := { program := "ytipcgjigkipcpaa", sum := "4cb535ff3a0c9192b9f5dfc73486b2983991ebd5d44b390731e22ab87b1f5303", func := "crupper/crupperlaw19.ExprTells", spec := "exprTells", recurses := true, apart := false }
def ExprTellsSaid : Prop := exprTellsRow.holds Try.pinned (OpenSpec.ofChange exprTellsSpec)

/-- ITS FALSE NEIGHBOUR: 'it returns false'. Refute it at one input. -/
def exprTellsWrong : ChangeSpec := { name := "exprTells", fn := fun _ => fun
  | [d1, d2, d3] => { results := [.lit (.bool false)], args := [d1, d2, d3] }
  | _ => none }
def ExprTellsWrongFalsely : Prop := exprTellsRow.holds Try.pinned (OpenSpec.ofChange exprTellsWrong)

/-- 'crupperlaw19.ExprMorgan': WHATEVER THE INPUT: true; the input reads as it did. -/
def exprMorganSpec : ChangeSpec := { name := "exprMorgan", fn := fun _ => fun
  | [d1, d2, d3] => { results := [.lit (.bool true)], args := [d1, d2, d3] }
  | _ => none }
def exprMorganRow : OpenClaim := { program := "ytipcgjigkipcpaa", sum := "4cb535ff3a0c9192b9f5dfc73486b2983991ebd5d44b390731e22ab87b1f5303", func := "crupper/crupperlaw19.ExprMorgan", spec := "exprMorgan", recurses := true, apart := false }
def ExprMorganSaid : Prop := exprMorganRow.holds Try.pinned (OpenSpec.ofChange exprMorganSpec)

/-- ITS FALSE NEIGHBOUR: 'it returns false'. Refute it at one input. -/
def exprMorganWrong : ChangeSpec := { name := "exprMorgan", fn := fun _ => fun
  | [d1, d2, d3] => { results := [.lit (.bool false)], args := [d1, d2, d3] }
  | _ => none }
def ExprMorganWrongFalsely : Prop := exprMorganRow.holds Try.pinned (OpenSpec.ofChange exprMorganWrong)

/-- 'crupperlaw18.SatTells': WHATEVER THE INPUT: true; the input reads as it did. -/
def satTellsSpec : ChangeSpec := { name := "satTells", fn := fun _ => fun
  | [d1, d2, d3] => { results := [.lit (.bool true)], args := [d1, d2, d3] }
  | _ => none }
def satTellsRow : OpenClaim := { program := "ytipcgjigkipcpaa", sum := "4cb535ff3a0c9192b9f5dfc73486b2983991ebd5d44b390731e22ab87b1f5303", func := "crupper/crupperlaw18.SatTells", spec := "satTells", unfollowed := true, recurses := true, apart := false }
def SatTellsSaid : Prop := satTellsRow.holds Try.pinned (OpenSpec.ofChange satTellsSpec)

/-- ITS FALSE NEIGHBOUR: 'it returns false'. Refute it at one input. -/
def satTellsWrong : ChangeSpec := { name := "satTells", fn := fun _ => fun
  | [d1, d2, d3] => { results := [.lit (.bool false)], args := [d1, d2, d3] }
  | _ => none }
def SatTellsWrongFalsely : Prop := satTellsRow.holds Try.pinned (OpenSpec.ofChange satTellsWrong)

/-- 'crupperlaw19.ExprEqual': WHATEVER THE INPUT: true; the input reads as it did. -/
def exprEqualSpec : ChangeSpec := { name := "exprEqual", fn := fun _ => fun
  | [d1, d2, d3] => { results := [.lit (.bool true)], args := [d1, d2, d3] }
  | _ => none }
def exprEqualRow : OpenClaim := { program := "ytipcgjigkipcpaa", sum := "4cb535ff3a0c9192b9f5dfc73486b2983991ebd5d44b390731e22ab87b1f5303", func := "crupper/crupperlaw19.ExprEqual", spec := "exprEqual", recurses := true, apart := false }
def ExprEqualSaid : Prop := exprEqualRow.holds Try.pinned (OpenSpec.ofChange exprEqualSpec)

/-- ITS FALSE NEIGHBOUR: 'it returns false'. Refute it at one input. -/
def exprEqualWrong : ChangeSpec := { name := "exprEqual", fn := fun _ => fun
  | [d1, d2, d3] => { results := [.lit (.bool false)], args := [d1, d2, d3] }
  | _ => none }
def ExprEqualWrongFalsely : Prop := exprEqualRow.holds Try.pinned (OpenSpec.ofChange exprEqualWrong)

/-- 'crupperlaw37.OrderBest': WHATEVER THE INPUT: true; the input reads as it did. -/
def orderBestSpec : ChangeSpec := { name := "orderBest", fn := fun _ => fun
  | [d1, d2, d3] => { results := [.lit (.bool true)], args := [d1, d2, d3] }
  | _ => none }
def orderBestRow : OpenClaim := { program := "ytipcgjigkipcpaa", sum := "4cb535ff3a0c9192b9f5dfc73486b2983991ebd5d44b390731e22ab87b1f5303", func := "crupper/crupperlaw37.OrderBest", spec := "orderBest", unfollowed := true, recurses := true, apart := false }
def OrderBestSaid : Prop := orderBestRow.holds Try.pinned (OpenSpec.ofChange orderBestSpec)

/-- ITS FALSE NEIGHBOUR: 'it returns false'. Refute it at one input. -/
def orderBestWrong : ChangeSpec := { name := "orderBest", fn := fun _ => fun
  | [d1, d2, d3] => { results := [.lit (.bool false)], args := [d1, d2, d3] }
  | _ => none }
def OrderBestWrongFalsely : Prop := orderBestRow.holds Try.pinned (OpenSpec.ofChange orderBestWrong)

/-- 'crupperlaw19.ExprBuilds': WHATEVER THE INPUT: true; the input reads as it did. -/
def exprBuildsSpec : ChangeSpec := { name := "exprBuilds", fn := fun _ => fun
  | [d1, d2] => { results := [.lit (.bool true)], args := [d1, d2] }
  | _ => none }
def exprBuildsRow : OpenClaim := { program := "ytipcgjigkipcpaa", sum := "4cb535ff3a0c9192b9f5dfc73486b2983991ebd5d44b390731e22ab87b1f5303", func := "crupper/crupperlaw19.ExprBuilds", spec := "exprBuilds", recurses := true, apart := false }
def ExprBuildsSaid : Prop := exprBuildsRow.holds Try.pinned (OpenSpec.ofChange exprBuildsSpec)

/-- ITS FALSE NEIGHBOUR: 'it returns false'. Refute it at one input. -/
def exprBuildsWrong : ChangeSpec := { name := "exprBuilds", fn := fun _ => fun
  | [d1, d2] => { results := [.lit (.bool false)], args := [d1, d2] }
  | _ => none }
def ExprBuildsWrongFalsely : Prop := exprBuildsRow.holds Try.pinned (OpenSpec.ofChange exprBuildsWrong)

/-- 'crupperlaw18.SatPaths': WHATEVER THE INPUT: true; the input reads as it did. -/
def satPathsSpec : ChangeSpec := { name := "satPaths", fn := fun _ => fun
  | [d1, d2] => { results := [.lit (.bool true)], args := [d1, d2] }
  | _ => none }
def satPathsRow : OpenClaim := { program := "ytipcgjigkipcpaa", sum := "4cb535ff3a0c9192b9f5dfc73486b2983991ebd5d44b390731e22ab87b1f5303", func := "crupper/crupperlaw18.SatPaths", spec := "satPaths", unfollowed := true, recurses := true, apart := false }
def SatPathsSaid : Prop := satPathsRow.holds Try.pinned (OpenSpec.ofChange satPathsSpec)

/-- ITS FALSE NEIGHBOUR: 'it returns false'. Refute it at one input. -/
def satPathsWrong : ChangeSpec := { name := "satPaths", fn := fun _ => fun
  | [d1, d2] => { results := [.lit (.bool false)], args := [d1, d2] }
  | _ => none }
def SatPathsWrongFalsely : Prop := satPathsRow.holds Try.pinned (OpenSpec.ofChange satPathsWrong)

/- THE SECOND FORM. 'bulk': how many values and letters a reading holds, each counted each time it is reached (what is shared counts as often as it is met; a slice's spare places count too). A statement '..UptoSaid' is the law's where the arguments, and the package variables that the reading takes, are together of bulk at most 1048576: NARROWER than '..Said'. Prove '..Said' where nothing that the law and all that it calls make is longer than what came in: it says more and counts as full. Else prove '..UptoSaid'. A law counts once. -/
mutual
def uptoBulk {H : Type} : DataW H → Nat
  | .lit (.string bytes) => bytes.length + 1
  | .lit _ => 1
  | .nil => 1
  | .ptr d => uptoBulk d + 1
  | .slice elems spare => uptoBulkAll elems + uptoBulkAll spare + 1
  | .agg parts => uptoBulkAll parts + 1
  | .iface _ d => uptoBulk d + 1
  | .map entries => uptoBulkEntries entries + 1
  | .held _ => 1
def uptoBulkAll {H : Type} : List (DataW H) → Nat
  | [] => 0
  | d :: r => uptoBulk d + uptoBulkAll r
def uptoBulkEntries {H : Type} : List (Lit × DataW H) → Nat
  | [] => 0
  | x :: r => uptoBulkEntry x + uptoBulkEntries r
def uptoBulkEntry {H : Type} : Lit × DataW H → Nat
  | (.string bytes, d) => bytes.length + uptoBulk d + 1
  | (_, d) => uptoBulk d + 1
 end
def uptoSmall : (H : Type) → List (DataW H) → Bool := fun _ ds => decide (uptoBulkAll ds ≤ 1048576)
def OpenSpec.upto (s : _root_.Go.ChangeSpec) : _root_.Go.OpenSpec := { _root_.Go.OpenSpec.ofChange s with cond := some uptoSmall }

/-- 'crupperlaw17.QuantOrders', WHERE WHAT IT READS IS OF BULK AT MOST 1048576: true; the input reads as it did. -/
def quantOrdersUptoRow : OpenClaim := { program := "ytipcgjigkipcpaa", sum := "4cb535ff3a0c9192b9f5dfc73486b2983991ebd5d44b390731e22ab87b1f5303", func := "crupper/crupperlaw17.QuantOrders", spec := "quantOrders", unfollowed := true, recurses := true, apart := false, narrowed := true }
def QuantOrdersUptoSaid : Prop := quantOrdersUptoRow.holds Try.pinned (OpenSpec.upto quantOrdersSpec)

/-- 'crupperlaw37.OrderMoves', WHERE WHAT IT READS IS OF BULK AT MOST 1048576: true; the input reads as it did. -/
def orderMovesUptoRow : OpenClaim := { program := "ytipcgjigkipcpaa", sum := "4cb535ff3a0c9192b9f5dfc73486b2983991ebd5d44b390731e22ab87b1f5303", func := "crupper/crupperlaw37.OrderMoves", spec := "orderMoves", unfollowed := true, recurses := true, apart := false, narrowed := true }
def OrderMovesUptoSaid : Prop := orderMovesUptoRow.holds Try.pinned (OpenSpec.upto orderMovesSpec)

/-- 'crupperlaw19.ExprTells', WHERE WHAT IT READS IS OF BULK AT MOST 1048576: true; the input reads as it did. -/
def exprTellsUptoRow : OpenClaim := { program := "ytipcgjigkipcpaa", sum := "4cb535ff3a0c9192b9f5dfc73486b2983991ebd5d44b390731e22ab87b1f5303", func := "crupper/crupperlaw19.ExprTells", spec := "exprTells", recurses := true, apart := false, narrowed := true }
def ExprTellsUptoSaid : Prop := exprTellsUptoRow.holds Try.pinned (OpenSpec.upto exprTellsSpec)

/-- 'crupperlaw19.ExprMorgan', WHERE WHAT IT READS IS OF BULK AT MOST 1048576: true; the input reads as it did. -/
def exprMorganUptoRow : OpenClaim := { program := "ytipcgjigkipcpaa", sum := "4cb535ff3a0c9192b9f5dfc73486b2983991ebd5d44b390731e22ab87b1f5303", func := "crupper/crupperlaw19.ExprMorgan", spec := "exprMorgan", recurses := true, apart := false, narrowed := true }
def ExprMorganUptoSaid : Prop := exprMorganUptoRow.holds Try.pinned (OpenSpec.upto exprMorganSpec)

/-- 'crupperlaw18.SatTells', WHERE WHAT IT READS IS OF BULK AT MOST 1048576: true; the input reads as it did. -/
def satTellsUptoRow : OpenClaim := { program := "ytipcgjigkipcpaa", sum := "4cb535ff3a0c9192b9f5dfc73486b2983991ebd5d44b390731e22ab87b1f5303", func := "crupper/crupperlaw18.SatTells", spec := "satTells", unfollowed := true, recurses := true, apart := false, narrowed := true }
def SatTellsUptoSaid : Prop := satTellsUptoRow.holds Try.pinned (OpenSpec.upto satTellsSpec)

/-- 'crupperlaw19.ExprEqual', WHERE WHAT IT READS IS OF BULK AT MOST 1048576: true; the input reads as it did. -/
def exprEqualUptoRow : OpenClaim := { program := "ytipcgjigkipcpaa", sum := "4cb535ff3a0c9192b9f5dfc73486b2983991ebd5d44b390731e22ab87b1f5303", func := "crupper/crupperlaw19.ExprEqual", spec := "exprEqual", recurses := true, apart := false, narrowed := true }
def ExprEqualUptoSaid : Prop := exprEqualUptoRow.holds Try.pinned (OpenSpec.upto exprEqualSpec)

/-- 'crupperlaw37.OrderBest', WHERE WHAT IT READS IS OF BULK AT MOST 1048576: true; the input reads as it did. -/
def orderBestUptoRow : OpenClaim := { program := "ytipcgjigkipcpaa", sum := "4cb535ff3a0c9192b9f5dfc73486b2983991ebd5d44b390731e22ab87b1f5303", func := "crupper/crupperlaw37.OrderBest", spec := "orderBest", unfollowed := true, recurses := true, apart := false, narrowed := true }
def OrderBestUptoSaid : Prop := orderBestUptoRow.holds Try.pinned (OpenSpec.upto orderBestSpec)

/-- 'crupperlaw19.ExprBuilds', WHERE WHAT IT READS IS OF BULK AT MOST 1048576: true; the input reads as it did. -/
def exprBuildsUptoRow : OpenClaim := { program := "ytipcgjigkipcpaa", sum := "4cb535ff3a0c9192b9f5dfc73486b2983991ebd5d44b390731e22ab87b1f5303", func := "crupper/crupperlaw19.ExprBuilds", spec := "exprBuilds", recurses := true, apart := false, narrowed := true }
def ExprBuildsUptoSaid : Prop := exprBuildsUptoRow.holds Try.pinned (OpenSpec.upto exprBuildsSpec)

/-- 'crupperlaw18.SatPaths', WHERE WHAT IT READS IS OF BULK AT MOST 1048576: true; the input reads as it did. -/
def satPathsUptoRow : OpenClaim := { program := "ytipcgjigkipcpaa", sum := "4cb535ff3a0c9192b9f5dfc73486b2983991ebd5d44b390731e22ab87b1f5303", func := "crupper/crupperlaw18.SatPaths", spec := "satPaths", unfollowed := true, recurses := true, apart := false, narrowed := true }
def SatPathsUptoSaid : Prop := satPathsUptoRow.holds Try.pinned (OpenSpec.upto satPathsSpec)

end Rows
end Go.Proofs.Ytipcgjigkipcpaa
