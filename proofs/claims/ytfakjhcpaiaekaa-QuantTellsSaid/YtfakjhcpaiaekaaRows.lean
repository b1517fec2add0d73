/-
  No cell of these rows narrows 'for every input' (looked for: loops, veiled, ifaces, maps, wideKeys, modest, calm, conditions, laid).
  DERIVED. THE GIVEN ROWS OF THIS SEAT. 4 by the template 'for every input the law returns true; each argument reads behind the call as it read before'; 0 by the template 'total and deterministic' (their statements: YtfakjhcpaiaekaaTotals.lean).
  GIVEN WITH THE SEED: the statements are not yours to turn. If you find one false, say at which input.
  Laid BY PROGRAM, IN A SANDBOX (cutbox-rows.mjs): the forced cells as the released guide's own fill.sh prints them over the translation feac7eacf2aed731… (all of the seat's roots in one cut). By AI agents, Wed Nov 11 2026. No macro, syntax, notation, axiom, sorry.
-/
import Derived.Test.YtfakjhcpaiaekaaChecked
import GoSem.Claim
import GoSem.ClaimJoined
import GoSem.ClaimMapViews
import Derived.JoinedTies
import Derived.KernelRfl
namespace Go.Proofs.Ytfakjhcpaiaekaa
/- THE CELL 'sum', in the pinned program and in every row, IS THE sha256 OF THE DUMP (.gsa) THAT YtfakjhcpaiaekaaProg.lean LOADS. Nothing in Lean hashes anything: it is a label: what it is worth is what the hold of that sum in a sandbox is worth. -/
noncomputable def Try.pinned : Pinned := { name := "ytfakjhcpaiaekaa", sum := "feac7eacf2aed731097388bde504818535db312d41b965df2e004be6a0cfaf14", checked := Try.checked }
namespace Rows
def none {H : Type} : Left H := { results := [], args := [] }

/-- 'crupperlaw18.SatTells': WHATEVER THE INPUT: true; the input reads as it did. -/
def satTellsSpec : ChangeSpec := { name := "satTells", fn := fun _ => fun
  | [d1, d2, d3] => { results := [.lit (.bool true)], args := [d1, d2, d3] }
  | _ => none }
def satTellsRow : OpenClaim := { program := "ytfakjhcpaiaekaa", sum := "feac7eacf2aed731097388bde504818535db312d41b965df2e004be6a0cfaf14", func := "crupper/crupperlaw18.SatTells", spec := "satTells", unfollowed := true, recurses := true, apart := false }
def SatTellsSaid : Prop := satTellsRow.holds Try.pinned (OpenSpec.ofChange satTellsSpec)

/-- ITS FALSE NEIGHBOUR: 'it returns false'. Refute it at one input. -/
def satTellsWrong : ChangeSpec := { name := "satTells", fn := fun _ => fun
  | [d1, d2, d3] => { results := [.lit (.bool false)], args := [d1, d2, d3] }
  | _ => none }
def SatTellsWrongFalsely : Prop := satTellsRow.holds Try.pinned (OpenSpec.ofChange satTellsWrong)

/-- 'crupperlaw18.SatPaths': WHATEVER THE INPUT: true; the input reads as it did. -/
def satPathsSpec : ChangeSpec := { name := "satPaths", fn := fun _ => fun
  | [d1, d2] => { results := [.lit (.bool true)], args := [d1, d2] }
  | _ => none }
def satPathsRow : OpenClaim := { program := "ytfakjhcpaiaekaa", sum := "feac7eacf2aed731097388bde504818535db312d41b965df2e004be6a0cfaf14", func := "crupper/crupperlaw18.SatPaths", spec := "satPaths", unfollowed := true, recurses := true, apart := false }
def SatPathsSaid : Prop := satPathsRow.holds Try.pinned (OpenSpec.ofChange satPathsSpec)

/-- ITS FALSE NEIGHBOUR: 'it returns false'. Refute it at one input. -/
def satPathsWrong : ChangeSpec := { name := "satPaths", fn := fun _ => fun
  | [d1, d2] => { results := [.lit (.bool false)], args := [d1, d2] }
  | _ => none }
def SatPathsWrongFalsely : Prop := satPathsRow.holds Try.pinned (OpenSpec.ofChange satPathsWrong)

/-- 'crupperlaw17.QuantHolds': WHATEVER THE INPUT: true; the input reads as it did. -/
def quantHoldsSpec : ChangeSpec := { name := "quantHolds", fn := fun _ => fun
  | [d1, d2, d3] => { results := [.lit (.bool true)], args := [d1, d2, d3] }
  | _ => none }
def quantHoldsRow : OpenClaim := { program := "ytfakjhcpaiaekaa", sum := "feac7eacf2aed731097388bde504818535db312d41b965df2e004be6a0cfaf14", func := "crupper/crupperlaw17.QuantHolds", spec := "quantHolds", unfollowed := true, recurses := true, apart := false }
def QuantHoldsSaid : Prop := quantHoldsRow.holds Try.pinned (OpenSpec.ofChange quantHoldsSpec)

/-- ITS FALSE NEIGHBOUR: 'it returns false'. Refute it at one input. -/
def quantHoldsWrong : ChangeSpec := { name := "quantHolds", fn := fun _ => fun
  | [d1, d2, d3] => { results := [.lit (.bool false)], args := [d1, d2, d3] }
  | _ => none }
def QuantHoldsWrongFalsely : Prop := quantHoldsRow.holds Try.pinned (OpenSpec.ofChange quantHoldsWrong)

/-- 'crupperlaw17.QuantTells': WHATEVER THE INPUT: true; the input reads as it did. -/
def quantTellsSpec : ChangeSpec := { name := "quantTells", fn := fun _ => fun
  | [d1, d2, d3] => { results := [.lit (.bool true)], args := [d1, d2, d3] }
  | _ => none }
def quantTellsRow : OpenClaim := { program := "ytfakjhcpaiaekaa", sum := "feac7eacf2aed731097388bde504818535db312d41b965df2e004be6a0cfaf14", func := "crupper/crupperlaw17.QuantTells", spec := "quantTells", unfollowed := true, recurses := true, apart := false }
def QuantTellsSaid : Prop := quantTellsRow.holds Try.pinned (OpenSpec.ofChange quantTellsSpec)

/-- ITS FALSE NEIGHBOUR: 'it returns false'. Refute it at one input. -/
def quantTellsWrong : ChangeSpec := { name := "quantTells", fn := fun _ => fun
  | [d1, d2, d3] => { results := [.lit (.bool false)], args := [d1, d2, d3] }
  | _ => none }
def QuantTellsWrongFalsely : Prop := quantTellsRow.holds Try.pinned (OpenSpec.ofChange quantTellsWrong)

/- THE SECOND FORM. 'bulk': how many values and letters a reading holds, each counted each time it is reached (what is shared counts as often as it is met; a slice's spare places count too). A statement '..UptoSaid' is the law's where the arguments, and the package variables that the reading takes, are together of bulk at most 1048576: NARROWER than '..Said'. Prove '..Said' where nothing that the law and all that it calls make is longer than what came in: it says more and counts as full. Else prove '..UptoSaid'. A law counts once. -/
mutual
def uptoBulk {H : Type} : DataW H → Nat
  | .lit (.string bytes) => bytes.length + 1
  | .lit _ => 1
  | .nil => 1
  | .ptr d => uptoBulk d + 1
  | .slice elems spare => uptoBulkAll elems + uptoBulkAll spare + 1
  | .agg parts => uptoBulkAll parts + 1
  | .iface _ d => uptoBulk d + 1
  | .map entries => uptoBulkEntries entries + 1
  | .held _ => 1
def uptoBulkAll {H : Type} : List (DataW H) → Nat
  | [] => 0
  | d :: r => uptoBulk d + uptoBulkAll r
def uptoBulkEntries {H : Type} : List (Lit × DataW H) → Nat
  | [] => 0
  | x :: r => uptoBulkEntry x + uptoBulkEntries r
def uptoBulkEntry {H : Type} : Lit × DataW H → Nat
  | (.string bytes, d) => bytes.length + uptoBulk d + 1
  | (_, d) => uptoBulk d + 1
 end
def uptoSmall : (H : Type) → List (DataW H) → Bool := fun _ ds => decide (uptoBulkAll ds ≤ 1048576)
def OpenSpec.upto (s : _root_.Go.ChangeSpec) : _root_.Go.OpenSpec := { _root_.Go.OpenSpec.ofChange s with cond := some uptoSmall }

/-- 'crupperlaw18.SatTells', WHERE WHAT IT READS IS OF BULK AT MOST 1048576: true; the input reads as it did. -/
def satTellsUptoRow : OpenClaim := { program := "ytfakjhcpaiaekaa", sum := "feac7eacf2aed731097388bde504818535db312d41b965df2e004be6a0cfaf14", func := "crupper/crupperlaw18.SatTells", spec := "satTells", unfollowed := true, recurses := true, apart := false, narrowed := true }
def SatTellsUptoSaid : Prop := satTellsUptoRow.holds Try.pinned (OpenSpec.upto satTellsSpec)

/-- 'crupperlaw18.SatPaths', WHERE WHAT IT READS IS OF BULK AT MOST 1048576: true; the input reads as it did. -/
def satPathsUptoRow : OpenClaim := { program := "ytfakjhcpaiaekaa", sum := "feac7eacf2aed731097388bde504818535db312d41b965df2e004be6a0cfaf14", func := "crupper/crupperlaw18.SatPaths", spec := "satPaths", unfollowed := true, recurses := true, apart := false, narrowed := true }
def SatPathsUptoSaid : Prop := satPathsUptoRow.holds Try.pinned (OpenSpec.upto satPathsSpec)

/-- 'crupperlaw17.QuantHolds', WHERE WHAT IT READS IS OF BULK AT MOST 1048576: true; the input reads as it did. -/
def quantHoldsUptoRow : OpenClaim := { program := "ytfakjhcpaiaekaa", sum := "feac7eacf2aed731097388bde504818535db312d41b965df2e004be6a0cfaf14", func := "crupper/crupperlaw17.QuantHolds", spec := "quantHolds", unfollowed := true, recurses := true, apart := false, narrowed := true }
def QuantHoldsUptoSaid : Prop := quantHoldsUptoRow.holds Try.pinned (OpenSpec.upto quantHoldsSpec)

/-- 'crupperlaw17.QuantTells', WHERE WHAT IT READS IS OF BULK AT MOST 1048576: true; the input reads as it did. -/
def quantTellsUptoRow : OpenClaim := { program := "ytfakjhcpaiaekaa", sum := "feac7eacf2aed731097388bde504818535db312d41b965df2e004be6a0cfaf14", func := "crupper/crupperlaw17.QuantTells", spec := "quantTells", unfollowed := true, recurses := true, apart := false, narrowed := true }
def QuantTellsUptoSaid : Prop := quantTellsUptoRow.holds Try.pinned (OpenSpec.upto quantTellsSpec)

end Rows
end Go.Proofs.Ytfakjhcpaiaekaa
