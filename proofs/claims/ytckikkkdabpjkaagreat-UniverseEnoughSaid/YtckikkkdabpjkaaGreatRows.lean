/-
  No cell of these rows narrows 'for every input' (looked for: loops, veiled, ifaces, maps, wideKeys, modest, calm, conditions, laid).
  DERIVED. THE GIVEN ROWS OF THIS SEAT. 6 by the template 'for every input the law returns true; each argument reads behind the call as it read before'; 0 by the template 'total and deterministic' (their statements: YtckikkkdabpjkaaGreatTotals.lean).
  GIVEN WITH THE SEED: the statements are not yours to turn. If you find one false, say at which input.
  Laid BY PROGRAM, IN A SANDBOX (cutbox-rows.mjs): the forced cells as the released guide's own fill.sh prints them over the translation 658209fb2c2fced4… (all of the seat's roots in one cut). By AI agents, Wed Nov 11 2026. No macro, syntax, notation, axiom, sorry.
-/
import Derived.Test.YtckikkkdabpjkaaGreatChecked
import GoSem.Claim
import GoSem.ClaimJoined
import GoSem.ClaimMapViews
import Derived.JoinedTies
import Derived.KernelRfl
namespace Go.Proofs.YtckikkkdabpjkaaGreat
/- THE CELL 'sum', in the pinned program and in every row, IS THE sha256 OF THE DUMP (.gsa) THAT YtckikkkdabpjkaaGreatProg.lean LOADS. Nothing in Lean hashes anything: it is a label: what it is worth is what the hold of that sum in a sandbox is worth. -/
noncomputable def Tryz.pinned : Pinned := { name := "ytckikkkdabpjkaagreat", sum := "658209fb2c2fced4d721749ef18e95fe4c095a844dd3d5801972fedc2bc37ae6", checked := Tryz.checked }
namespace Rows
def none {H : Type} : Left H := { results := [], args := [] }

/-- 'crupperlaw25.ReplayLeast': WHATEVER THE INPUT: true; the input reads as it did. -/
def replayLeastSpec : ChangeSpec := { name := "replayLeast", fn := fun _ => fun
  | [d1, d2, d3] => { results := [.lit (.bool true)], args := [d1, d2, d3] }
  | _ => none }
def replayLeastRow : OpenClaim := { program := "ytckikkkdabpjkaagreat", sum := "658209fb2c2fced4d721749ef18e95fe4c095a844dd3d5801972fedc2bc37ae6", func := "crupper/crupperlaw25.ReplayLeast", spec := "replayLeast", inPlace := ["slices.overlaps[crupper/api.Stmt]"], unfollowed := true, recurses := true, plainKeys := false, apart := false }
def ReplayLeastSaid : Prop := replayLeastRow.holds Tryz.pinned (OpenSpec.ofChange replayLeastSpec)

/-- ITS FALSE NEIGHBOUR: 'it returns false'. Refute it at one input. -/
def replayLeastWrong : ChangeSpec := { name := "replayLeast", fn := fun _ => fun
  | [d1, d2, d3] => { results := [.lit (.bool false)], args := [d1, d2, d3] }
  | _ => none }
def ReplayLeastWrongFalsely : Prop := replayLeastRow.holds Tryz.pinned (OpenSpec.ofChange replayLeastWrong)

/-- 'crupperlaw26.PareDown': WHATEVER THE INPUT: true; the input reads as it did. -/
def pareDownSpec : ChangeSpec := { name := "pareDown", fn := fun _ => fun
  | [d1, d2, d3] => { results := [.lit (.bool true)], args := [d1, d2, d3] }
  | _ => none }
def pareDownRow : OpenClaim := { program := "ytckikkkdabpjkaagreat", sum := "658209fb2c2fced4d721749ef18e95fe4c095a844dd3d5801972fedc2bc37ae6", func := "crupper/crupperlaw26.PareDown", spec := "pareDown", inPlace := ["internal/bytealg.abigen_runtime_cmpstring"], unfollowed := true, recurses := true, plainKeys := false, apart := false }
def PareDownSaid : Prop := pareDownRow.holds Tryz.pinned (OpenSpec.ofChange pareDownSpec)

/-- ITS FALSE NEIGHBOUR: 'it returns false'. Refute it at one input. -/
def pareDownWrong : ChangeSpec := { name := "pareDown", fn := fun _ => fun
  | [d1, d2, d3] => { results := [.lit (.bool false)], args := [d1, d2, d3] }
  | _ => none }
def PareDownWrongFalsely : Prop := pareDownRow.holds Tryz.pinned (OpenSpec.ofChange pareDownWrong)

/-- 'crupperlaw26.PareGreatest': WHATEVER THE INPUT: true; the input reads as it did. -/
def pareGreatestSpec : ChangeSpec := { name := "pareGreatest", fn := fun _ => fun
  | [d1, d2] => { results := [.lit (.bool true)], args := [d1, d2] }
  | _ => none }
def pareGreatestRow : OpenClaim := { program := "ytckikkkdabpjkaagreat", sum := "658209fb2c2fced4d721749ef18e95fe4c095a844dd3d5801972fedc2bc37ae6", func := "crupper/crupperlaw26.PareGreatest", spec := "pareGreatest", inPlace := ["internal/bytealg.abigen_runtime_cmpstring"], unfollowed := true, recurses := true, plainKeys := false, apart := false }
def PareGreatestSaid : Prop := pareGreatestRow.holds Tryz.pinned (OpenSpec.ofChange pareGreatestSpec)

/-- ITS FALSE NEIGHBOUR: 'it returns false'. Refute it at one input. -/
def pareGreatestWrong : ChangeSpec := { name := "pareGreatest", fn := fun _ => fun
  | [d1, d2] => { results := [.lit (.bool false)], args := [d1, d2] }
  | _ => none }
def PareGreatestWrongFalsely : Prop := pareGreatestRow.holds Tryz.pinned (OpenSpec.ofChange pareGreatestWrong)

/-- 'crupperlaw26.PareStays': WHATEVER THE INPUT: true; the input reads as it did. -/
def pareStaysSpec : ChangeSpec := { name := "pareStays", fn := fun _ => fun
  | [d1, d2, d3] => { results := [.lit (.bool true)], args := [d1, d2, d3] }
  | _ => none }
def pareStaysRow : OpenClaim := { program := "ytckikkkdabpjkaagreat", sum := "658209fb2c2fced4d721749ef18e95fe4c095a844dd3d5801972fedc2bc37ae6", func := "crupper/crupperlaw26.PareStays", spec := "pareStays", inPlace := ["internal/bytealg.abigen_runtime_cmpstring"], unfollowed := true, recurses := true, plainKeys := false, apart := false }
def PareStaysSaid : Prop := pareStaysRow.holds Tryz.pinned (OpenSpec.ofChange pareStaysSpec)

/-- ITS FALSE NEIGHBOUR: 'it returns false'. Refute it at one input. -/
def pareStaysWrong : ChangeSpec := { name := "pareStays", fn := fun _ => fun
  | [d1, d2, d3] => { results := [.lit (.bool false)], args := [d1, d2, d3] }
  | _ => none }
def PareStaysWrongFalsely : Prop := pareStaysRow.holds Tryz.pinned (OpenSpec.ofChange pareStaysWrong)

/-- 'crupperlaw21.UniverseReached': WHATEVER THE INPUT: true; the input reads as it did. -/
def universeReachedSpec : ChangeSpec := { name := "universeReached", fn := fun _ => fun
  | [d1, d2, d3] => { results := [.lit (.bool true)], args := [d1, d2, d3] }
  | _ => none }
def universeReachedRow : OpenClaim := { program := "ytckikkkdabpjkaagreat", sum := "658209fb2c2fced4d721749ef18e95fe4c095a844dd3d5801972fedc2bc37ae6", func := "crupper/crupperlaw21.UniverseReached", spec := "universeReached", inPlace := ["internal/bytealg.abigen_runtime_cmpstring"], unfollowed := true, recurses := true, plainKeys := false, apart := false }
def UniverseReachedSaid : Prop := universeReachedRow.holds Tryz.pinned (OpenSpec.ofChange universeReachedSpec)

/-- ITS FALSE NEIGHBOUR: 'it returns false'. Refute it at one input. -/
def universeReachedWrong : ChangeSpec := { name := "universeReached", fn := fun _ => fun
  | [d1, d2, d3] => { results := [.lit (.bool false)], args := [d1, d2, d3] }
  | _ => none }
def UniverseReachedWrongFalsely : Prop := universeReachedRow.holds Tryz.pinned (OpenSpec.ofChange universeReachedWrong)

/-- 'crupperlaw21.UniverseEnough': WHATEVER THE INPUT: true; the input reads as it did. -/
def universeEnoughSpec : ChangeSpec := { name := "universeEnough", fn := fun _ => fun
  | [d1, d2, d3] => { results := [.lit (.bool true)], args := [d1, d2, d3] }
  | _ => none }
def universeEnoughRow : OpenClaim := { program := "ytckikkkdabpjkaagreat", sum := "658209fb2c2fced4d721749ef18e95fe4c095a844dd3d5801972fedc2bc37ae6", func := "crupper/crupperlaw21.UniverseEnough", spec := "universeEnough", inPlace := ["internal/bytealg.abigen_runtime_cmpstring"], unfollowed := true, recurses := true, plainKeys := false, apart := false }
def UniverseEnoughSaid : Prop := universeEnoughRow.holds Tryz.pinned (OpenSpec.ofChange universeEnoughSpec)

/-- ITS FALSE NEIGHBOUR: 'it returns false'. Refute it at one input. -/
def universeEnoughWrong : ChangeSpec := { name := "universeEnough", fn := fun _ => fun
  | [d1, d2, d3] => { results := [.lit (.bool false)], args := [d1, d2, d3] }
  | _ => none }
def UniverseEnoughWrongFalsely : Prop := universeEnoughRow.holds Tryz.pinned (OpenSpec.ofChange universeEnoughWrong)

/- THE SECOND FORM. 'bulk': how many values and letters a reading holds, each counted each time it is reached (what is shared counts as often as it is met; a slice's spare places count too). A statement '..UptoSaid' is the law's where the arguments, and the package variables that the reading takes, are together of bulk at most 1048576: NARROWER than '..Said'. Prove '..Said' where nothing that the law and all that it calls make is longer than what came in: it says more and counts as full. Else prove '..UptoSaid'. A law counts once. -/
mutual
def uptoBulk {H : Type} : DataW H → Nat
  | .lit (.string bytes) => bytes.length + 1
  | .lit _ => 1
  | .nil => 1
  | .ptr d => uptoBulk d + 1
  | .slice elems spare => uptoBulkAll elems + uptoBulkAll spare + 1
  | .agg parts => uptoBulkAll parts + 1
  | .iface _ d => uptoBulk d + 1
  | .map entries => uptoBulkEntries entries + 1
  | .held _ => 1
def uptoBulkAll {H : Type} : List (DataW H) → Nat
  | [] => 0
  | d :: r => uptoBulk d + uptoBulkAll r
def uptoBulkEntries {H : Type} : List (Lit × DataW H) → Nat
  | [] => 0
  | x :: r => uptoBulkEntry x + uptoBulkEntries r
def uptoBulkEntry {H : Type} : Lit × DataW H → Nat
  | (.string bytes, d) => bytes.length + uptoBulk d + 1
  | (_, d) => uptoBulk d + 1
 end
def uptoSmall : (H : Type) → List (DataW H) → Bool := fun _ ds => decide (uptoBulkAll ds ≤ 1048576)
def OpenSpec.upto (s : _root_.Go.ChangeSpec) : _root_.Go.OpenSpec := { _root_.Go.OpenSpec.ofChange s with cond := some uptoSmall }

/-- 'crupperlaw25.ReplayLeast', WHERE WHAT IT READS IS OF BULK AT MOST 1048576: true; the input reads as it did. -/
def replayLeastUptoRow : OpenClaim := { program := "ytckikkkdabpjkaagreat", sum := "658209fb2c2fced4d721749ef18e95fe4c095a844dd3d5801972fedc2bc37ae6", func := "crupper/crupperlaw25.ReplayLeast", spec := "replayLeast", inPlace := ["slices.overlaps[crupper/api.Stmt]"], unfollowed := true, recurses := true, plainKeys := false, apart := false, narrowed := true }
def ReplayLeastUptoSaid : Prop := replayLeastUptoRow.holds Tryz.pinned (OpenSpec.upto replayLeastSpec)

/-- 'crupperlaw26.PareDown', WHERE WHAT IT READS IS OF BULK AT MOST 1048576: true; the input reads as it did. -/
def pareDownUptoRow : OpenClaim := { program := "ytckikkkdabpjkaagreat", sum := "658209fb2c2fced4d721749ef18e95fe4c095a844dd3d5801972fedc2bc37ae6", func := "crupper/crupperlaw26.PareDown", spec := "pareDown", inPlace := ["internal/bytealg.abigen_runtime_cmpstring"], unfollowed := true, recurses := true, plainKeys := false, apart := false, narrowed := true }
def PareDownUptoSaid : Prop := pareDownUptoRow.holds Tryz.pinned (OpenSpec.upto pareDownSpec)

/-- 'crupperlaw26.PareGreatest', WHERE WHAT IT READS IS OF BULK AT MOST 1048576: true; the input reads as it did. -/
def pareGreatestUptoRow : OpenClaim := { program := "ytckikkkdabpjkaagreat", sum := "658209fb2c2fced4d721749ef18e95fe4c095a844dd3d5801972fedc2bc37ae6", func := "crupper/crupperlaw26.PareGreatest", spec := "pareGreatest", inPlace := ["internal/bytealg.abigen_runtime_cmpstring"], unfollowed := true, recurses := true, plainKeys := false, apart := false, narrowed := true }
def PareGreatestUptoSaid : Prop := pareGreatestUptoRow.holds Tryz.pinned (OpenSpec.upto pareGreatestSpec)

/-- 'crupperlaw26.PareStays', WHERE WHAT IT READS IS OF BULK AT MOST 1048576: true; the input reads as it did. -/
def pareStaysUptoRow : OpenClaim := { program := "ytckikkkdabpjkaagreat", sum := "658209fb2c2fced4d721749ef18e95fe4c095a844dd3d5801972fedc2bc37ae6", func := "crupper/crupperlaw26.PareStays", spec := "pareStays", inPlace := ["internal/bytealg.abigen_runtime_cmpstring"], unfollowed := true, recurses := true, plainKeys := false, apart := false, narrowed := true }
def PareStaysUptoSaid : Prop := pareStaysUptoRow.holds Tryz.pinned (OpenSpec.upto pareStaysSpec)

/-- 'crupperlaw21.UniverseReached', WHERE WHAT IT READS IS OF BULK AT MOST 1048576: true; the input reads as it did. -/
def universeReachedUptoRow : OpenClaim := { program := "ytckikkkdabpjkaagreat", sum := "658209fb2c2fced4d721749ef18e95fe4c095a844dd3d5801972fedc2bc37ae6", func := "crupper/crupperlaw21.UniverseReached", spec := "universeReached", inPlace := ["internal/bytealg.abigen_runtime_cmpstring"], unfollowed := true, recurses := true, plainKeys := false, apart := false, narrowed := true }
def UniverseReachedUptoSaid : Prop := universeReachedUptoRow.holds Tryz.pinned (OpenSpec.upto universeReachedSpec)

/-- 'crupperlaw21.UniverseEnough', WHERE WHAT IT READS IS OF BULK AT MOST 1048576: true; the input reads as it did. -/
def universeEnoughUptoRow : OpenClaim := { program := "ytckikkkdabpjkaagreat", sum := "658209fb2c2fced4d721749ef18e95fe4c095a844dd3d5801972fedc2bc37ae6", func := "crupper/crupperlaw21.UniverseEnough", spec := "universeEnough", inPlace := ["internal/bytealg.abigen_runtime_cmpstring"], unfollowed := true, recurses := true, plainKeys := false, apart := false, narrowed := true }
def UniverseEnoughUptoSaid : Prop := universeEnoughUptoRow.holds Tryz.pinned (OpenSpec.upto universeEnoughSpec)

end Rows
end Go.Proofs.YtckikkkdabpjkaaGreat
