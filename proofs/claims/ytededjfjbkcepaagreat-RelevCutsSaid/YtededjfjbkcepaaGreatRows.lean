/-
  No cell of these rows narrows 'for every input' (looked for: loops, veiled, ifaces, maps, wideKeys, modest, calm, conditions, laid).
  DERIVED. THE GIVEN ROWS OF THIS SEAT. 7 by the template 'for every input the law returns true; each argument reads behind the call as it read before'; 0 by the template 'total and deterministic' (their statements: YtededjfjbkcepaaGreatTotals.lean).
  GIVEN WITH THE SEED: the statements are not yours to turn. If you find one false, say at which input.
  Laid BY PROGRAM, IN A SANDBOX (cutbox-rows.mjs): the forced cells as the released guide's own fill.sh prints them over the translation cba3859d44f3d86f… (all of the seat's roots in one cut). By AI agents, Wed Nov 11 2026. No macro, syntax, notation, axiom, sorry.
-/
import Derived.Test.YtededjfjbkcepaaGreatChecked
import GoSem.Claim
import GoSem.ClaimJoined
import GoSem.ClaimMapViews
import Derived.JoinedTies
import Derived.KernelRfl
namespace Go.Proofs.YtededjfjbkcepaaGreat
/- THE CELL 'sum', in the pinned program and in every row, IS THE sha256 OF THE DUMP (.gsa) THAT YtededjfjbkcepaaGreatProg.lean LOADS. Nothing in Lean hashes anything: it is a label: what it is worth is what the hold of that sum in a sandbox is worth. -/
noncomputable def Tryz.pinned : Pinned := { name := "ytededjfjbkcepaagreat", sum := "cba3859d44f3d86fdf1c265465236c03094126bafcfb5b793833ad1e2b4e63b9", checked := Tryz.checked }
namespace Rows
def none {H : Type} : Left H := { results := [], args := [] }

/-- 'crupperlaw25.ReplayLeast': WHATEVER THE INPUT: true; the input reads as it did. -/
def replayLeastSpec : ChangeSpec := { name := "replayLeast", fn := fun _ => fun
  | [d1, d2, d3] => { results := [.lit (.bool true)], args := [d1, d2, d3] }
  | _ => none }
def replayLeastRow : OpenClaim := { program := "ytededjfjbkcepaagreat", sum := "cba3859d44f3d86fdf1c265465236c03094126bafcfb5b793833ad1e2b4e63b9", func := "crupper/crupperlaw25.ReplayLeast", spec := "replayLeast", inPlace := ["slices.overlaps[crupper/api.Stmt]"], unfollowed := true, recurses := true, plainKeys := false, apart := false }
def ReplayLeastSaid : Prop := replayLeastRow.holds Tryz.pinned (OpenSpec.ofChange replayLeastSpec)

/-- ITS FALSE NEIGHBOUR: 'it returns false'. Refute it at one input. -/
def replayLeastWrong : ChangeSpec := { name := "replayLeast", fn := fun _ => fun
  | [d1, d2, d3] => { results := [.lit (.bool false)], args := [d1, d2, d3] }
  | _ => none }
def ReplayLeastWrongFalsely : Prop := replayLeastRow.holds Tryz.pinned (OpenSpec.ofChange replayLeastWrong)

/-- 'crupperlaw40.ChainLocal': WHATEVER THE INPUT: true; the input reads as it did. -/
def chainLocalSpec : ChangeSpec := { name := "chainLocal", fn := fun _ => fun
  | [d1, d2, d3] => { results := [.lit (.bool true)], args := [d1, d2, d3] }
  | _ => none }
def chainLocalRow : OpenClaim := { program := "ytededjfjbkcepaagreat", sum := "cba3859d44f3d86fdf1c265465236c03094126bafcfb5b793833ad1e2b4e63b9", func := "crupper/crupperlaw40.ChainLocal", spec := "chainLocal", inPlace := ["internal/bytealg.abigen_runtime_cmpstring"], unfollowed := true, recurses := true, plainKeys := false, apart := false }
def ChainLocalSaid : Prop := chainLocalRow.holds Tryz.pinned (OpenSpec.ofChange chainLocalSpec)

/-- ITS FALSE NEIGHBOUR: 'it returns false'. Refute it at one input. -/
def chainLocalWrong : ChangeSpec := { name := "chainLocal", fn := fun _ => fun
  | [d1, d2, d3] => { results := [.lit (.bool false)], args := [d1, d2, d3] }
  | _ => none }
def ChainLocalWrongFalsely : Prop := chainLocalRow.holds Tryz.pinned (OpenSpec.ofChange chainLocalWrong)

/-- 'crupperlaw40.ChainTells': WHATEVER THE INPUT: true; the input reads as it did. -/
def chainTellsSpec : ChangeSpec := { name := "chainTells", fn := fun _ => fun
  | [d1, d2, d3] => { results := [.lit (.bool true)], args := [d1, d2, d3] }
  | _ => none }
def chainTellsRow : OpenClaim := { program := "ytededjfjbkcepaagreat", sum := "cba3859d44f3d86fdf1c265465236c03094126bafcfb5b793833ad1e2b4e63b9", func := "crupper/crupperlaw40.ChainTells", spec := "chainTells", inPlace := ["internal/bytealg.abigen_runtime_cmpstring"], unfollowed := true, recurses := true, plainKeys := false, apart := false }
def ChainTellsSaid : Prop := chainTellsRow.holds Tryz.pinned (OpenSpec.ofChange chainTellsSpec)

/-- ITS FALSE NEIGHBOUR: 'it returns false'. Refute it at one input. -/
def chainTellsWrong : ChangeSpec := { name := "chainTells", fn := fun _ => fun
  | [d1, d2, d3] => { results := [.lit (.bool false)], args := [d1, d2, d3] }
  | _ => none }
def ChainTellsWrongFalsely : Prop := chainTellsRow.holds Tryz.pinned (OpenSpec.ofChange chainTellsWrong)

/-- 'crupperlaw40.ChainAgrees': WHATEVER THE INPUT: true; the input reads as it did. -/
def chainAgreesSpec : ChangeSpec := { name := "chainAgrees", fn := fun _ => fun
  | [d1, d2] => { results := [.lit (.bool true)], args := [d1, d2] }
  | _ => none }
def chainAgreesRow : OpenClaim := { program := "ytededjfjbkcepaagreat", sum := "cba3859d44f3d86fdf1c265465236c03094126bafcfb5b793833ad1e2b4e63b9", func := "crupper/crupperlaw40.ChainAgrees", spec := "chainAgrees", inPlace := ["internal/bytealg.abigen_runtime_cmpstring"], unfollowed := true, recurses := true, plainKeys := false, apart := false }
def ChainAgreesSaid : Prop := chainAgreesRow.holds Tryz.pinned (OpenSpec.ofChange chainAgreesSpec)

/-- ITS FALSE NEIGHBOUR: 'it returns false'. Refute it at one input. -/
def chainAgreesWrong : ChangeSpec := { name := "chainAgrees", fn := fun _ => fun
  | [d1, d2] => { results := [.lit (.bool false)], args := [d1, d2] }
  | _ => none }
def ChainAgreesWrongFalsely : Prop := chainAgreesRow.holds Tryz.pinned (OpenSpec.ofChange chainAgreesWrong)

/-- 'crupperlaw20.RelevTells': WHATEVER THE INPUT: true; the input reads as it did. -/
def relevTellsSpec : ChangeSpec := { name := "relevTells", fn := fun _ => fun
  | [d1, d2, d3] => { results := [.lit (.bool true)], args := [d1, d2, d3] }
  | _ => none }
def relevTellsRow : OpenClaim := { program := "ytededjfjbkcepaagreat", sum := "cba3859d44f3d86fdf1c265465236c03094126bafcfb5b793833ad1e2b4e63b9", func := "crupper/crupperlaw20.RelevTells", spec := "relevTells", inPlace := ["internal/bytealg.abigen_runtime_cmpstring"], unfollowed := true, recurses := true, plainKeys := false, apart := false }
def RelevTellsSaid : Prop := relevTellsRow.holds Tryz.pinned (OpenSpec.ofChange relevTellsSpec)

/-- ITS FALSE NEIGHBOUR: 'it returns false'. Refute it at one input. -/
def relevTellsWrong : ChangeSpec := { name := "relevTells", fn := fun _ => fun
  | [d1, d2, d3] => { results := [.lit (.bool false)], args := [d1, d2, d3] }
  | _ => none }
def RelevTellsWrongFalsely : Prop := relevTellsRow.holds Tryz.pinned (OpenSpec.ofChange relevTellsWrong)

/-- 'crupperlaw20.RelevCuts': WHATEVER THE INPUT: true; the input reads as it did. -/
def relevCutsSpec : ChangeSpec := { name := "relevCuts", fn := fun _ => fun
  | [d1, d2, d3] => { results := [.lit (.bool true)], args := [d1, d2, d3] }
  | _ => none }
def relevCutsRow : OpenClaim := { program := "ytededjfjbkcepaagreat", sum := "cba3859d44f3d86fdf1c265465236c03094126bafcfb5b793833ad1e2b4e63b9", func := "crupper/crupperlaw20.RelevCuts", spec := "relevCuts", inPlace := ["internal/bytealg.abigen_runtime_cmpstring"], unfollowed := true, recurses := true, plainKeys := false, apart := false }
def RelevCutsSaid : Prop := relevCutsRow.holds Tryz.pinned (OpenSpec.ofChange relevCutsSpec)

/-- ITS FALSE NEIGHBOUR: 'it returns false'. Refute it at one input. -/
def relevCutsWrong : ChangeSpec := { name := "relevCuts", fn := fun _ => fun
  | [d1, d2, d3] => { results := [.lit (.bool false)], args := [d1, d2, d3] }
  | _ => none }
def RelevCutsWrongFalsely : Prop := relevCutsRow.holds Tryz.pinned (OpenSpec.ofChange relevCutsWrong)

/-- 'crupperlaw20.RelevNames': WHATEVER THE INPUT: true; the input reads as it did. -/
def relevNamesSpec : ChangeSpec := { name := "relevNames", fn := fun _ => fun
  | [d1, d2] => { results := [.lit (.bool true)], args := [d1, d2] }
  | _ => none }
def relevNamesRow : OpenClaim := { program := "ytededjfjbkcepaagreat", sum := "cba3859d44f3d86fdf1c265465236c03094126bafcfb5b793833ad1e2b4e63b9", func := "crupper/crupperlaw20.RelevNames", spec := "relevNames", inPlace := ["internal/bytealg.abigen_runtime_cmpstring"], unfollowed := true, recurses := true, plainKeys := false, apart := false }
def RelevNamesSaid : Prop := relevNamesRow.holds Tryz.pinned (OpenSpec.ofChange relevNamesSpec)

/-- ITS FALSE NEIGHBOUR: 'it returns false'. Refute it at one input. -/
def relevNamesWrong : ChangeSpec := { name := "relevNames", fn := fun _ => fun
  | [d1, d2] => { results := [.lit (.bool false)], args := [d1, d2] }
  | _ => none }
def RelevNamesWrongFalsely : Prop := relevNamesRow.holds Tryz.pinned (OpenSpec.ofChange relevNamesWrong)

/- THE SECOND FORM. 'bulk': how many values and letters a reading holds, each counted each time it is reached (what is shared counts as often as it is met; a slice's spare places count too). A statement '..UptoSaid' is the law's where the arguments, and the package variables that the reading takes, are together of bulk at most 1048576: NARROWER than '..Said'. Prove '..Said' where nothing that the law and all that it calls make is longer than what came in: it says more and counts as full. Else prove '..UptoSaid'. A law counts once. -/
mutual
def uptoBulk {H : Type} : DataW H → Nat
  | .lit (.string bytes) => bytes.length + 1
  | .lit _ => 1
  | .nil => 1
  | .ptr d => uptoBulk d + 1
  | .slice elems spare => uptoBulkAll elems + uptoBulkAll spare + 1
  | .agg parts => uptoBulkAll parts + 1
  | .iface _ d => uptoBulk d + 1
  | .map entries => uptoBulkEntries entries + 1
  | .held _ => 1
def uptoBulkAll {H : Type} : List (DataW H) → Nat
  | [] => 0
  | d :: r => uptoBulk d + uptoBulkAll r
def uptoBulkEntries {H : Type} : List (Lit × DataW H) → Nat
  | [] => 0
  | x :: r => uptoBulkEntry x + uptoBulkEntries r
def uptoBulkEntry {H : Type} : Lit × DataW H → Nat
  | (.string bytes, d) => bytes.length + uptoBulk d + 1
  | (_, d) => uptoBulk d + 1
 end
def uptoSmall : (H : Type) → List (DataW H) → Bool := fun _ ds => decide (uptoBulkAll ds ≤ 1048576)
def OpenSpec.upto (s : _root_.Go.ChangeSpec) : _root_.Go.OpenSpec := { _root_.Go.OpenSpec.ofChange s with cond := some uptoSmall }

/-- 'crupperlaw25.ReplayLeast', WHERE WHAT IT READS IS OF BULK AT MOST 1048576: true; the input reads as it did. -/
def replayLeastUptoRow : OpenClaim := { program := "ytededjfjbkcepaagreat", sum := "cba3859d44f3d86fdf1c265465236c03094126bafcfb5b793833ad1e2b4e63b9", func := "crupper/crupperlaw25.ReplayLeast", spec := "replayLeast", inPlace := ["slices.overlaps[crupper/api.Stmt]"], unfollowed := true, recurses := true, plainKeys := false, apart := false, narrowed := true }
def ReplayLeastUptoSaid : Prop := replayLeastUptoRow.holds Tryz.pinned (OpenSpec.upto replayLeastSpec)

/-- 'crupperlaw40.ChainLocal', WHERE WHAT IT READS IS OF BULK AT MOST 1048576: true; the input reads as it did. -/
def chainLocalUptoRow : OpenClaim := { program := "ytededjfjbkcepaagreat", sum := "cba3859d44f3d86fdf1c265465236c03094126bafcfb5b793833ad1e2b4e63b9", func := "crupper/crupperlaw40.ChainLocal", spec := "chainLocal", inPlace := ["internal/bytealg.abigen_runtime_cmpstring"], unfollowed := true, recurses := true, plainKeys := false, apart := false, narrowed := true }
def ChainLocalUptoSaid : Prop := chainLocalUptoRow.holds Tryz.pinned (OpenSpec.upto chainLocalSpec)

/-- 'crupperlaw40.ChainTells', WHERE WHAT IT READS IS OF BULK AT MOST 1048576: true; the input reads as it did. -/
def chainTellsUptoRow : OpenClaim := { program := "ytededjfjbkcepaagreat", sum := "cba3859d44f3d86fdf1c265465236c03094126bafcfb5b793833ad1e2b4e63b9", func := "crupper/crupperlaw40.ChainTells", spec := "chainTells", inPlace := ["internal/bytealg.abigen_runtime_cmpstring"], unfollowed := true, recurses := true, plainKeys := false, apart := false, narrowed := true }
def ChainTellsUptoSaid : Prop := chainTellsUptoRow.holds Tryz.pinned (OpenSpec.upto chainTellsSpec)

/-- 'crupperlaw40.ChainAgrees', WHERE WHAT IT READS IS OF BULK AT MOST 1048576: true; the input reads as it did. -/
def chainAgreesUptoRow : OpenClaim := { program := "ytededjfjbkcepaagreat", sum := "cba3859d44f3d86fdf1c265465236c03094126bafcfb5b793833ad1e2b4e63b9", func := "crupper/crupperlaw40.ChainAgrees", spec := "chainAgrees", inPlace := ["internal/bytealg.abigen_runtime_cmpstring"], unfollowed := true, recurses := true, plainKeys := false, apart := false, narrowed := true }
def ChainAgreesUptoSaid : Prop := chainAgreesUptoRow.holds Tryz.pinned (OpenSpec.upto chainAgreesSpec)

/-- 'crupperlaw20.RelevTells', WHERE WHAT IT READS IS OF BULK AT MOST 1048576: true; the input reads as it did. -/
def relevTellsUptoRow : OpenClaim := { program := "ytededjfjbkcepaagreat", sum := "cba3859d44f3d86fdf1c265465236c03094126bafcfb5b793833ad1e2b4e63b9", func := "crupper/crupperlaw20.RelevTells", spec := "relevTells", inPlace := ["internal/bytealg.abigen_runtime_cmpstring"], unfollowed := true, recurses := true, plainKeys := false, apart := false, narrowed := true }
def RelevTellsUptoSaid : Prop := relevTellsUptoRow.holds Tryz.pinned (OpenSpec.upto relevTellsSpec)

/-- 'crupperlaw20.RelevCuts', WHERE WHAT IT READS IS OF BULK AT MOST 1048576: true; the input reads as it did. -/
def relevCutsUptoRow : OpenClaim := { program := "ytededjfjbkcepaagreat", sum := "cba3859d44f3d86fdf1c265465236c03094126bafcfb5b793833ad1e2b4e63b9", func := "crupper/crupperlaw20.RelevCuts", spec := "relevCuts", inPlace := ["internal/bytealg.abigen_runtime_cmpstring"], unfollowed := true, recurses := true, plainKeys := false, apart := false, narrowed := true }
def RelevCutsUptoSaid : Prop := relevCutsUptoRow.holds Tryz.pinned (OpenSpec.upto relevCutsSpec)

/-- 'crupperlaw20.RelevNames', WHERE WHAT IT READS IS OF BULK AT MOST 1048576: true; the input reads as it did. -/
def relevNamesUptoRow : OpenClaim := { program := "ytededjfjbkcepaagreat", sum := "cba3859d44f3d86fdf1c265465236c03094126bafcfb5b793833ad1e2b4e63b9", func := "crupper/crupperlaw20.RelevNames", spec := "relevNames", inPlace := ["internal/bytealg.abigen_runtime_cmpstring"], unfollowed := true, recurses := true, plainKeys := false, apart := false, narrowed := true }
def RelevNamesUptoSaid : Prop := relevNamesUptoRow.holds Tryz.pinned (OpenSpec.upto relevNamesSpec)

end Rows
end Go.Proofs.YtededjfjbkcepaaGreat
