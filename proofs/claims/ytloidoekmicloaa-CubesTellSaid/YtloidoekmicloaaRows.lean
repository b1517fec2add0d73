/-
  No cell of these rows narrows 'for every input' (looked for: loops, veiled, ifaces, maps, wideKeys, modest, calm, conditions, laid).
  DERIVED. THE GIVEN ROWS OF THIS SEAT. 3 by the template 'for every input the law returns true; each argument reads behind the call as it read before'; 0 by the template 'total and deterministic' (their statements: YtloidoekmicloaaTotals.lean).
  GIVEN WITH THE SEED: the statements are not yours to turn. If you find one false, say at which input.
  Laid BY PROGRAM, IN A SANDBOX (cutbox-rows.mjs): the forced cells as the released guide's own fill.sh prints them over the translation aa63192e463804e4… (all of the seat's roots in one cut). By AI agents, Wed Nov 11 2026. No macro, syntax, notation, axiom, sorry.
-/
import Derived.Test.YtloidoekmicloaaChecked
import GoSem.Claim
import GoSem.ClaimJoined
import GoSem.ClaimMapViews
import Derived.JoinedTies
import Derived.KernelRfl
namespace Go.Proofs.Ytloidoekmicloaa
/- THE CELL 'sum', in the pinned program and in every row, IS THE sha256 OF THE DUMP (.gsa) THAT YtloidoekmicloaaProg.lean LOADS. Nothing in Lean hashes anything: it is a label: what it is worth is what the hold of that sum in a sandbox is worth. -/
noncomputable def Try.pinned : Pinned := { name := "ytloidoekmicloaa", sum := "aa63192e463804e432969bfb10418172da8cb4195d2c0057becdc0f665374e44", checked := Try.checked }
namespace Rows
def none {H : Type} : Left H := { results := [], args := [] }

/-- 'crupperlaw38.CubesCover': WHATEVER THE INPUT: true; the input reads as it did. -/
def cubesCoverSpec : ChangeSpec := { name := "cubesCover", fn := fun _ => fun
  | [d1, d2] => { results := [.lit (.bool true)], args := [d1, d2] }
  | _ => none }
def cubesCoverRow : OpenClaim := { program := "ytloidoekmicloaa", sum := "aa63192e463804e432969bfb10418172da8cb4195d2c0057becdc0f665374e44", func := "crupper/crupperlaw38.CubesCover", spec := "cubesCover", inPlace := ["internal/abi.NoEscape"], unfollowed := true, recurses := true, plainKeys := false, apart := false }
def CubesCoverSaid : Prop := cubesCoverRow.holds Try.pinned (OpenSpec.ofChange cubesCoverSpec)

/-- ITS FALSE NEIGHBOUR: 'it returns false'. Refute it at one input. -/
def cubesCoverWrong : ChangeSpec := { name := "cubesCover", fn := fun _ => fun
  | [d1, d2] => { results := [.lit (.bool false)], args := [d1, d2] }
  | _ => none }
def CubesCoverWrongFalsely : Prop := cubesCoverRow.holds Try.pinned (OpenSpec.ofChange cubesCoverWrong)

/-- 'crupperlaw38.CubesDiagrams': WHATEVER THE INPUT: true; the input reads as it did. -/
def cubesDiagramsSpec : ChangeSpec := { name := "cubesDiagrams", fn := fun _ => fun
  | [d1, d2] => { results := [.lit (.bool true)], args := [d1, d2] }
  | _ => none }
def cubesDiagramsRow : OpenClaim := { program := "ytloidoekmicloaa", sum := "aa63192e463804e432969bfb10418172da8cb4195d2c0057becdc0f665374e44", func := "crupper/crupperlaw38.CubesDiagrams", spec := "cubesDiagrams", inPlace := ["internal/abi.NoEscape"], unfollowed := true, recurses := true, plainKeys := false, apart := false }
def CubesDiagramsSaid : Prop := cubesDiagramsRow.holds Try.pinned (OpenSpec.ofChange cubesDiagramsSpec)

/-- ITS FALSE NEIGHBOUR: 'it returns false'. Refute it at one input. -/
def cubesDiagramsWrong : ChangeSpec := { name := "cubesDiagrams", fn := fun _ => fun
  | [d1, d2] => { results := [.lit (.bool false)], args := [d1, d2] }
  | _ => none }
def CubesDiagramsWrongFalsely : Prop := cubesDiagramsRow.holds Try.pinned (OpenSpec.ofChange cubesDiagramsWrong)

/-- 'crupperlaw38.CubesTell': WHATEVER THE INPUT: true; the input reads as it did. -/
def cubesTellSpec : ChangeSpec := { name := "cubesTell", fn := fun _ => fun
  | [d1, d2, d3] => { results := [.lit (.bool true)], args := [d1, d2, d3] }
  | _ => none }
def cubesTellRow : OpenClaim := { program := "ytloidoekmicloaa", sum := "aa63192e463804e432969bfb10418172da8cb4195d2c0057becdc0f665374e44", func := "crupper/crupperlaw38.CubesTell", spec := "cubesTell", inPlace := ["internal/bytealg.IndexByteString", "internal/bytealg.IndexString", "internal/abi.NoEscape"], unfollowed := true, recurses := true, named := ["internal/bytealg.MaxLen"], plainKeys := false, apart := false }
def CubesTellSaid : Prop := cubesTellRow.holds Try.pinned (OpenSpec.ofChange cubesTellSpec)

/-- ITS FALSE NEIGHBOUR: 'it returns false'. Refute it at one input. -/
def cubesTellWrong : ChangeSpec := { name := "cubesTell", fn := fun _ => fun
  | [d1, d2, d3] => { results := [.lit (.bool false)], args := [d1, d2, d3] }
  | _ => none }
def CubesTellWrongFalsely : Prop := cubesTellRow.holds Try.pinned (OpenSpec.ofChange cubesTellWrong)

/- THE SECOND FORM. 'bulk': how many values and letters a reading holds, each counted each time it is reached (what is shared counts as often as it is met; a slice's spare places count too). A statement '..UptoSaid' is the law's where the arguments, and the package variables that the reading takes, are together of bulk at most 1048576: NARROWER than '..Said'. Prove '..Said' where nothing that the law and all that it calls make is longer than what came in: it says more and counts as full. Else prove '..UptoSaid'. A law counts once. -/
mutual
def uptoBulk {H : Type} : DataW H → Nat
  | .lit (.string bytes) => bytes.length + 1
  | .lit _ => 1
  | .nil => 1
  | .ptr d => uptoBulk d + 1
  | .slice elems spare => uptoBulkAll elems + uptoBulkAll spare + 1
  | .agg parts => uptoBulkAll parts + 1
  | .iface _ d => uptoBulk d + 1
  | .map entries => uptoBulkEntries entries + 1
  | .held _ => 1
def uptoBulkAll {H : Type} : List (DataW H) → Nat
  | [] => 0
  | d :: r => uptoBulk d + uptoBulkAll r
def uptoBulkEntries {H : Type} : List (Lit × DataW H) → Nat
  | [] => 0
  | x :: r => uptoBulkEntry x + uptoBulkEntries r
def uptoBulkEntry {H : Type} : Lit × DataW H → Nat
  | (.string bytes, d) => bytes.length + uptoBulk d + 1
  | (_, d) => uptoBulk d + 1
 end
def uptoSmall : (H : Type) → List (DataW H) → Bool := fun _ ds => decide (uptoBulkAll ds ≤ 1048576)
def OpenSpec.upto (s : _root_.Go.ChangeSpec) : _root_.Go.OpenSpec := { _root_.Go.OpenSpec.ofChange s with cond := some uptoSmall }

/-- 'crupperlaw38.CubesCover', WHERE WHAT IT READS IS OF BULK AT MOST 1048576: true; the input reads as it did. -/
def cubesCoverUptoRow : OpenClaim := { program := "ytloidoekmicloaa", sum := "aa63192e463804e432969bfb10418172da8cb4195d2c0057becdc0f665374e44", func := "crupper/crupperlaw38.CubesCover", spec := "cubesCover", inPlace := ["internal/abi.NoEscape"], unfollowed := true, recurses := true, plainKeys := false, apart := false, narrowed := true }
def CubesCoverUptoSaid : Prop := cubesCoverUptoRow.holds Try.pinned (OpenSpec.upto cubesCoverSpec)

/-- 'crupperlaw38.CubesDiagrams', WHERE WHAT IT READS IS OF BULK AT MOST 1048576: true; the input reads as it did. -/
def cubesDiagramsUptoRow : OpenClaim := { program := "ytloidoekmicloaa", sum := "aa63192e463804e432969bfb10418172da8cb4195d2c0057becdc0f665374e44", func := "crupper/crupperlaw38.CubesDiagrams", spec := "cubesDiagrams", inPlace := ["internal/abi.NoEscape"], unfollowed := true, recurses := true, plainKeys := false, apart := false, narrowed := true }
def CubesDiagramsUptoSaid : Prop := cubesDiagramsUptoRow.holds Try.pinned (OpenSpec.upto cubesDiagramsSpec)

/-- 'crupperlaw38.CubesTell', WHERE WHAT IT READS IS OF BULK AT MOST 1048576: true; the input reads as it did. -/
def cubesTellUptoRow : OpenClaim := { program := "ytloidoekmicloaa", sum := "aa63192e463804e432969bfb10418172da8cb4195d2c0057becdc0f665374e44", func := "crupper/crupperlaw38.CubesTell", spec := "cubesTell", inPlace := ["internal/bytealg.IndexByteString", "internal/bytealg.IndexString", "internal/abi.NoEscape"], unfollowed := true, recurses := true, named := ["internal/bytealg.MaxLen"], plainKeys := false, apart := false, narrowed := true }
def CubesTellUptoSaid : Prop := cubesTellUptoRow.holds Try.pinned (OpenSpec.upto cubesTellSpec)

end Rows
end Go.Proofs.Ytloidoekmicloaa
