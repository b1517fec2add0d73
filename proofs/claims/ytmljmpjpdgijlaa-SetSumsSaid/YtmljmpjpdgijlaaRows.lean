/-
  No cell of these rows narrows 'for every input' (looked for: loops, veiled, ifaces, maps, wideKeys, modest, calm, conditions, laid).
  DERIVED. THE GIVEN ROWS OF THIS SEAT. 8 by the template 'for every input the law returns true; each argument reads behind the call as it read before'; 0 by the template 'total and deterministic' (their statements: YtmljmpjpdgijlaaTotals.lean).
  GIVEN WITH THE SEED: the statements are not yours to turn. If you find one false, say at which input.
  Laid BY PROGRAM, IN A SANDBOX (cutbox-rows.mjs): the forced cells as the released guide's own fill.sh prints them over the translation 4a71a5ac692d04e4… (all of the seat's roots in one cut). By AI agents, Wed Nov 11 2026. No macro, syntax, notation, axiom, sorry.
-/
import Derived.Test.YtmljmpjpdgijlaaChecked
import GoSem.Claim
import GoSem.ClaimJoined
import GoSem.ClaimMapViews
import Derived.JoinedTies
import Derived.KernelRfl
namespace Go.Proofs.Ytmljmpjpdgijlaa
/- THE CELL 'sum', in the pinned program and in every row, IS THE sha256 OF THE DUMP (.gsa) THAT YtmljmpjpdgijlaaProg.lean LOADS. Nothing in Lean hashes anything: it is a label: what it is worth is what the hold of that sum in a sandbox is worth. -/
noncomputable def Try.pinned : Pinned := { name := "ytmljmpjpdgijlaa", sum := "4a71a5ac692d04e46c9f0ad563480170b626235f3ab1dee391f84f44502b7a74", checked := Try.checked }
namespace Rows
def none {H : Type} : Left H := { results := [], args := [] }

/-- 'crupperlaw34.DrillBelow': WHATEVER THE INPUT: true; the input reads as it did. -/
def drillBelowSpec : ChangeSpec := { name := "drillBelow", fn := fun _ => fun
  | [d1, d2] => { results := [.lit (.bool true)], args := [d1, d2] }
  | _ => none }
def drillBelowRow : OpenClaim := { program := "ytmljmpjpdgijlaa", sum := "4a71a5ac692d04e46c9f0ad563480170b626235f3ab1dee391f84f44502b7a74", func := "crupper/crupperlaw34.DrillBelow", spec := "drillBelow", plainKeys := false, apart := false }
def DrillBelowSaid : Prop := drillBelowRow.holds Try.pinned (OpenSpec.ofChange drillBelowSpec)

/-- ITS FALSE NEIGHBOUR: 'it returns false'. Refute it at one input. -/
def drillBelowWrong : ChangeSpec := { name := "drillBelow", fn := fun _ => fun
  | [d1, d2] => { results := [.lit (.bool false)], args := [d1, d2] }
  | _ => none }
def DrillBelowWrongFalsely : Prop := drillBelowRow.holds Try.pinned (OpenSpec.ofChange drillBelowWrong)

/-- 'crupperlaw15.CacheSizes': WHATEVER THE INPUT: true; the input reads as it did. -/
def cacheSizesSpec : ChangeSpec := { name := "cacheSizes", fn := fun _ => fun
  | [d1, d2] => { results := [.lit (.bool true)], args := [d1, d2] }
  | _ => none }
def cacheSizesRow : OpenClaim := { program := "ytmljmpjpdgijlaa", sum := "4a71a5ac692d04e46c9f0ad563480170b626235f3ab1dee391f84f44502b7a74", func := "crupper/crupperlaw15.CacheSizes", spec := "cacheSizes", plainKeys := false, apart := false }
def CacheSizesSaid : Prop := cacheSizesRow.holds Try.pinned (OpenSpec.ofChange cacheSizesSpec)

/-- ITS FALSE NEIGHBOUR: 'it returns false'. Refute it at one input. -/
def cacheSizesWrong : ChangeSpec := { name := "cacheSizes", fn := fun _ => fun
  | [d1, d2] => { results := [.lit (.bool false)], args := [d1, d2] }
  | _ => none }
def CacheSizesWrongFalsely : Prop := cacheSizesRow.holds Try.pinned (OpenSpec.ofChange cacheSizesWrong)

/-- 'crupperlaw15.CacheKeeps': WHATEVER THE INPUT: true; the input reads as it did. -/
def cacheKeepsSpec : ChangeSpec := { name := "cacheKeeps", fn := fun _ => fun
  | [d1, d2] => { results := [.lit (.bool true)], args := [d1, d2] }
  | _ => none }
def cacheKeepsRow : OpenClaim := { program := "ytmljmpjpdgijlaa", sum := "4a71a5ac692d04e46c9f0ad563480170b626235f3ab1dee391f84f44502b7a74", func := "crupper/crupperlaw15.CacheKeeps", spec := "cacheKeeps", plainKeys := false, apart := false }
def CacheKeepsSaid : Prop := cacheKeepsRow.holds Try.pinned (OpenSpec.ofChange cacheKeepsSpec)

/-- ITS FALSE NEIGHBOUR: 'it returns false'. Refute it at one input. -/
def cacheKeepsWrong : ChangeSpec := { name := "cacheKeeps", fn := fun _ => fun
  | [d1, d2] => { results := [.lit (.bool false)], args := [d1, d2] }
  | _ => none }
def CacheKeepsWrongFalsely : Prop := cacheKeepsRow.holds Try.pinned (OpenSpec.ofChange cacheKeepsWrong)

/-- 'crupperlaw07.SetSums': WHATEVER THE INPUT: true; the input reads as it did. -/
def setSumsSpec : ChangeSpec := { name := "setSums", fn := fun _ => fun
  | [d1, d2, d3] => { results := [.lit (.bool true)], args := [d1, d2, d3] }
  | _ => none }
def setSumsRow : OpenClaim := { program := "ytmljmpjpdgijlaa", sum := "4a71a5ac692d04e46c9f0ad563480170b626235f3ab1dee391f84f44502b7a74", func := "crupper/crupperlaw07.SetSums", spec := "setSums", plainKeys := false, apart := false }
def SetSumsSaid : Prop := setSumsRow.holds Try.pinned (OpenSpec.ofChange setSumsSpec)

/-- ITS FALSE NEIGHBOUR: 'it returns false'. Refute it at one input. -/
def setSumsWrong : ChangeSpec := { name := "setSums", fn := fun _ => fun
  | [d1, d2, d3] => { results := [.lit (.bool false)], args := [d1, d2, d3] }
  | _ => none }
def SetSumsWrongFalsely : Prop := setSumsRow.holds Try.pinned (OpenSpec.ofChange setSumsWrong)

/-- 'crupperlaw14.NodeMakes': WHATEVER THE INPUT: true; the input reads as it did. -/
def nodeMakesSpec : ChangeSpec := { name := "nodeMakes", fn := fun _ => fun
  | [d1, d2, d3] => { results := [.lit (.bool true)], args := [d1, d2, d3] }
  | _ => none }
def nodeMakesRow : OpenClaim := { program := "ytmljmpjpdgijlaa", sum := "4a71a5ac692d04e46c9f0ad563480170b626235f3ab1dee391f84f44502b7a74", func := "crupper/crupperlaw14.NodeMakes", spec := "nodeMakes", recurses := true, plainKeys := false, apart := false }
def NodeMakesSaid : Prop := nodeMakesRow.holds Try.pinned (OpenSpec.ofChange nodeMakesSpec)

/-- ITS FALSE NEIGHBOUR: 'it returns false'. Refute it at one input. -/
def nodeMakesWrong : ChangeSpec := { name := "nodeMakes", fn := fun _ => fun
  | [d1, d2, d3] => { results := [.lit (.bool false)], args := [d1, d2, d3] }
  | _ => none }
def NodeMakesWrongFalsely : Prop := nodeMakesRow.holds Try.pinned (OpenSpec.ofChange nodeMakesWrong)

/-- 'crupperlaw14.NodeOnce': WHATEVER THE INPUT: true; the input reads as it did. -/
def nodeOnceSpec : ChangeSpec := { name := "nodeOnce", fn := fun _ => fun
  | [d1, d2] => { results := [.lit (.bool true)], args := [d1, d2] }
  | _ => none }
def nodeOnceRow : OpenClaim := { program := "ytmljmpjpdgijlaa", sum := "4a71a5ac692d04e46c9f0ad563480170b626235f3ab1dee391f84f44502b7a74", func := "crupper/crupperlaw14.NodeOnce", spec := "nodeOnce", plainKeys := false, apart := false }
def NodeOnceSaid : Prop := nodeOnceRow.holds Try.pinned (OpenSpec.ofChange nodeOnceSpec)

/-- ITS FALSE NEIGHBOUR: 'it returns false'. Refute it at one input. -/
def nodeOnceWrong : ChangeSpec := { name := "nodeOnce", fn := fun _ => fun
  | [d1, d2] => { results := [.lit (.bool false)], args := [d1, d2] }
  | _ => none }
def NodeOnceWrongFalsely : Prop := nodeOnceRow.holds Try.pinned (OpenSpec.ofChange nodeOnceWrong)

/-- 'crupperlaw14.NodeBudget': WHATEVER THE INPUT: true; the input reads as it did. -/
def nodeBudgetSpec : ChangeSpec := { name := "nodeBudget", fn := fun _ => fun
  | [d1, d2, d3] => { results := [.lit (.bool true)], args := [d1, d2, d3] }
  | _ => none }
def nodeBudgetRow : OpenClaim := { program := "ytmljmpjpdgijlaa", sum := "4a71a5ac692d04e46c9f0ad563480170b626235f3ab1dee391f84f44502b7a74", func := "crupper/crupperlaw14.NodeBudget", spec := "nodeBudget", plainKeys := false, apart := false }
def NodeBudgetSaid : Prop := nodeBudgetRow.holds Try.pinned (OpenSpec.ofChange nodeBudgetSpec)

/-- ITS FALSE NEIGHBOUR: 'it returns false'. Refute it at one input. -/
def nodeBudgetWrong : ChangeSpec := { name := "nodeBudget", fn := fun _ => fun
  | [d1, d2, d3] => { results := [.lit (.bool false)], args := [d1, d2, d3] }
  | _ => none }
def NodeBudgetWrongFalsely : Prop := nodeBudgetRow.holds Try.pinned (OpenSpec.ofChange nodeBudgetWrong)

/-- 'crupperlaw09.ProofTells': WHATEVER THE INPUT: true; the input reads as it did. -/
def proofTellsSpec : ChangeSpec := { name := "proofTells", fn := fun _ => fun
  | [d1, d2, d3] => { results := [.lit (.bool true)], args := [d1, d2, d3] }
  | _ => none }
def proofTellsRow : OpenClaim := { program := "ytmljmpjpdgijlaa", sum := "4a71a5ac692d04e46c9f0ad563480170b626235f3ab1dee391f84f44502b7a74", func := "crupper/crupperlaw09.ProofTells", spec := "proofTells", unfollowed := true, recurses := true, plainKeys := false, apart := false }
def ProofTellsSaid : Prop := proofTellsRow.holds Try.pinned (OpenSpec.ofChange proofTellsSpec)

/-- ITS FALSE NEIGHBOUR: 'it returns false'. Refute it at one input. -/
def proofTellsWrong : ChangeSpec := { name := "proofTells", fn := fun _ => fun
  | [d1, d2, d3] => { results := [.lit (.bool false)], args := [d1, d2, d3] }
  | _ => none }
def ProofTellsWrongFalsely : Prop := proofTellsRow.holds Try.pinned (OpenSpec.ofChange proofTellsWrong)

/- THE SECOND FORM. 'bulk': how many values and letters a reading holds, each counted each time it is reached (what is shared counts as often as it is met; a slice's spare places count too). A statement '..UptoSaid' is the law's where the arguments, and the package variables that the reading takes, are together of bulk at most 1048576: NARROWER than '..Said'. Prove '..Said' where nothing that the law and all that it calls make is longer than what came in: it says more and counts as full. Else prove '..UptoSaid'. A law counts once. -/
mutual
def uptoBulk {H : Type} : DataW H → Nat
  | .lit (.string bytes) => bytes.length + 1
  | .lit _ => 1
  | .nil => 1
  | .ptr d => uptoBulk d + 1
  | .slice elems spare => uptoBulkAll elems + uptoBulkAll spare + 1
  | .agg parts => uptoBulkAll parts + 1
  | .iface _ d => uptoBulk d + 1
  | .map entries => uptoBulkEntries entries + 1
  | .held _ => 1
def uptoBulkAll {H : Type} : List (DataW H) → Nat
  | [] => 0
  | d :: r => uptoBulk d + uptoBulkAll r
def uptoBulkEntries {H : Type} : List (Lit × DataW H) → Nat
  | [] => 0
  | x :: r => uptoBulkEntry x + uptoBulkEntries r
def uptoBulkEntry {H : Type} : Lit × DataW H → Nat
  | (.string bytes, d) => bytes.length + uptoBulk d + 1
  | (_, d) => uptoBulk d + 1
 end
def uptoSmall : (H : Type) → List (DataW H) → Bool := fun _ ds => decide (uptoBulkAll ds ≤ 1048576)
def OpenSpec.upto (s : _root_.Go.ChangeSpec) : _root_.Go.OpenSpec := { _root_.Go.OpenSpec.ofChange s with cond := some uptoSmall }

/-- 'crupperlaw34.DrillBelow', WHERE WHAT IT READS IS OF BULK AT MOST 1048576: true; the input reads as it did. -/
def drillBelowUptoRow : OpenClaim := { program := "ytmljmpjpdgijlaa", sum := "4a71a5ac692d04e46c9f0ad563480170b626235f3ab1dee391f84f44502b7a74", func := "crupper/crupperlaw34.DrillBelow", spec := "drillBelow", plainKeys := false, apart := false, narrowed := true }
def DrillBelowUptoSaid : Prop := drillBelowUptoRow.holds Try.pinned (OpenSpec.upto drillBelowSpec)

/-- 'crupperlaw15.CacheSizes', WHERE WHAT IT READS IS OF BULK AT MOST 1048576: true; the input reads as it did. -/
def cacheSizesUptoRow : OpenClaim := { program := "ytmljmpjpdgijlaa", sum := "4a71a5ac692d04e46c9f0ad563480170b626235f3ab1dee391f84f44502b7a74", func := "crupper/crupperlaw15.CacheSizes", spec := "cacheSizes", plainKeys := false, apart := false, narrowed := true }
def CacheSizesUptoSaid : Prop := cacheSizesUptoRow.holds Try.pinned (OpenSpec.upto cacheSizesSpec)

/-- 'crupperlaw15.CacheKeeps', WHERE WHAT IT READS IS OF BULK AT MOST 1048576: true; the input reads as it did. -/
def cacheKeepsUptoRow : OpenClaim := { program := "ytmljmpjpdgijlaa", sum := "4a71a5ac692d04e46c9f0ad563480170b626235f3ab1dee391f84f44502b7a74", func := "crupper/crupperlaw15.CacheKeeps", spec := "cacheKeeps", plainKeys := false, apart := false, narrowed := true }
def CacheKeepsUptoSaid : Prop := cacheKeepsUptoRow.holds Try.pinned (OpenSpec.upto cacheKeepsSpec)

/-- 'crupperlaw07.SetSums', WHERE WHAT IT READS IS OF BULK AT MOST 1048576: true; the input reads as it did. -/
def setSumsUptoRow : OpenClaim := { program := "ytmljmpjpdgijlaa", sum := "4a71a5ac692d04e46c9f0ad563480170b626235f3ab1dee391f84f44502b7a74", func := "crupper/crupperlaw07.SetSums", spec := "setSums", plainKeys := false, apart := false, narrowed := true }
def SetSumsUptoSaid : Prop := setSumsUptoRow.holds Try.pinned (OpenSpec.upto setSumsSpec)

/-- 'crupperlaw14.NodeMakes', WHERE WHAT IT READS IS OF BULK AT MOST 1048576: true; the input reads as it did. -/
def nodeMakesUptoRow : OpenClaim := { program := "ytmljmpjpdgijlaa", sum := "4a71a5ac692d04e46c9f0ad563480170b626235f3ab1dee391f84f44502b7a74", func := "crupper/crupperlaw14.NodeMakes", spec := "nodeMakes", recurses := true, plainKeys := false, apart := false, narrowed := true }
def NodeMakesUptoSaid : Prop := nodeMakesUptoRow.holds Try.pinned (OpenSpec.upto nodeMakesSpec)

/-- 'crupperlaw14.NodeOnce', WHERE WHAT IT READS IS OF BULK AT MOST 1048576: true; the input reads as it did. -/
def nodeOnceUptoRow : OpenClaim := { program := "ytmljmpjpdgijlaa", sum := "4a71a5ac692d04e46c9f0ad563480170b626235f3ab1dee391f84f44502b7a74", func := "crupper/crupperlaw14.NodeOnce", spec := "nodeOnce", plainKeys := false, apart := false, narrowed := true }
def NodeOnceUptoSaid : Prop := nodeOnceUptoRow.holds Try.pinned (OpenSpec.upto nodeOnceSpec)

/-- 'crupperlaw14.NodeBudget', WHERE WHAT IT READS IS OF BULK AT MOST 1048576: true; the input reads as it did. -/
def nodeBudgetUptoRow : OpenClaim := { program := "ytmljmpjpdgijlaa", sum := "4a71a5ac692d04e46c9f0ad563480170b626235f3ab1dee391f84f44502b7a74", func := "crupper/crupperlaw14.NodeBudget", spec := "nodeBudget", plainKeys := false, apart := false, narrowed := true }
def NodeBudgetUptoSaid : Prop := nodeBudgetUptoRow.holds Try.pinned (OpenSpec.upto nodeBudgetSpec)

/-- 'crupperlaw09.ProofTells', WHERE WHAT IT READS IS OF BULK AT MOST 1048576: true; the input reads as it did. -/
def proofTellsUptoRow : OpenClaim := { program := "ytmljmpjpdgijlaa", sum := "4a71a5ac692d04e46c9f0ad563480170b626235f3ab1dee391f84f44502b7a74", func := "crupper/crupperlaw09.ProofTells", spec := "proofTells", unfollowed := true, recurses := true, plainKeys := false, apart := false, narrowed := true }
def ProofTellsUptoSaid : Prop := proofTellsUptoRow.holds Try.pinned (OpenSpec.upto proofTellsSpec)

end Rows
end Go.Proofs.Ytmljmpjpdgijlaa
