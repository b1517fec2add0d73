/-
  Which rows are orders: the program's answer and the statement's.
-/
import Derived.Test.YtloidoekmicloaaOrdPlain
import Derived.Test.YtloidoekmicloaaNodeAt
import Derived.Deep.LoopGhost
import Derived.BigQuiet
set_option linter.unusedVariables false
set_option linter.unusedSimpArgs false
set_option linter.unnecessarySimpa false
namespace Go.Proofs.Ytloidoekmicloaa
open Go.ChangeShapes Go.WideShapes Go.ChangeAt Go.RowKit Go.Deep NodePlain
/-- A slice that reads as numbers. -/
def ReadsI (w : World) (v : Value) (l : List Int) : Prop :=
  ∃ ao cap, v = .slice ao l.length cap ∧ l.length ≤ cap ∧ (0 < l.length → ∃ g off, ao = some ⟨g, off, none⟩ ∧ g < w.heap.size ∧ ∀ (j : Nat) (x : Int), l[j]? = some x → w.cell? ⟨g, off + j, none⟩ = some (.int .i64 x))
theorem ReadsI.keeps {w w' : World} {v : Value} {l : List Int} (h : ReadsI w v l) (hk : Keeps (fun _ => False) w w') : ReadsI w' v l := by
  obtain ⟨ao, cap, hv, hle, hr⟩ := h
  refine ⟨ao, cap, hv, hle, fun h0 => ?_⟩
  obtain ⟨g, off, h1, h2, h3⟩ := hr h0
  exact ⟨g, off, h1, Nat.lt_of_lt_of_le h2 hk.size, fun j x hj => (hk.cell (p := ⟨g, off + j, none⟩) h2 (fun x => x)).trans (h3 j x hj)⟩
theorem pow_bit {v : Nat} (hv : v < 61) : IntKind.u64.wrap ((2 : Int) ^ v) = ((2 ^ v : Nat) : Int) := by
  have h : 2 ^ v < 2 ^ 61 := Nat.pow_lt_pow_right (by decide) hv
  have e : ((2 : Int) ^ v) = ((2 ^ v : Nat) : Int) := by simp
  rw [e]
  generalize 2 ^ v = Z at h
  exact IntWalk.u64_in _ (by omega)
set_option maxRecDepth 100000
set_option maxHeartbeats 1600000
end Go.Proofs.Ytloidoekmicloaa
