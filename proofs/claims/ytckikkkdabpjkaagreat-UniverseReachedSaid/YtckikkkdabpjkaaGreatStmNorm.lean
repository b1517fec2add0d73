/-
 A statement's normal form: the program's and the document's.
-/
import Derived.Test.YtckikkkdabpjkaaGreatStmOrder
import Derived.Test.YtckikkkdabpjkaaGreatMA
set_option linter.unusedVariables false
set_option linter.unusedSimpArgs false
set_option linter.unnecessarySimpa false
namespace Go.Proofs.YtckikkkdabpjkaaGreat
open Go.ChangeShapes Go.WideShapes Go.ChangeAt Go.RowKit Go.Deep
/-- A statement's value. -/
def stmV (s : Stm) : Value := .agg #[.int .i64 s.2.1, .string ⟨s.1.1.toArray⟩, .string ⟨s.1.2.toArray⟩, .string ⟨s.2.2.1.toArray⟩, .string ⟨s.2.2.2.1.1.toArray⟩, .string ⟨s.2.2.2.1.2.toArray⟩, .string ⟨s.2.2.2.2.1.1.toArray⟩, .string ⟨s.2.2.2.2.1.2.toArray⟩, .string ⟨s.2.2.2.2.2.toArray⟩]
section
variable {W : World} {T : TypeId}
theorem cells9 {B : Nat} {u0 u1 u2 u3 u4 u5 u6 u7 u8 : Value} (h : W.heap[B]? = some (.cells #[u0, u1, u2, u3, u4, u5, u6, u7, u8] T)) : W.cell? ⟨B, 0, none⟩ = some u0 ∧ W.cell? ⟨B, 1, none⟩ = some u1 ∧ W.cell? ⟨B, 2, none⟩ = some u2 ∧ W.cell? ⟨B, 3, none⟩ = some u3 ∧ W.cell? ⟨B, 4, none⟩ = some u4 ∧ W.cell? ⟨B, 5, none⟩ = some u5 ∧ W.cell? ⟨B, 6, none⟩ = some u6 ∧ W.cell? ⟨B, 7, none⟩ = some u7 ∧ W.cell? ⟨B, 8, none⟩ = some u8 := by
 refine ⟨?_, ?_, ?_, ?_, ?_, ?_, ?_, ?_, ?_⟩ <;> (rw [cell_of_heap h]; rfl)
set_option maxRecDepth 100000
set_option maxHeartbeats 3200000
end
end Go.Proofs.YtckikkkdabpjkaaGreat
