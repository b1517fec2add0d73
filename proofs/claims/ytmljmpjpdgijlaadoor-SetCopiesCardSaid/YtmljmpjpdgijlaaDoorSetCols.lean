/-
  Cols of a family of sets.
-/
import Derived.Test.YtmljmpjpdgijlaaDoorSetTab
set_option linter.unusedVariables false
namespace Go.Proofs.YtmljmpjpdgijlaaDoor
open Go.RowKit Go.Deep SetPlain
set_option maxRecDepth 10000 in
theorem fcols_spec {w : World} {b bw : Nat} {rb : Nat → Nat} {R C : Nat} {In : Nat → Nat → Bool} {tot : Nat} (h : FamMem w b bw rb R C In tot) : Calls Tryd.prog 23 #[.pointer (some ⟨b, 0, none⟩)] w fun e w' => e = .returned (.int .i64 C) ∧ w = w' := by
  have c0 : w.cell? ⟨b, 1, none⟩ = some (.int .i64 C) := by rw [cell_of_heap h.obj]; rfl
  go_enter Tryd.func23, Tryd.ntmps23
  go_wp2
  go_ret
  exact ⟨rfl, rfl⟩
end Go.Proofs.YtmljmpjpdgijlaaDoor
