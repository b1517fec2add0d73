/-
  What a model that is nil answers.
-/
import Derived.Test.YtckjgefpelnkoaaDoorSemModel
import Derived.Deep.QuietTactic
set_option linter.unusedVariables false
set_option linter.unusedSimpArgs false
set_option linter.unnecessarySimpa false
namespace Go.Proofs.YtckjgefpelnkoaaDoor
open Go.ChangeShapes Go.WideShapes Go.ChangeAt Go.RowKit Go.Deep SetPlain
set_option maxRecDepth 10000
theorem nil_in (W : World) (i c : Int) : Calls Tryd.prog 9 #[.pointer none, .int .i64 i, .int .i64 c] W fun e W' => e = .returned (.bool false) ∧ W = W' := by
  go_enter Tryd.func9, Tryd.ntmps9
  go_wp2
  go_ret
  exact ⟨rfl, rfl⟩
theorem nil_members (W : World) (i : Int) : Calls Tryd.prog 12 #[.pointer none, .int .i64 i] W fun e W' => e = .returned (.slice none 0 0) ∧ W = W' := by
  go_enter Tryd.func12, Tryd.ntmps12
  go_wp2
  go_ret
  exact ⟨rfl, rfl⟩
theorem nil_steps (W : World) : Calls Tryd.prog 18 #[.pointer none] W fun e W' => e = .returned (.int .i64 0) ∧ W = W' := by
  go_enter Tryd.func18, Tryd.ntmps18
  go_wp2
  go_ret
  exact ⟨rfl, rfl⟩
set_option maxHeartbeats 800000 in
theorem nil_holds (W : World) (r : Rl) : Calls Tryd.prog 14 #[.pointer none, .agg r.cells.toArray] W (RightPost false W) := by
  obtain ⟨kind, head, who, a, b, via⟩ := r
  show Calls Tryd.prog 14 #[.pointer none, .agg #[.int .i64 kind, .int .i64 head, .int .i64 who, .int .i64 a, .int .i64 b, .int .i64 via]] W _
  go_enter Tryd.func14, Tryd.ntmps14
  go_wp2_with fail
  go_quiet (fail)
  go_wp2_with fail
  go_ret
  refine ⟨rfl, ?_⟩
  exact ((Keeps.drewN (((Keeps.refl (fun _ => False) W).alloc _)) _).below (Nat.le_refl _) (fun _ _ x => x))
end Go.Proofs.YtckjgefpelnkoaaDoor
