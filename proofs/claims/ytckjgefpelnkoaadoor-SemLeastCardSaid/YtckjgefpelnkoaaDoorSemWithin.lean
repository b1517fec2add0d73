/-
  The nearer one of two limits: sem's within; and sem's Bound.
-/
import Derived.Test.YtckjgefpelnkoaaDoorSetNew
set_option linter.unusedVariables false
set_option linter.unusedSimpArgs false
set_option linter.unnecessarySimpa false
namespace Go.Proofs.YtckjgefpelnkoaaDoor
open Go.ChangeShapes Go.WideShapes Go.ChangeAt Go.RowKit Go.Deep SetPlain
set_option maxRecDepth 10000 in
theorem swithin_any (n : Int) (R : Nat) (h : Within n 64 R) (w : World) : Calls Tryd.prog 19 #[.int .i64 n] w fun e w' => e = .returned (.int .i64 R) ∧ w = w' := by
  rcases h with ⟨h, rfl⟩ | ⟨h1, h2, h3⟩ | ⟨h, rfl⟩
  · have hm1 : ¬ (64 : Int) < n := by omega
    go_enter Tryd.func19, Tryd.ntmps19
    go_wp2
    go_ret
    exact ⟨rfl, rfl⟩
  · obtain rfl : n = (R : Int) := h3.symm
    go_enter Tryd.func19, Tryd.ntmps19
    go_wp2
    go_ret
    exact ⟨rfl, rfl⟩
  · go_enter Tryd.func19, Tryd.ntmps19
    go_wp2
    go_ret
    exact ⟨rfl, rfl⟩
end Go.Proofs.YtckjgefpelnkoaaDoor
