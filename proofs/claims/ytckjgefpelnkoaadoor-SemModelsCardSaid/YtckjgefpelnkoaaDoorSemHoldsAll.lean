/-
  A model's Holds, of any rule.
-/
import Derived.Test.YtckjgefpelnkoaaDoorSemHolds
set_option linter.unusedVariables false
set_option linter.unusedSimpArgs false
namespace Go.Proofs.YtckjgefpelnkoaaDoor
open Go.ChangeShapes Go.WideShapes Go.ChangeAt Go.RowKit Go.Deep SetPlain
theorem hold_spec {W : World} {mo fb bw : Nat} {rb : Nat → Nat} {P K tot steps : Nat} {In : Nat → Nat → Bool} (h : Mdl mo fb bw rb P K tot steps In W) (hT : TabIn W) (hP : P ≤ 64) (hK : K ≤ 64) (r : Rl) (hw : I64 r.who) :
    Calls Tryd.prog 14 #[.pointer (some ⟨mo, 0, none⟩), .agg r.cells.toArray] W (RightPost (holdsB P K In r) W) := by
  obtain ⟨kind, head, who, a, b, via⟩ := r
  show Calls Tryd.prog 14 #[.pointer (some ⟨mo, 0, none⟩), .agg #[.int .i64 kind, .int .i64 head, .int .i64 who, .int .i64 a, .int .i64 b, .int .i64 via]] W _
  unfold holdsB
  cases hR : rightB P K ⟨kind, head, who, a, b, via⟩ with
  | false => rw [Bool.false_and]; exact hold_not h hT kind head who a b via hR
  | true =>
    rw [Bool.true_and]
    obtain ⟨_, hcase⟩ := right_iff hR
    simp only [] at hcase
    rcases hcase with ⟨k1, _⟩ | ⟨k2, _⟩ | ⟨k3, _, _, hv0, hv1⟩ | ⟨k4, _⟩
    · subst k1
      exact hold_k1 h hT head who a b via hR hw.1 hw.2 _ rfl
    · subst k2
      exact hold_k2 h hT head who a b via hR _ rfl
    · subst k3
      exact hold_k3 h hT head who a b via hR hP hK hv0 hv1 _ rfl
    · subst k4
      exact hold_k4 h hT head who a b via hR hP _ rfl
end Go.Proofs.YtckjgefpelnkoaaDoor
