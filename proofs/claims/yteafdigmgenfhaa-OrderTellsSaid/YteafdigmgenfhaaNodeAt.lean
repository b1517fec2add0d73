/-
  At: where a diagram is true.
-/
import Derived.Test.YteafdigmgenfhaaNodeGet
set_option linter.unusedVariables false
set_option linter.unusedSimpArgs false
namespace Go.Proofs.Yteafdigmgenfhaa
open Go.ChangeShapes Go.WideShapes Go.ChangeAt Go.RowKit Go.Deep NodePlain

/-- The bit that is asked. -/
theorem shr_test (X v : Nat) (hX : X < 18446744073709551616) : (bits BinOp.and IntKind.u64 ((X : Int) / 2 ^ v) 1 == 1) = X.testBit v := by
  have e1 : ((X : Int) / 2 ^ v) = ((X / 2 ^ v : Nat) : Int) := by simp
  have hle : X / 2 ^ v < 18446744073709551616 := Nat.lt_of_le_of_lt (Nat.div_le_self _ _) hX
  have e2 := u64_and_nat (X / 2 ^ v) 1 hle (by decide)
  rw [e1]
  rw [show (1 : Int) = ((1 : Nat) : Int) from rfl, e2, Nat.and_one_is_mod, Nat.testBit_eq_decide_div_mod_eq]
  rw [Bool.eq_iff_iff]
  simp
  omega

section
variable {w : World} {b bp M : Nat} {vn : Value} {V B : Int} {L : Nat → Nd} {n : Nat} {P : Nat → Nat} {s : Bool}

def AtPost (r : Bool) (w : World) (e : Ending) (w' : World) : Prop := e = .returned (.bool r) ∧ Below w.heap.size w w'

end
end Go.Proofs.Yteafdigmgenfhaa
