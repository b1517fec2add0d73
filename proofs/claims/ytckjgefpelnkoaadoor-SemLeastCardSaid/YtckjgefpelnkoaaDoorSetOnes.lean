/-
  How many bits a word has: the library's way walked.
-/
import Derived.Test.YtckjgefpelnkoaaDoorKit
import Derived.Test.YtckjgefpelnkoaaDoorProg
import Derived.Test.YtckjgefpelnkoaaDoorSetPlain
import Derived.WalkLawsBesides
import Derived.Laws.BitsAllLaws
import Derived.Lib.Hide
set_option linter.unusedVariables false
set_option linter.unusedSimpArgs false
set_option linter.unnecessarySimpa false
namespace Go.Proofs.YtckjgefpelnkoaaDoor
open Go.RowKit Go.Deep SetPlain

theorem and_low (a : Nat) (ha : a < 9223372036854775808) : bits .and .i64 (a : Int) 127 = ((a &&& 127 : Nat) : Int) := by
  have e : ∀ n : Nat, n < 9223372036854775808 → (BitVec.ofInt 64 (n : Int)).toNat = n := fun n hn => by
    rw [BitVec.ofInt_natCast, BitVec.toNat_ofNat]
    exact Nat.mod_eq_of_lt (by omega)
  have hle : a &&& 127 ≤ 127 := Nat.and_le_right
  show IntKind.i64.wrap ((BitVec.ofInt 64 (a : Int) &&& BitVec.ofInt 64 ((127 : Nat) : Int)).toNat : Int) = _
  rw [BitVec.toNat_and, e a ha, e 127 (by decide), IntKind.wrap_i64]
  omega

end Go.Proofs.YtckjgefpelnkoaaDoor
