/-
  A number's decimal digits: the program's and the document's.
-/
import Derived.Test.YtcdfpnlaklaafaaGreatNameMem
import Derived.Laws.IdiomStrings
set_option linter.unusedVariables false
set_option linter.unusedSimpArgs false
set_option linter.unnecessarySimpa false
namespace Go.Proofs.YtcdfpnlaklaafaaGreat
open Go.ChangeShapes Go.WideShapes Go.ChangeAt Go.RowKit Go.Deep
def digU (n : Nat) : UInt8 := UInt8.ofNat (48 + n)
def decL (n : Nat) : Str := if h : n < 10 then [digU n] else decL (n / 10) ++ [digU (n % 10)]
termination_by n
decreasing_by omega
theorem decL_lt {n : Nat} (h : n < 10) : decL n = [digU n] := by rw [decL, dif_pos h]
theorem decL_ge {n : Nat} (h : ¬ n < 10) : decL n = decL (n / 10) ++ [digU (n % 10)] := by rw [decL, dif_neg h]
theorem decL_len : ∀ (b n : Nat), n < b → (decL n).length ≤ n + 1
  | 0, n, h => absurd h (Nat.not_lt_zero _)
  | b + 1, n, h => by
    by_cases h10 : n < 10
    · rw [decL_lt h10]; simp
    · rw [decL_ge h10, List.length_append]
      have := decL_len b (n / 10) (by omega)
      simp only [List.length_cons, List.length_nil]
      omega
theorem digU_toNat {n : Nat} (h : n < 10) : (digU n).toNat = 48 + n := by
  unfold digU
  rw [UInt8.toNat_ofNat']
  omega
set_option maxRecDepth 100000
set_option maxHeartbeats 3200000
end Go.Proofs.YtcdfpnlaklaafaaGreat
