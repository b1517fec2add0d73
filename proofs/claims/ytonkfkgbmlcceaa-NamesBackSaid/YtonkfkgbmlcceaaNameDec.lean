/-
  A number's decimal digits: the program's and the document's.
-/
import Derived.Test.YtonkfkgbmlcceaaNameMem
import Derived.Laws.IdiomStrings
set_option linter.unusedVariables false
set_option linter.unusedSimpArgs false
set_option linter.unnecessarySimpa false
namespace Go.Proofs.Ytonkfkgbmlcceaa
open Go.ChangeShapes Go.WideShapes Go.ChangeAt Go.RowKit Go.Deep
def digU (n : Nat) : UInt8 := UInt8.ofNat (48 + n)
def decL (n : Nat) : Str := if h : n < 10 then [digU n] else decL (n / 10) ++ [digU (n % 10)]
termination_by n
decreasing_by omega
theorem decL_lt {n : Nat} (h : n < 10) : decL n = [digU n] := by rw [decL, dif_pos h]
theorem decL_ge {n : Nat} (h : ¬ n < 10) : decL n = decL (n / 10) ++ [digU (n % 10)] := by rw [decL, dif_neg h]
theorem decL_len : ∀ (b n : Nat), n < b → (decL n).length ≤ n + 1
  | 0, n, h => absurd h (Nat.not_lt_zero _)
  | b + 1, n, h => by
    by_cases h10 : n < 10
    · rw [decL_lt h10]; simp
    · rw [decL_ge h10, List.length_append]
      have := decL_len b (n / 10) (by omega)
      simp only [List.length_cons, List.length_nil]
      omega
theorem digU_toNat {n : Nat} (h : n < 10) : (digU n).toNat = 48 + n := by
  unfold digU
  rw [UInt8.toNat_ofNat']
  omega
set_option maxRecDepth 100000
set_option maxHeartbeats 3200000
theorem dec_small (n : Nat) (h : n < 10) (W : World) : Calls Try.prog 31 #[.int .i64 (n : Int)] W fun e W' => e = .returned (.string ⟨[digU n].toArray⟩) ∧ W = W' := by
  have hc : n = 0 ∨ n = 1 ∨ n = 2 ∨ n = 3 ∨ n = 4 ∨ n = 5 ∨ n = 6 ∨ n = 7 ∨ n = 8 ∨ n = 9 := by omega
  go_enter Try.func31, Try.ntmps31
  rcases hc with rfl | rfl | rfl | rfl | rfl | rfl | rfl | rfl | rfl | rfl
  all_goals
    go_wp2_with fail
    go_ret
    exact ⟨by rfl, rfl⟩
theorem dec_spec : ∀ (b n : Nat), n < b → n ≤ 1000000 → ∀ W : World, Calls Try.prog 31 #[.int .i64 (n : Int)] W fun e W' => e = .returned (.string ⟨(decL n).toArray⟩) ∧ W = W'
  | 0, n, h, _, _ => absurd h (Nat.not_lt_zero _)
  | b + 1, n, h, hm, W => by
    by_cases h10 : n < 10
    · rw [decL_lt h10]; exact dec_small n h10 W
    · obtain ⟨q, hq⟩ : ∃ q, n / 10 = q := ⟨_, rfl⟩
      obtain ⟨r, hr⟩ : ∃ r, n % 10 = r := ⟨_, rfl⟩
      have HQ : Hid (Calls Try.prog 31 #[.int .i64 (q : Int)] W fun e W' => e = .returned (.string ⟨(decL q).toArray⟩) ∧ W = W') := dec_spec b q (by omega) (by omega) W
      have HR := Lib.hid (dec_small r (by omega) W)
      have HD : Hid (decL n = decL q ++ [digU r]) := by show _ = _; rw [decL_ge h10, hq, hr]
      have hlq := decL_len (q + 1) q (by omega)
      have hadd : (Op.stringOp .add ⟨(decL q).toArray⟩ ⟨[digU r].toArray⟩).run Try.prog W = .ok (.string ⟨(decL q ++ [digU r]).toArray⟩) W := run_string_add_lists W _ _ (by omega) (by simp)
      have h10I : ¬ (n : Int) < 10 := by omega
      have hq1 : (n : Int).tdiv 10 = (q : Int) := by rw [Int.tdiv_eq_ediv_of_nonneg (by omega)]; omega
      have hq2 : (n : Int) / 10 = (q : Int) := by omega
      have hr2 : (n : Int) % 10 = (r : Int) := by omega
      have hr1 : (n : Int).tmod 10 = (r : Int) := by rw [Int.tmod_eq_emod_of_nonneg (by omega)]; exact hr2
      clear hq hr hlq
      generalize hdl : decL q = dl at *
      clear hdl
      go_enter Try.func31, Try.ntmps31
      go_wp2_with fail
      refine HQ.out.mono ?_
      rintro e w' ⟨rfl, rfl⟩
      go_wp2_with fail
      refine HR.out.mono ?_
      rintro e w' ⟨rfl, rfl⟩
      go_wp2_with fail
      go_ret
      exact ⟨by rw [HD.out]; rfl, rfl⟩
end Go.Proofs.Ytonkfkgbmlcceaa
