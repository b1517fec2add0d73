/-
  May a rule be? (the program's table.Right)
-/
import Derived.Test.YtckjgefpelnkoaaDoorSemPlain
import Derived.Deep.QuietTactic
import Derived.BigQuiet
set_option linter.unusedVariables false
set_option linter.unusedSimpArgs false
set_option linter.unnecessarySimpa false
namespace Go.Proofs.YtckjgefpelnkoaaDoor
open Go.ChangeShapes Go.WideShapes Go.ChangeAt Go.RowKit Go.Deep SetPlain
set_option maxRecDepth 10000 in
set_option maxHeartbeats 800000 in
theorem rule_eql (k h w1 a1 b1 v1 w2 a2 b2 v2 : Int) (w : World) :
    (binOp .eql 25 (.agg #[.int .i64 k, .int .i64 h, .int .i64 w1, .int .i64 a1, .int .i64 b1, .int .i64 v1]) (.agg #[.int .i64 k, .int .i64 h, .int .i64 w2, .int .i64 a2, .int .i64 b2, .int .i64 v2])).run Tryd.prog w = .ok (.bool (decide (w1 = w2 ∧ a1 = a2 ∧ b1 = b2 ∧ v1 = v2))) w := by
  by_cases h0 : w1 = w2
  · subst h0
    by_cases h1 : a1 = a2
    · subst h1
      by_cases h2 : b1 = b2
      · subst h2
        by_cases h3 : v1 = v2
        · subst h3
          simp [go_sem]
        · have h3' : (v1 == v2) = false := by simpa using h3
          simp [go_sem, h3', h3]
      · have h3' : (b1 == b2) = false := by simpa using h2
        simp [go_sem, h3', h2]
    · have h3' : (a1 == a2) = false := by simpa using h1
      simp [go_sem, h3', h1]
  · have h3' : (w1 == w2) = false := by simpa using h0
    simp [go_sem, h3', h0]
set_option maxRecDepth 10000 in
set_option maxHeartbeats 800000 in
theorem role_spec {W : World} {x3 x4 : Nat} {p k : Int} (h3 : W.cell? ⟨x3, 0, none⟩ = some (.int .i64 p)) (h4 : W.cell? ⟨x4, 0, none⟩ = some (.int .i64 k)) (hp0 : 0 ≤ p) (hp1 : p ≤ 1000) (hk0 : 0 ≤ k) (hk1 : k ≤ 1000) (i : Int) :
    Calls Tryd.prog 29 #[.int .i64 i, .pointer (some ⟨x3, 0, none⟩), .pointer (some ⟨x4, 0, none⟩)] W fun e W' => e = .returned (.bool (roleB p k i)) ∧ W = W' := by
  have hpk0 : 0 ≤ p * k := Int.mul_nonneg hp0 hk0
  have hpk1 : p * k ≤ 1000 * 1000 := Int.mul_le_mul hp1 hk1 hk0 (by omega)
  obtain ⟨m, hm⟩ : ∃ m, p * k = m := ⟨_, rfl⟩
  rw [hm] at hpk0 hpk1
  have hw : IntKind.i64.wrap (p * k) = m := by rw [hm]; exact IntWalk.i64_in _ (by omega)
  unfold roleB
  rw [hm]
  clear hm
  rcases Int.lt_or_le i 0 with h0 | h0
  · have hr : decide (0 ≤ i ∧ i < m) = false := by rw [decide_eq_false_iff_not]; omega
    rw [hr]
    go_enter Tryd.func29, Tryd.ntmps29
    go_wp2
    go_ret
    exact ⟨rfl, rfl⟩
  · rcases Int.lt_or_le i m with h1 | h1
    · have hr : decide (0 ≤ i ∧ i < m) = true := by rw [decide_eq_true_iff]; omega
      rw [hr]
      go_enter Tryd.func29, Tryd.ntmps29
      go_wp2
      go_ret
      exact ⟨by simp [h1], rfl⟩
    · have hr : decide (0 ≤ i ∧ i < m) = false := by rw [decide_eq_false_iff_not]; omega
      rw [hr]
      go_enter Tryd.func29, Tryd.ntmps29
      go_wp2
      go_ret
      exact ⟨by simp; omega, rfl⟩
end Go.Proofs.YtckjgefpelnkoaaDoor
