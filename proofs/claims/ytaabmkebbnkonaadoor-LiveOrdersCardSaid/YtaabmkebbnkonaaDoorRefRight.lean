/-
  The document's Right tells just whether a rule may be.
-/
import Derived.Test.YtaabmkebbnkonaaDoorRefRightA
import Derived.Test.YtaabmkebbnkonaaDoorRefRightB
set_option linter.unusedVariables false
set_option linter.unusedSimpArgs false
set_option linter.unnecessarySimpa false
namespace Go.Proofs.YtaabmkebbnkonaaDoor
open Go.ChangeShapes Go.WideShapes Go.ChangeAt Go.RowKit Go.Deep SetPlain
theorem beqf {x c : Int} (h : ¬ x = c) : (x == c) = false := by simpa using h
theorem roleB_eq {p k n i : Int} (hn : p * k = n) : roleB p k i = decide (0 ≤ i ∧ i < n) := by unfold roleB; rw [hn]
theorem rr_spec (W : World) (p k : Int) (r : Rl) : Calls Tryd.prog 15 #[.int .i64 p, .int .i64 k, .agg r.cells.toArray] W (RightPost (rightB p k r) W) := by
  obtain ⟨kind, head, who, a, b, via⟩ := r
  show Calls Tryd.prog 15 #[.int .i64 p, .int .i64 k, .agg #[.int .i64 kind, .int .i64 head, .int .i64 who, .int .i64 a, .int .i64 b, .int .i64 via]] W _
  have hout : ¬ (0 ≤ p ∧ 0 ≤ k ∧ p ≤ 1000 ∧ k ≤ 1000) → rightB p k ⟨kind, head, who, a, b, via⟩ = false := fun h => by
    unfold rightB
    rw [decide_eq_false h, Bool.false_and]
  by_cases p0 : p < 0
  · rw [hout (by omega)]; exact rr_o0 W p k _ kind head who a b via rfl p0
  by_cases k0 : k < 0
  · rw [hout (by omega)]; exact rr_o1 W p k _ kind head who a b via rfl (by omega) k0
  by_cases p1 : 1000 < p
  · rw [hout (by omega)]; exact rr_o2 W p k _ kind head who a b via rfl (by omega) (by omega) p1
  by_cases k1 : 1000 < k
  · rw [hout (by omega)]; exact rr_o3 W p k _ kind head who a b via rfl (by omega) (by omega) (by omega) k1
  rw [rightB_in _ (by omega)]
  have q0 : 0 ≤ p := by omega
  have q1 : 0 ≤ k := by omega
  have q2 : p ≤ 1000 := by omega
  have q3 : k ≤ 1000 := by omega
  obtain ⟨n, hn⟩ : ∃ n, p * k = n := ⟨_, rfl⟩
  have hnb : 0 ≤ n ∧ n ≤ 1000 * 1000 := by
    rw [← hn]
    exact ⟨Int.mul_nonneg q0 q1, Int.mul_le_mul q2 q3 q1 (by decide)⟩
  have hw : IntKind.i64.wrap (p * k) = n := by rw [hn]; exact IntWalk.i64_in _ (by omega)
  simp only [roleB_eq hn]
  clear hout p0 k0 p1 k1
  by_cases c0 : kind < 1
  · have e : ¬ kind = 1 ∧ ¬ kind = 4 ∧ ¬ kind = 2 ∧ ¬ kind = 3 := by omega
    simp only [if_neg e.1, if_neg e.2.1, if_neg e.2.2.1, if_neg e.2.2.2, Bool.and_false]
    exact rr_o4 W p k n kind head who a b via hw q0 q1 q2 q3 c0
  by_cases c1 : 4 < kind
  · have e : ¬ kind = 1 ∧ ¬ kind = 4 ∧ ¬ kind = 2 ∧ ¬ kind = 3 := by omega
    simp only [if_neg e.1, if_neg e.2.1, if_neg e.2.2.1, if_neg e.2.2.2, Bool.and_false]
    exact rr_o5 W p k n kind head who a b via hw q0 q1 q2 q3 (by omega) c1
  by_cases d0 : head < 0
  · rw [decide_eq_false (show ¬ (0 ≤ head ∧ head < n) by omega), Bool.false_and]
    exact rr_h0 W p k n kind head who a b via hw q0 q1 q2 q3 (by omega) (by omega) d0
  by_cases d1 : n ≤ head
  · rw [decide_eq_false (show ¬ (0 ≤ head ∧ head < n) by omega), Bool.false_and]
    exact rr_h1 W p k n kind head who a b via hw q0 q1 q2 q3 (by omega) (by omega) (by omega) d1
  have e0 : 0 ≤ head := by omega
  have e1 : head < n := by omega
  rw [decide_eq_true (show 0 ≤ head ∧ head < n from ⟨e0, e1⟩), Bool.true_and]
  by_cases n1 : kind = 1
  · subst n1
    rw [if_pos rfl]
    by_cases w0 : who < 0
    · rw [decide_eq_false (show ¬ (0 ≤ who ∧ who < p) by omega), Bool.and_false]
      exact rr_k1a W p k n head who a b via hw q0 q1 q2 q3 e0 e1 w0
    by_cases w1 : p ≤ who
    · rw [decide_eq_false (show ¬ (0 ≤ who ∧ who < p) by omega), Bool.and_false]
      exact rr_k1b W p k n head who a b via hw q0 q1 q2 q3 e0 e1 (by omega) w1
    rw [decide_eq_true (show 0 ≤ who ∧ who < p by omega), Bool.and_true]
    by_cases a0 : a = 0
    · subst a0
      by_cases b0 : b = 0
      · subst b0
        by_cases v0 : via = 0
        · subst v0
          exact rr_k1f W p k n head who hw q0 q1 q2 q3 e0 e1 (by omega) (by omega)
        · rw [decide_eq_false (fun x => v0 x.2.2)]
          exact rr_k1e W p k n head who via hw q0 q1 q2 q3 e0 e1 (by omega) (by omega) (beqf v0)
      · rw [decide_eq_false (fun x => b0 x.2.1)]
        exact rr_k1d W p k n head who b via hw q0 q1 q2 q3 e0 e1 (by omega) (by omega) (beqf b0)
    · rw [decide_eq_false (fun x => a0 x.1)]
      exact rr_k1c W p k n head who a b via hw q0 q1 q2 q3 e0 e1 (by omega) (by omega) (beqf a0)
  rw [if_neg n1]
  have nk := beqf n1
  by_cases w0 : who = 0
  · subst w0
    by_cases a0 : a < 0
    · have hg := rr_w1 W p k n kind head a b via hw q0 q1 q2 q3 e0 e1 (by omega) (by omega) nk a0
      have ha : decide (0 ≤ a ∧ a < n) = false := decide_eq_false (by omega)
      rw [ha]
      by_cases n4 : kind = 4
      · rw [if_pos n4, Bool.and_false, Bool.and_false]; exact hg
      · rw [if_neg n4]
        by_cases n2 : kind = 2
        · rw [if_pos n2, Bool.and_false]; exact hg
        · rw [if_neg n2]
          by_cases n3 : kind = 3
          · rw [if_pos n3, Bool.false_and, Bool.and_false]; exact hg
          · omega
    by_cases a1 : n ≤ a
    · have hg := rr_w2 W p k n kind head a b via hw q0 q1 q2 q3 e0 e1 (by omega) (by omega) nk (by omega) a1
      have ha : decide (0 ≤ a ∧ a < n) = false := decide_eq_false (by omega)
      rw [ha]
      by_cases n4 : kind = 4
      · rw [if_pos n4, Bool.and_false, Bool.and_false]; exact hg
      · rw [if_neg n4]
        by_cases n2 : kind = 2
        · rw [if_pos n2, Bool.and_false]; exact hg
        · rw [if_neg n2]
          by_cases n3 : kind = 3
          · rw [if_pos n3, Bool.false_and, Bool.and_false]; exact hg
          · omega
    have f0 : 0 ≤ a := by omega
    have f1 : a < n := by omega
    have ha : decide (0 ≤ a ∧ a < n) = true := decide_eq_true ⟨f0, f1⟩
    rw [ha]
    by_cases n4 : kind = 4
    · subst n4
      rw [if_pos rfl, Bool.and_true]
      by_cases v0 : via = 0
      · subst v0
        rw [decide_eq_true (show (0 : Int) = 0 ∧ (0 : Int) = 0 from ⟨rfl, rfl⟩), Bool.and_true]
        by_cases b0 : b < 0
        · rw [decide_eq_false (show ¬ (0 ≤ b ∧ b < n) by omega)]
          exact rr_k4b W p k n head a b hw q0 q1 q2 q3 e0 e1 f0 f1 b0
        · rw [show decide (0 ≤ b ∧ b < n) = decide (b < n) from by
            by_cases h : b < n
            · rw [decide_eq_true h, decide_eq_true ⟨by omega, h⟩]
            · rw [decide_eq_false h, decide_eq_false (fun x => h x.2)]]
          exact rr_k4c W p k n head a b hw q0 q1 q2 q3 e0 e1 f0 f1 (by omega)
      · rw [decide_eq_false (show ¬ ((0 : Int) = 0 ∧ via = 0) from fun x => v0 x.2), Bool.and_false]
        exact rr_k4a W p k n head a b via hw q0 q1 q2 q3 e0 e1 f0 f1 (beqf v0)
    rw [if_neg n4]
    by_cases n2 : kind = 2
    · subst n2
      rw [if_pos rfl, Bool.and_true]
      by_cases b0 : b = 0
      · subst b0
        by_cases v0 : via = 0
        · subst v0
          exact rr_k2c W p k n head a hw q0 q1 q2 q3 e0 e1 f0 f1
        · rw [decide_eq_false (fun x => v0 x.2.2)]
          exact rr_k2b W p k n head a via hw q0 q1 q2 q3 e0 e1 f0 f1 (beqf v0)
      · rw [decide_eq_false (fun x => b0 x.2.1)]
        exact rr_k2a W p k n head a b via hw q0 q1 q2 q3 e0 e1 f0 f1 (beqf b0)
    rw [if_neg n2]
    have n3 : kind = 3 := by omega
    subst n3
    rw [if_pos rfl, Bool.true_and]
    by_cases b0 : b = 0
    · subst b0
      rw [decide_eq_true (show (0 : Int) = 0 ∧ (0 : Int) = 0 from ⟨rfl, rfl⟩), Bool.true_and]
      by_cases v0 : via < 0
      · rw [decide_eq_false (show ¬ (0 ≤ via ∧ via < k) by omega)]
        exact rr_k3b W p k n head a via hw q0 q1 q2 q3 e0 e1 f0 f1 v0
      · rw [show decide (0 ≤ via ∧ via < k) = decide (via < k) from by
          by_cases h : via < k
          · rw [decide_eq_true h, decide_eq_true ⟨by omega, h⟩]
          · rw [decide_eq_false h, decide_eq_false (fun x => h x.2)]]
        exact rr_k3c W p k n head a via hw q0 q1 q2 q3 e0 e1 f0 f1 (by omega)
    · rw [decide_eq_false (show ¬ ((0 : Int) = 0 ∧ b = 0) from fun x => b0 x.2), Bool.false_and]
      exact rr_k3a W p k n head a b via hw q0 q1 q2 q3 e0 e1 f0 f1 (beqf b0)
  · have hg := rr_w0 W p k n kind head who a b via hw q0 q1 q2 q3 e0 e1 (by omega) (by omega) nk (by simpa using w0)
    by_cases n4 : kind = 4
    · rw [if_pos n4, decide_eq_false (show ¬ (who = 0 ∧ via = 0) from fun x => w0 x.1), Bool.false_and, Bool.and_false]; exact hg
    · rw [if_neg n4]
      by_cases n2 : kind = 2
      · rw [if_pos n2, decide_eq_false (fun x => w0 x.1), Bool.false_and]; exact hg
      · rw [if_neg n2]
        by_cases n3 : kind = 3
        · rw [if_pos n3, decide_eq_false (fun x => w0 x.1), Bool.false_and]; exact hg
        · omega
end Go.Proofs.YtaabmkebbnkonaaDoor
