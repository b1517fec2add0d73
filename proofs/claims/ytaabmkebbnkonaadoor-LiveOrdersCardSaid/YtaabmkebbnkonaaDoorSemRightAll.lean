/-
  The program's table.Right tells just whether a rule may be.
-/
import Derived.Test.YtaabmkebbnkonaaDoorSemRightMore
import Derived.Test.YtaabmkebbnkonaaDoorSemRightLink
set_option linter.unusedVariables false
set_option linter.unusedSimpArgs false
set_option linter.unnecessarySimpa false
namespace Go.Proofs.YtaabmkebbnkonaaDoor
open Go.ChangeShapes Go.WideShapes Go.ChangeAt Go.RowKit Go.Deep SetPlain
theorem rightB_in {p k : Int} (r : Rl) (h : 0 ≤ p ∧ 0 ≤ k ∧ p ≤ 1000 ∧ k ≤ 1000) : rightB p k r = (roleB p k r.head &&
    (if r.kind = 1 then decide (r.a = 0 ∧ r.b = 0 ∧ r.via = 0) && decide (0 ≤ r.who ∧ r.who < p)
     else if r.kind = 4 then roleB p k r.b && (decide (r.who = 0 ∧ r.via = 0) && roleB p k r.a)
     else if r.kind = 2 then decide (r.who = 0 ∧ r.b = 0 ∧ r.via = 0) && roleB p k r.a
     else if r.kind = 3 then decide (r.who = 0 ∧ r.b = 0) && (roleB p k r.a && decide (0 ≤ r.via ∧ r.via < k))
     else false)) := by
  unfold rightB
  rw [decide_eq_true h, Bool.true_and]
theorem right_spec (W : World) (p k : Int) (r : Rl) : Calls Tryd.prog 24 #[.int .i64 p, .int .i64 k, .agg r.cells.toArray] W (RightPost (rightB p k r) W) := by
  obtain ⟨kind, head, who, a, b, via⟩ := r
  show Calls Tryd.prog 24 #[.int .i64 p, .int .i64 k, .agg #[.int .i64 kind, .int .i64 head, .int .i64 who, .int .i64 a, .int .i64 b, .int .i64 via]] W _
  have hout : ¬ (0 ≤ p ∧ 0 ≤ k ∧ p ≤ 1000 ∧ k ≤ 1000) → rightB p k ⟨kind, head, who, a, b, via⟩ = false := fun h => by
    unfold rightB
    rw [decide_eq_false h, Bool.false_and]
  by_cases h0 : p < 0
  · rw [hout (by omega)]; exact right_out0 W p k kind head who a b via h0
  by_cases h1 : k < 0
  · rw [hout (by omega)]; exact right_out1 W p k kind head who a b via (by omega) h1
  by_cases h2 : 1000 < p
  · rw [hout (by omega)]; exact right_out2 W p k kind head who a b via (by omega) (by omega) h2
  by_cases h3 : 1000 < k
  · rw [hout (by omega)]; exact right_out3 W p k kind head who a b via (by omega) (by omega) (by omega) h3
  rw [rightB_in _ (by omega)]
  have p0 : 0 ≤ p := by omega
  have k0 : 0 ≤ k := by omega
  have p1 : p ≤ 1000 := by omega
  have k1 : k ≤ 1000 := by omega
  clear h0 h1 h2 h3 hout
  by_cases n1 : kind = 1
  · subst n1
    rw [if_pos rfl]
    cases hh : roleB p k head with
    | false => exact right_k1a W p k head who a b via p0 k0 p1 k1 hh
    | true =>
      rw [Bool.true_and]
      by_cases hq : a = 0 ∧ b = 0 ∧ via = 0
      · have hd : decide (who = who ∧ a = 0 ∧ b = 0 ∧ via = 0) = true := decide_eq_true ⟨rfl, hq⟩
        simp only [decide_eq_true hq, Bool.true_and]
        by_cases hw : who < 0
        · rw [decide_eq_false (by omega)]
          exact right_k1c W p k head who a b via p0 k0 p1 k1 hh hw hd
        · rw [show decide (0 ≤ who ∧ who < p) = decide (who < p) from by
            by_cases h : who < p
            · rw [decide_eq_true h, decide_eq_true ⟨by omega, h⟩]
            · rw [decide_eq_false h, decide_eq_false (fun x => h x.2)]]
          exact right_k1d W p k head who a b via p0 k0 p1 k1 hh (by omega) hd
      · have hd : decide (who = who ∧ a = 0 ∧ b = 0 ∧ via = 0) = false := decide_eq_false (fun x => hq x.2)
        simp only [decide_eq_false hq, Bool.false_and]
        exact right_k1b W p k head who a b via p0 k0 p1 k1 hh hd
  rw [if_neg n1]
  by_cases n4 : kind = 4
  · subst n4
    rw [if_pos rfl]
    cases hh : roleB p k head with
    | false => exact right_k4a W p k head who a b via p0 k0 p1 k1 hh
    | true =>
      rw [Bool.true_and]
      cases hb : roleB p k b with
      | false => exact right_k4b W p k head who a b via p0 k0 p1 k1 hh hb
      | true =>
        rw [Bool.true_and]
        by_cases hq : who = 0 ∧ via = 0
        · have hd : decide (who = 0 ∧ a = a ∧ b = b ∧ via = 0) = true := decide_eq_true ⟨hq.1, rfl, rfl, hq.2⟩
          simp only [decide_eq_true hq, Bool.true_and]
          exact right_k4d W p k head who a b via p0 k0 p1 k1 hh hb _ rfl hd
        · have hd : decide (who = 0 ∧ a = a ∧ b = b ∧ via = 0) = false := decide_eq_false (fun x => hq ⟨x.1, x.2.2.2⟩)
          simp only [decide_eq_false hq, Bool.false_and]
          exact right_k4c W p k head who a b via p0 k0 p1 k1 hh hb hd
  rw [if_neg n4]
  by_cases n2 : kind = 2
  · subst n2
    rw [if_pos rfl]
    cases hh : roleB p k head with
    | false => exact right_k2a W p k head who a b via p0 k0 p1 k1 hh
    | true =>
      rw [Bool.true_and]
      by_cases hq : who = 0 ∧ b = 0 ∧ via = 0
      · have hd : decide (who = 0 ∧ a = a ∧ b = 0 ∧ via = 0) = true := decide_eq_true ⟨hq.1, rfl, hq.2⟩
        simp only [decide_eq_true hq, Bool.true_and]
        exact right_k2c W p k head who a b via p0 k0 p1 k1 hh _ rfl hd
      · have hd : decide (who = 0 ∧ a = a ∧ b = 0 ∧ via = 0) = false := decide_eq_false (fun x => hq ⟨x.1, x.2.2⟩)
        simp only [decide_eq_false hq, Bool.false_and]
        exact right_k2b W p k head who a b via p0 k0 p1 k1 hh hd
  rw [if_neg n2]
  by_cases n3 : kind = 3
  · subst n3
    rw [if_pos rfl]
    cases hh : roleB p k head with
    | false => exact right_k3a W p k head who a b via p0 k0 p1 k1 hh
    | true =>
      rw [Bool.true_and]
      by_cases hq : who = 0 ∧ b = 0
      · have hd : decide (who = 0 ∧ a = a ∧ b = 0 ∧ via = via) = true := decide_eq_true ⟨hq.1, rfl, hq.2, rfl⟩
        simp only [decide_eq_true hq, Bool.true_and]
        cases ha : roleB p k a with
        | false => exact right_k3c W p k head who a b via p0 k0 p1 k1 hh ha hd
        | true =>
          rw [Bool.true_and]
          by_cases hw : via < 0
          · rw [decide_eq_false (by omega)]
            exact right_k3d W p k head who a b via p0 k0 p1 k1 hh ha hw hd
          · rw [show decide (0 ≤ via ∧ via < k) = decide (via < k) from by
              by_cases h : via < k
              · rw [decide_eq_true h, decide_eq_true ⟨by omega, h⟩]
              · rw [decide_eq_false h, decide_eq_false (fun x => h x.2)]]
            exact right_k3e W p k head who a b via p0 k0 p1 k1 hh ha (by omega) hd
      · have hd : decide (who = 0 ∧ a = a ∧ b = 0 ∧ via = via) = false := decide_eq_false (fun x => hq ⟨x.1, x.2.2.1⟩)
        simp only [decide_eq_false hq, Bool.false_and]
        exact right_k3b W p k head who a b via p0 k0 p1 k1 hh hd
  rw [if_neg n3, Bool.and_false]
  exact right_k0 W p k kind head who a b via p0 k0 p1 k1 n1 n2 n3 n4 _ rfl
end Go.Proofs.YtaabmkebbnkonaaDoor
