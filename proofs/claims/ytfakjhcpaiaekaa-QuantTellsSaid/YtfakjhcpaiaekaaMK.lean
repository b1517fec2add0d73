/-
  At how many bits a function is true: counted by variables from the top, by halves, and as a list of numbers. No program in sight.
-/
import Derived.Test.YtfakjhcpaiaekaaNodePlain
set_option linter.unusedVariables false
set_option linter.unusedSimpArgs false
set_option linter.unnecessarySimpa false
namespace Go.Proofs.Ytfakjhcpaiaekaa
namespace SatPlain
/-- One bit settled. -/
def setB (β : Nat → Bool) (v : Nat) (so : Bool) : Nat → Bool := fun x => if x = v then so else β x
theorem setB_same (β : Nat → Bool) (v : Nat) (so : Bool) : setB β v so v = so := by unfold setB; rw [if_pos rfl]
theorem setB_other (β : Nat → Bool) {v x : Nat} (so : Bool) (h : x ≠ v) : setB β v so x = β x := by unfold setB; rw [if_neg h]
theorem setB_comm (β : Nat → Bool) {v m : Nat} (h : v ≠ m) (a b : Bool) : setB (setB β v a) m b = setB (setB β m b) v a := by
  funext x
  unfold setB
  by_cases e : x = m
  · rw [if_pos e, if_neg (by omega), if_pos e]
  · rw [if_neg e, if_neg e]
theorem setB_twice (β : Nat → Bool) (v : Nat) (a b : Bool) : setB (setB β v a) v b = setB β v b := by
  funext x
  unfold setB
  by_cases e : x = v
  · rw [if_pos e, if_pos e]
  · rw [if_neg e, if_neg e, if_neg e]
/-- At how many values of the variables below one a function is true, the others as they are. -/
def cntV (S : (Nat → Bool) → Bool) : Nat → (Nat → Bool) → Nat
  | 0, β => (S β).toNat
  | n + 1, β => cntV S n (setB β n false) + cntV S n (setB β n true)
theorem cnt_congr {S T : (Nat → Bool) → Bool} : ∀ (n : Nat) (β : Nat → Bool), (∀ γ, (∀ x, n ≤ x → γ x = β x) → S γ = T γ) → cntV S n β = cntV T n β
  | 0, β, h => by unfold cntV; rw [h β (fun _ _ => rfl)]
  | n + 1, β, h => by
    unfold cntV
    rw [cnt_congr n _ (fun γ hγ => h γ (fun x hx => by rw [hγ x (by omega), setB_other _ _ (by omega)])), cnt_congr n _ (fun γ hγ => h γ (fun x hx => by rw [hγ x (by omega), setB_other _ _ (by omega)]))]
/-- A variable that does not matter. -/
def Free (S : (Nat → Bool) → Bool) (v : Nat) : Prop := ∀ β so, S (setB β v so) = S β
theorem cnt_free {S : (Nat → Bool) → Bool} {v : Nat} (h : Free S v) (so : Bool) : ∀ (n : Nat) (β : Nat → Bool), cntV S n (setB β v so) = cntV S n β
  | 0, β => by unfold cntV; rw [h]
  | n + 1, β => by
    unfold cntV
    by_cases e : v = n
    · subst e
      rw [setB_twice, setB_twice]
    · rw [setB_comm _ e, setB_comm _ e, cnt_free h so n, cnt_free h so n]
theorem cnt_half {S lo hi : (Nat → Bool) → Bool} {v : Nat} (hS : ∀ β, S β = if β v then hi β else lo β) (hl : Free lo v) (hh : Free hi v) : ∀ (n : Nat), v < n → ∀ β, 2 * cntV S n β = cntV lo n β + cntV hi n β
  | 0, h, _ => absurd h (Nat.not_lt_zero _)
  | n + 1, h, β => by
    by_cases e : v = n
    · subst e
      have a0 : cntV S v (setB β v false) = cntV lo v β := by
        rw [cnt_congr (T := lo) v _ (fun γ hγ => by rw [hS, hγ v (Nat.le_refl _), setB_same, if_neg (by decide)]), cnt_free hl]
      have a1 : cntV S v (setB β v true) = cntV hi v β := by
        rw [cnt_congr (T := hi) v _ (fun γ hγ => by rw [hS, hγ v (Nat.le_refl _), setB_same, if_pos rfl]), cnt_free hh]
      show 2 * (cntV S v (setB β v false) + cntV S v (setB β v true)) = (cntV lo v (setB β v false) + cntV lo v (setB β v true)) + (cntV hi v (setB β v false) + cntV hi v (setB β v true))
      rw [a0, a1, cnt_free hl, cnt_free hl, cnt_free hh, cnt_free hh]
      omega
    · have i0 := cnt_half hS hl hh n (by omega) (setB β n false)
      have i1 := cnt_half hS hl hh n (by omega) (setB β n true)
      show 2 * (cntV S n (setB β n false) + cntV S n (setB β n true)) = (cntV lo n (setB β n false) + cntV lo n (setB β n true)) + (cntV hi n (setB β n false) + cntV hi n (setB β n true))
      omega
theorem testBit_pow_mul (q n x : Nat) : Nat.testBit (2 ^ n * q) x = (decide (n ≤ x) && q.testBit (x - n)) := by
  rw [Nat.testBit_two_pow_mul]
theorem setB_low (q n : Nat) : setB (Nat.testBit (2 ^ (n + 1) * q)) n false = Nat.testBit (2 ^ n * (2 * q)) := by
  funext x
  have e : 2 ^ (n + 1) * q = 2 ^ n * (2 * q) := by rw [Nat.pow_succ, Nat.mul_assoc]
  rw [e]
  unfold setB
  by_cases h : x = n
  · subst h
    rw [if_pos rfl, testBit_pow_mul, Nat.sub_self]
    simp
  · rw [if_neg h]
theorem setB_high (q n : Nat) : setB (Nat.testBit (2 ^ (n + 1) * q)) n true = Nat.testBit (2 ^ n * (2 * q + 1)) := by
  funext x
  have e : 2 ^ (n + 1) * q = 2 ^ n * (2 * q) := by rw [Nat.pow_succ, Nat.mul_assoc]
  rw [e]
  unfold setB
  by_cases h : x = n
  · subst h
    rw [if_pos rfl, testBit_pow_mul, Nat.sub_self]
    simp
  · rw [if_neg h, testBit_pow_mul, testBit_pow_mul]
    by_cases h2 : n ≤ x
    · obtain ⟨y, hy⟩ : ∃ y, x - n = y + 1 := ⟨x - n - 1, by omega⟩
      rw [hy, Nat.testBit_succ, Nat.testBit_succ]
      congr 2
      omega
    · rw [decide_eq_false h2, Bool.false_and, Bool.false_and]
/-- The numbers at which a function is true, of a stretch of numbers. -/
def onL (S : (Nat → Bool) → Bool) (c m : Nat) : List Nat := (List.range' c m).filter fun b => S (Nat.testBit b)
theorem onL_add (S : (Nat → Bool) → Bool) (c m p : Nat) : onL S c (m + p) = onL S c m ++ onL S (c + m) p := by
  unfold onL
  rw [← List.filter_append]
  congr 1
  have := List.range'_append (s := c) (m := m) (n := p) (step := 1)
  rw [Nat.one_mul] at this
  exact this.symm
theorem cnt_list (S : (Nat → Bool) → Bool) : ∀ (n q : Nat), cntV S n (Nat.testBit (2 ^ n * q)) = (onL S (2 ^ n * q) (2 ^ n)).length
  | 0, q => by
    unfold cntV onL
    rw [Nat.pow_zero, Nat.one_mul]
    cases h : S (Nat.testBit q) <;> simp [List.range', h]
  | n + 1, q => by
    unfold cntV
    rw [setB_low, setB_high, cnt_list S n, cnt_list S n]
    have e1 : 2 ^ (n + 1) = 2 ^ n + 2 ^ n := by rw [Nat.pow_succ]; omega
    have e2 : 2 ^ (n + 1) * q = 2 ^ n * (2 * q) := by rw [Nat.pow_succ, Nat.mul_assoc]
    have e3 : 2 ^ n * (2 * q + 1) = 2 ^ n * (2 * q) + 2 ^ n := by rw [Nat.mul_add, Nat.mul_one]
    rw [e2, e1, onL_add, List.length_append, e3]
/-- At how many numbers below 2^n. -/
theorem cnt_all (S : (Nat → Bool) → Bool) (n : Nat) : cntV S n (fun _ => false) = (onL S 0 (2 ^ n)).length := by
  have h := cnt_list S n 0
  rw [Nat.mul_zero] at h
  rw [← h]
  congr 1
  funext x
  rw [Nat.zero_testBit]
end SatPlain
end Go.Proofs.Ytfakjhcpaiaekaa
