/-
  The rules that steps use, one number behind another: the law's own list. No program in sight.
-/
import Derived.Test.YtahnedkdodjomaaIntKit
set_option linter.unusedVariables false
set_option linter.unusedSimpArgs false
set_option linter.unnecessarySimpa false
namespace Go.Proofs.Ytahnedkdodjomaa
/-- Of the numbers from -1 on, the first so many: those that are in. -/
def usesTo (R : List Int) : Nat → List Int
  | 0 => []
  | c + 1 => usesTo R c ++ (if ((c : Int) - 1) ∈ R then [(c : Int) - 1] else [])
/-- Likewise, and of the next number what some steps tell. -/
def usesIn (R : List Int) (c j : Nat) : List Int := usesTo R c ++ (if ((c : Int) - 1) ∈ R.take j then [(c : Int) - 1] else [])
theorem usesTo_mem (R : List Int) : ∀ (c : Nat) (x : Int), x ∈ usesTo R c ↔ (x ∈ R ∧ -1 ≤ x ∧ x < (c : Int) - 1)
  | 0, x => by
    unfold usesTo
    constructor
    · intro h; cases h
    · rintro ⟨_, h1, h2⟩; omega
  | c + 1, x => by
    unfold usesTo
    rw [List.mem_append, usesTo_mem R c x]
    by_cases hm : ((c : Int) - 1) ∈ R
    · rw [if_pos hm, List.mem_singleton]
      constructor
      · rintro (⟨h1, h2, h3⟩ | rfl)
        · exact ⟨h1, h2, by omega⟩
        · exact ⟨hm, by omega, by omega⟩
      · rintro ⟨h1, h2, h3⟩
        by_cases e : x = (c : Int) - 1
        · exact .inr e
        · exact .inl ⟨h1, h2, by omega⟩
    · rw [if_neg hm]
      constructor
      · rintro (⟨h1, h2, h3⟩ | h)
        · exact ⟨h1, h2, by omega⟩
        · cases h
      · rintro ⟨h1, h2, h3⟩
        by_cases e : x = (c : Int) - 1
        · subst e; exact absurd h1 hm
        · exact .inl ⟨h1, h2, by omega⟩
theorem usesTo_rises (R : List Int) : ∀ c : Nat, (usesTo R c).Pairwise (· < ·)
  | 0 => List.Pairwise.nil
  | c + 1 => by
    unfold usesTo
    rw [List.pairwise_append]
    refine ⟨usesTo_rises R c, ?_, fun a ha b hb => ?_⟩
    · split
      · exact List.pairwise_singleton _ _
      · exact List.Pairwise.nil
    · have h1 := ((usesTo_mem R c a).1 ha).2.2
      split at hb
      · rw [List.mem_singleton] at hb; subst hb; exact h1
      · cases hb
theorem usesTo_len (R : List Int) : ∀ c : Nat, (usesTo R c).length ≤ c
  | 0 => Nat.le_refl _
  | c + 1 => by
    unfold usesTo
    rw [List.length_append]
    have := usesTo_len R c
    split <;> simp <;> omega
theorem usesIn_zero (R : List Int) (c : Nat) : usesIn R c 0 = usesTo R c := by unfold usesIn; simp
theorem usesIn_all (R : List Int) (c j : Nat) (h : R.length ≤ j) : usesIn R c j = usesTo R (c + 1) := by
  unfold usesIn
  rw [List.take_of_length_le h]
  rfl
theorem usesIn_len (R : List Int) (c j : Nat) : (usesIn R c j).length ≤ c + 1 := by
  unfold usesIn
  rw [List.length_append]
  have := usesTo_len R c
  split <;> simp <;> omega
theorem usesIn_other {R : List Int} {c j : Nat} {x : Int} (hx : R[j]? = some x) (hne : x ≠ (c : Int) - 1) : usesIn R c (j + 1) = usesIn R c j := by
  unfold usesIn
  rw [List.take_add_one, hx]
  have : (c : Int) - 1 ∈ R.take j ++ (some x).toList ↔ (c : Int) - 1 ∈ R.take j := by
    rw [List.mem_append]
    refine ⟨fun h => h.elim id (fun h => ?_), .inl⟩
    simp at h
    exact absurd h.symm hne
  simp only [this]
theorem usesIn_same {R : List Int} {c j : Nat} (hx : R[j]? = some ((c : Int) - 1)) : usesIn R c (j + 1) = usesTo R c ++ [(c : Int) - 1] := by
  unfold usesIn
  rw [List.take_add_one, hx, if_pos (by simp)]
/-- What is last, if anything, is the number itself just if a step has told of it. -/
theorem usesIn_last {R : List Int} {c j q : Nat} {y : Int} (hq : (usesIn R c j).length = q + 1) (hy : (usesIn R c j)[q]? = some y) : (y = (c : Int) - 1 ∧ usesIn R c j = usesTo R c ++ [(c : Int) - 1]) ∨ (y ≠ (c : Int) - 1 ∧ usesIn R c j = usesTo R c) := by
  unfold usesIn at *
  by_cases hm : ((c : Int) - 1) ∈ R.take j
  · rw [if_pos hm] at *
    rw [List.length_append] at hq
    simp only [List.length_cons, List.length_nil] at hq
    rw [List.getElem?_append_right (by omega), show q - (usesTo R c).length = 0 by omega] at hy
    simp at hy
    exact .inl ⟨hy.symm, rfl⟩
  · rw [if_neg hm, List.append_nil] at *
    refine .inr ⟨?_, rfl⟩
    have := ((usesTo_mem R c y).1 (List.mem_of_getElem? hy)).2.2
    omega
theorem usesIn_nil {R : List Int} {c j : Nat} (h : (usesIn R c j).length = 0) : usesTo R c = [] := by
  have := List.eq_nil_of_length_eq_zero h
  unfold usesIn at this
  exact (List.append_eq_nil_iff.1 this).1
/-- If all are in range, it is what sort and compaction make. -/
theorem usesTo_supp {R : List Int} {n : Nat} (h : ∀ x ∈ R, -1 ≤ x ∧ x ≤ (n : Int)) : usesTo R (n + 2) = suppL R := by
  refine rises_eq (usesTo_rises R _) (supp_rises R) (fun x => ?_)
  rw [usesTo_mem, supp_mem]
  constructor
  · exact fun h1 => h1.1
  · exact fun h1 => ⟨h1, (h x h1).1, by have := (h x h1).2; omega⟩
end Go.Proofs.Ytahnedkdodjomaa
