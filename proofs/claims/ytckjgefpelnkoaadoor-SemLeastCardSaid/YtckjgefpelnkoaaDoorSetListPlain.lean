/-
  The numbers of a set, rising; a word's bits taken off one by one. No program in sight.
-/
import Derived.Test.YtckjgefpelnkoaaDoorSetPlain
import Derived.Lib.TrailingZeros
set_option linter.unusedVariables false
set_option linter.unusedSimpArgs false
set_option linter.unnecessarySimpa false
namespace Go.Proofs.YtckjgefpelnkoaaDoor.SetPlain

/-- The numbers below n that are in, rising. -/
def listTo (p : Nat → Bool) : Nat → List Nat
  | 0 => []
  | n + 1 => if p n then listTo p n ++ [n] else listTo p n
theorem listTo_none (p : Nat → Bool) (a : Nat) : ∀ d, (∀ j, j < d → p (a + j) = false) → listTo p (a + d) = listTo p a
  | 0, _ => rfl
  | d + 1, h => by
    rw [← Nat.add_assoc]
    show (if p (a + d) = true then _ else listTo p (a + d)) = _
    rw [if_neg (by rw [h d (by omega)]; simp)]
    exact listTo_none p a d (fun j hj => h j (by omega))
theorem listTo_len (p : Nat → Bool) : ∀ n, (listTo p n).length = cnt p n
  | 0 => rfl
  | n + 1 => by
    unfold listTo cnt
    split
    · rw [List.length_append, listTo_len p n]; rfl
    · rw [listTo_len p n]; rfl
theorem listTo_lt (p : Nat → Bool) : ∀ n, ∀ x ∈ listTo p n, x < n ∧ p x = true
  | 0, x, h => by cases h
  | n + 1, x, h => by
    unfold listTo at h
    split at h
    · rename_i hp
      rw [List.mem_append, List.mem_singleton] at h
      rcases h with h | rfl
      · have := listTo_lt p n x h; exact ⟨by omega, this.2⟩
      · exact ⟨by omega, hp⟩
    · have := listTo_lt p n x h; exact ⟨by omega, this.2⟩
theorem listTo_congr {p q : Nat → Bool} : ∀ n, (∀ j, j < n → p j = q j) → listTo p n = listTo q n
  | 0, _ => rfl
  | n + 1, h => by unfold listTo; rw [listTo_congr n (fun j hj => h j (by omega)), h n (by omega)]

/-- A word's lowest bit, and the word without it. -/
theorem low_bit (w : Nat) (h0 : w ≠ 0) (hw : w < 18446744073709551616) :
    Lib.ctz 64 w < 64 ∧ w.testBit (Lib.ctz 64 w) = true ∧ (∀ j, j < Lib.ctz 64 w → w.testBit j = false) ∧ (∀ j, (w &&& (w - 1)).testBit j = (decide (Lib.ctz 64 w < j) && w.testBit j)) := by
  obtain ⟨q, hq, hm⟩ := Lib.ctzFrom_spec 64 w (by omega) hw
  have e : Lib.ctz 64 w = Lib.ctzFrom 64 w := by unfold Lib.ctz; rw [if_neg h0]
  rw [e]
  generalize Lib.ctzFrom 64 w = m at hq hm
  have hp : 0 < 2 ^ m := Nat.two_pow_pos m
  have e1 : w = 0 + 2 ^ m * (1 + 2 ^ 1 * q) := by rw [hq]; simp; rw [Nat.add_comm]
  have e2 : w - 1 = (2 ^ m - 1) + 2 ^ m * (0 + 2 ^ 1 * q) := by
    rw [hq, Nat.mul_add]; simp
    omega
  have e3 : w &&& (w - 1) = 2 ^ (m + 1) * q := by
    rw [e2]
    conv => lhs; lhs; rw [e1]
    rw [and_parts m _ _ _ _ hp (by omega), and_parts 1 _ _ _ _ (by decide) (by decide), Nat.and_self]
    simp [Nat.pow_succ, Nat.mul_assoc]
  have hb : ∀ j, w.testBit j = (decide (m ≤ j) && (2 * q + 1).testBit (j - m)) := fun j => by rw [hq, Nat.testBit_two_pow_mul]
  refine ⟨hm, ?_, fun j hj => ?_, fun j => ?_⟩
  · rw [hb, Nat.sub_self]
    simp
  · rw [hb]
    have : ¬ m ≤ j := by omega
    simp [this]
  · rw [e3, Nat.testBit_two_pow_mul, hb]
    by_cases h1 : m < j
    · have h2 : m + 1 ≤ j := h1
      have h3 : m ≤ j := by omega
      obtain ⟨d, rfl⟩ : ∃ d, j = m + 1 + d := ⟨j - (m + 1), by omega⟩
      rw [show m + 1 + d - m = d + 1 from by omega, show m + 1 + d - (m + 1) = d from by omega, Nat.testBit_succ, show (2 * q + 1) / 2 = q from by omega]
      simp [h1, h2, h3]
    · have h2 : ¬ m + 1 ≤ j := by omega
      simp [h1, h2]

/-- What of a word is still to come. -/
def WLeft (p : Nat → Bool) (k t X : Nat) : Prop := X < 18446744073709551616 ∧ t ≤ 64 ∧ ∀ j, X.testBit j = (decide (t ≤ j) && (wordOf p k).testBit j)
theorem WLeft.start (p : Nat → Bool) (k : Nat) : WLeft p k 0 (wordOf p k) := ⟨wordOf_lt p k, by omega, fun j => by simp⟩
theorem WLeft.done {p : Nat → Bool} {k t : Nat} (h : WLeft p k t 0) : listTo p (64 * k + t) = listTo p (64 * (k + 1)) := by
  obtain ⟨_, ht, hb⟩ := h
  rw [show 64 * (k + 1) = 64 * k + t + (64 - t) from by omega]
  refine (listTo_none p (64 * k + t) (64 - t) (fun j hj => ?_)).symm
  have := hb (t + j)
  rw [Nat.zero_testBit, wordOf_test] at this
  have h1 : t + j < 64 := by omega
  simp [h1] at this
  rw [Nat.add_assoc]; exact this
theorem WLeft.next {p : Nat → Bool} {k t X : Nat} (h : WLeft p k t X) (h0 : X ≠ 0) : WLeft p k (Lib.ctz 64 X + 1) (X &&& (X - 1)) ∧ listTo p (64 * k + (Lib.ctz 64 X + 1)) = listTo p (64 * k + t) ++ [64 * k + Lib.ctz 64 X] ∧ t ≤ Lib.ctz 64 X ∧ Lib.ctz 64 X < 64 := by
  obtain ⟨hX, ht, hb⟩ := h
  obtain ⟨h1, h2, h3, h4⟩ := low_bit X h0 hX
  generalize Lib.ctz 64 X = m at h1 h2 h3 h4
  have hm := hb m
  rw [h2] at hm
  have htm : t ≤ m := by
    rcases Nat.lt_or_ge m t with h | h
    · have : ¬ t ≤ m := by omega
      simp [this] at hm
    · exact h
  have hpm : p (64 * k + m) = true := by
    rw [wordOf_test] at hm
    simpa [htm, h1] using hm.symm
  refine ⟨⟨Nat.lt_of_le_of_lt Nat.and_le_left hX, by omega, fun j => ?_⟩, ?_, htm, h1⟩
  · rw [h4, hb]
    by_cases hj : m < j
    · have h5 : t ≤ j := by omega
      have h6 : m + 1 ≤ j := hj
      simp [hj, h5, h6]
    · have h6 : ¬ m + 1 ≤ j := by omega
      simp [hj, h6]
  · rw [show 64 * k + (m + 1) = (64 * k + m) + 1 from by omega]
    show (if p (64 * k + m) = true then _ else _) = _
    rw [if_pos hpm]
    have : listTo p (64 * k + m) = listTo p (64 * k + t) := by
      rw [show 64 * k + m = 64 * k + t + (m - t) from by omega]
      refine listTo_none p (64 * k + t) (m - t) (fun j hj => ?_)
      have h5 := hb (t + j)
      rw [h3 (t + j) (by omega), wordOf_test] at h5
      have h6 : t + j < 64 := by omega
      simp [h6] at h5
      rw [Nat.add_assoc]; exact h5
    rw [this]
end Go.Proofs.YtckjgefpelnkoaaDoor.SetPlain
