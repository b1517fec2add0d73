/-
  Rows of numbers that are orders: each number below so many once. No program in sight.
-/
import Derived.Test.YtloidoekmicloaaKit
set_option linter.unusedVariables false
set_option linter.unusedSimpArgs false
set_option linter.unnecessarySimpa false
namespace Go.Proofs.Ytloidoekmicloaa
/-- May a row be an order of so many? -/
def ordB (n : Int) (l : List Int) : Bool := decide (0 ≤ n ∧ n ≤ 61 ∧ (l.length : Int) = n ∧ (∀ x, x ∈ l → 0 ≤ x ∧ x < n) ∧ l.Nodup)
theorem ordB_iff {n : Int} {l : List Int} : ordB n l = true ↔ 0 ≤ n ∧ n ≤ 61 ∧ (l.length : Int) = n ∧ (∀ x, x ∈ l → 0 ≤ x ∧ x < n) ∧ l.Nodup := by simp [ordB]
theorem ordB_not {n : Int} {l : List Int} (h : ¬ (0 ≤ n ∧ n ≤ 61 ∧ (l.length : Int) = n ∧ (∀ x, x ∈ l → 0 ≤ x ∧ x < n) ∧ l.Nodup)) : ordB n l = false := by
  cases e : ordB n l with
  | false => rfl
  | true => exact absurd (ordB_iff.1 e) h
def sumC (l : List Int) : Nat → Nat
  | 0 => 0
  | k + 1 => sumC l k + l.count (k : Int)
theorem sumC_nil : ∀ k, sumC [] k = 0
  | 0 => rfl
  | k + 1 => by unfold sumC; rw [sumC_nil k]; rfl
theorem sumC_cons (x : Int) (l : List Int) : ∀ k : Nat, sumC (x :: l) k = sumC l k + (if 0 ≤ x ∧ x < k then 1 else 0)
  | 0 => by unfold sumC; rw [if_neg (by omega)]
  | k + 1 => by
    unfold sumC
    rw [sumC_cons x l k, List.count_cons]
    have hb : (x == (k : Int)) = decide (x = (k : Int)) := rfl
    rw [hb]
    by_cases e : x = (k : Int)
    · have h1 : ¬ (0 ≤ x ∧ x < (k : Int)) := by omega
      have h2 : 0 ≤ x ∧ x < ((k + 1 : Nat) : Int) := by omega
      rw [if_neg h1, if_pos h2, decide_eq_true e, if_pos rfl]; omega
    · rw [decide_eq_false e, if_neg (show ¬ (false = true) by decide)]
      by_cases h : 0 ≤ x ∧ x < (k : Int)
      · have h2 : 0 ≤ x ∧ x < ((k + 1 : Nat) : Int) := by omega
        rw [if_pos h, if_pos h2]; omega
      · have h2 : ¬ (0 ≤ x ∧ x < ((k + 1 : Nat) : Int)) := by omega
        rw [if_neg h, if_neg h2]; omega
theorem sumC_le (l : List Int) (k : Nat) : sumC l k ≤ l.length ∧ (sumC l k = l.length → ∀ x, x ∈ l → 0 ≤ x ∧ x < k) := by
  induction l with
  | nil => exact ⟨by rw [sumC_nil]; exact Nat.zero_le _, fun _ x hx => by cases hx⟩
  | cons y l ih =>
    rw [sumC_cons, List.length_cons]
    by_cases h : 0 ≤ y ∧ y < k
    · rw [if_pos h]
      refine ⟨by omega, fun e x hx => ?_⟩
      rcases List.mem_cons.1 hx with rfl | hx
      · exact h
      · exact ih.2 (by omega) x hx
    · rw [if_neg h]
      exact ⟨by omega, fun e => by omega⟩
theorem sumC_all {l : List Int} {k : Nat} (h : ∀ x, x ∈ l → 0 ≤ x ∧ x < k) : sumC l k = l.length := by
  induction l with
  | nil => exact sumC_nil k
  | cons y l ih => rw [sumC_cons, if_pos (h y (by simp)), ih (fun x hx => h x (by simp [hx])), List.length_cons]
theorem sumC_one {l : List Int} : ∀ {k : Nat}, (∀ j : Nat, j < k → l.count (j : Int) = 1) → sumC l k = k
  | 0, _ => rfl
  | k + 1, h => by
    unfold sumC
    rw [sumC_one (fun j hj => h j (by omega)), h k (Nat.lt_succ_self k)]
theorem sumC_few {l : List Int} (h1 : ∀ x, l.count x ≤ 1) : ∀ {k : Nat}, sumC l k ≤ k ∧ (sumC l k = k → ∀ j : Nat, j < k → l.count (j : Int) = 1)
  | 0 => ⟨Nat.le_refl _, fun _ j hj => absurd hj (Nat.not_lt_zero _)⟩
  | k + 1 => by
    obtain ⟨a, b⟩ := sumC_few h1 (k := k)
    have c := h1 (k : Int)
    unfold sumC
    refine ⟨by omega, fun e j hj => ?_⟩
    rcases Nat.lt_or_ge j k with hl | hl
    · exact b (by omega) j hl
    · obtain rfl : j = k := by omega
      omega
theorem nodup_count {l : List Int} (h : l.Nodup) (x : Int) : l.count x ≤ 1 := by
  induction l with
  | nil => simp
  | cons y l ih =>
    rw [List.nodup_cons] at h
    rw [List.count_cons]
    by_cases e : y = x
    · subst e
      rw [List.count_eq_zero.2 h.1, if_pos (by simp)]; omega
    · rw [if_neg (by simpa using e)]
      have := ih h.2
      omega
theorem nodup_of_count {l : List Int} (h : ∀ x, x ∈ l → l.count x ≤ 1) : l.Nodup := by
  induction l with
  | nil => exact List.nodup_nil
  | cons y l ih =>
    rw [List.nodup_cons]
    refine ⟨fun hm => ?_, ih (fun x hx => ?_)⟩
    · have h1 := h y (by simp)
      rw [List.count_cons, if_pos (by simp)] at h1
      have := List.count_pos_iff.2 hm
      omega
    · have h1 := h x (by simp [hx])
      rw [List.count_cons] at h1
      omega
/-- Each number below so many once. -/
theorem count_ord {n : Nat} {l : List Int} (hl : l.length = n) : (∀ k : Nat, k < n → l.count (k : Int) = 1) ↔ ((∀ x, x ∈ l → 0 ≤ x ∧ x < (n : Int)) ∧ l.Nodup) := by
  constructor
  · intro h
    have e := sumC_one h
    have hr := (sumC_le l n).2 (by omega)
    refine ⟨hr, nodup_of_count fun x hx => ?_⟩
    have := hr x hx
    have := h x.toNat (by omega)
    rw [Int.toNat_of_nonneg (by omega)] at this
    omega
  · rintro ⟨h1, h2⟩
    exact (sumC_few (nodup_count h2)).2 (by rw [sumC_all h1]; exact hl)
/-- Every number below so many stands somewhere. -/
theorem ord_onto {n : Nat} {l : List Int} (h : ordB n l = true) {k : Nat} (hk : k < n) : ∃ i : Nat, i < n ∧ l[i]? = some (k : Int) := by
  obtain ⟨_, _, h3, h4, h5⟩ := ordB_iff.1 h
  have hc := (count_ord (n := n) (l := l) (by omega)).2 ⟨h4, h5⟩ k hk
  have hm : (k : Int) ∈ l := List.count_pos_iff.1 (by omega)
  obtain ⟨i, hi, e⟩ := List.mem_iff_getElem.1 hm
  exact ⟨i, by omega, by rw [List.getElem?_eq_getElem hi, e]⟩
theorem ord_get {n : Nat} {l : List Int} (h : ordB n l = true) {i : Nat} (hi : i < n) : ∃ v : Nat, v < n ∧ l[i]? = some (v : Int) := by
  obtain ⟨_, _, h3, h4, h5⟩ := ordB_iff.1 h
  have hlt : i < l.length := by omega
  have := h4 l[i] (List.getElem_mem hlt)
  exact ⟨l[i].toNat, by omega, by rw [List.getElem?_eq_getElem hlt, Int.toNat_of_nonneg this.1]⟩
theorem nodup_get {l : List Int} (h : l.Nodup) {i j : Nat} {x : Int} (h1 : l[i]? = some x) (h2 : l[j]? = some x) : i = j := by
  have key : ∀ {a b : Nat}, a < b → l[a]? = some x → l[b]? = some x → False := fun {a b} hab ha hb => by
    obtain ⟨ha', ea⟩ := List.getElem?_eq_some_iff.1 ha
    obtain ⟨hb', eb⟩ := List.getElem?_eq_some_iff.1 hb
    have := List.pairwise_iff_getElem.1 h a b ha' hb' hab
    exact this (by rw [ea, eb])
  rcases Nat.lt_trichotomy i j with e | e | e
  · exact (key e h1 h2).elim
  · exact e
  · exact (key e h2 h1).elim
/-- What the look through a row knows. -/
structure Had (l : List Int) (n i M : Nat) : Prop where
  lt : M < 18446744073709551616
  rng : ∀ (j : Nat) (x : Int), j < i → l[j]? = some x → 0 ≤ x ∧ x < n
  bit : ∀ v : Nat, M.testBit v = true ↔ ∃ j : Nat, j < i ∧ l[j]? = some (v : Int)
  nd : ∀ (j h : Nat) (x : Int), j < h → h < i → l[j]? = some x → l[h]? ≠ some x
theorem Had.start (l : List Int) (n : Nat) : Had l n 0 0 :=
  ⟨by decide, fun j x h => absurd h (Nat.not_lt_zero _), fun v => by simp, fun j h x _ h2 => absurd h2 (Nat.not_lt_zero _)⟩
theorem Had.step {l : List Int} {n i M v : Nat} (h : Had l n i M) (hn : n ≤ 61) (hv : v < n) (hi : l[i]? = some (v : Int)) (hb : M.testBit v = false) : Had l n (i + 1) (M ||| 2 ^ v) := by
  have ht : ∀ x, (M ||| 2 ^ v).testBit x = (M.testBit x || decide (v = x)) := fun x => by rw [Nat.testBit_or, Nat.testBit_two_pow]
  refine ⟨?_, fun j x hj hx => ?_, fun x => ?_, fun j a x h1 h2 h3 h4 => ?_⟩
  · exact Nat.or_lt_two_pow (n := 64) h.lt (Nat.pow_lt_pow_right (by decide) (by omega))
  · rcases Nat.lt_or_ge j i with h1 | h1
    · exact h.rng j x h1 hx
    · obtain rfl : j = i := by omega
      rw [hi] at hx
      simp only [Option.some.injEq] at hx
      omega
  · rw [ht, Bool.or_eq_true, h.bit, decide_eq_true_eq]
    constructor
    · rintro (⟨j, a, b⟩ | rfl)
      · exact ⟨j, by omega, b⟩
      · exact ⟨i, Nat.lt_succ_self i, hi⟩
    · rintro ⟨j, a, b⟩
      rcases Nat.lt_or_ge j i with h1 | h1
      · exact .inl ⟨j, h1, b⟩
      · obtain rfl : j = i := by omega
        rw [hi] at b
        simp only [Option.some.injEq] at b
        exact .inr (by omega)
  · rcases Nat.lt_or_ge a i with h5 | h5
    · exact h.nd j a x h1 h5 h3 h4
    · obtain rfl : a = i := by omega
      rw [hi] at h4
      simp only [Option.some.injEq] at h4
      subst h4
      have := (h.bit v).2 ⟨j, h1, h3⟩
      rw [hb] at this
      cases this
theorem Had.done {l : List Int} {n M : Nat} (h : Had l n n M) (hn : n ≤ 61) (hl : l.length = n) : ordB n l = true := by
  rw [ordB_iff]
  refine ⟨by omega, by omega, by omega, fun x hx => ?_, List.pairwise_iff_getElem.2 fun i j hi hj hij e => ?_⟩
  · obtain ⟨i, hi, e⟩ := List.mem_iff_getElem.1 hx
    exact h.rng i x (by omega) (by rw [List.getElem?_eq_getElem hi, e])
  · exact h.nd i j l[i] hij (by omega) (List.getElem?_eq_getElem hi) (by rw [List.getElem?_eq_getElem hj, e])
theorem Had.dup {l : List Int} {n i M v : Nat} (h : Had l n i M) (hi : l[i]? = some (v : Int)) (hb : M.testBit v = true) : ordB n l = false := by
  obtain ⟨j, h1, h2⟩ := (h.bit v).1 hb
  refine ordB_not fun ⟨_, _, _, _, h5⟩ => ?_
  have := nodup_get h5 hi h2
  omega
theorem ord_out {l : List Int} {n : Int} {i : Nat} {x : Int} (hi : l[i]? = some x) (hx : ¬ (0 ≤ x ∧ x < n)) : ordB n l = false :=
  ordB_not fun ⟨_, _, _, h4, _⟩ => hx (h4 x (List.mem_of_getElem? hi))
theorem count_take {l : List Int} {j : Nat} {x : Int} (h : l[j]? = some x) (k : Int) : (l.take (j + 1)).count k = (l.take j).count k + (if x = k then 1 else 0) := by
  rw [List.take_add_one, h, Option.toList_some, List.count_append, List.count_cons, List.count_nil]
  by_cases e : x = k
  · rw [if_pos e, if_pos (by simpa using e)]
  · rw [if_neg e, if_neg (by simpa using e)]
theorem ord_once {n : Nat} {l : List Int} (hn : n ≤ 61) (hl : l.length = n) (h : ∀ k : Nat, k < n → l.count (k : Int) = 1) : ordB n l = true := by
  obtain ⟨a, b⟩ := (count_ord hl).1 h
  rw [ordB_iff]
  exact ⟨by omega, by omega, by omega, a, b⟩
theorem ord_not_once {n k : Nat} {l : List Int} (hl : l.length = n) (hk : k < n) (h : l.count (k : Int) ≠ 1) : ordB n l = false :=
  ordB_not fun ⟨_, _, _, h4, h5⟩ => h ((count_ord hl).2 ⟨h4, h5⟩ k hk)
/-- The bits of an order. -/
def bitsL (X : Nat) (l : List Int) : Nat → Nat
  | 0 => 0
  | i + 1 => bitsL X l i ||| (if X.testBit i then 2 ^ (l.getD i 0).toNat else 0)
theorem bitsL_lt (X : Nat) {l : List Int} (h : ∀ x, x ∈ l → 0 ≤ x ∧ x < 61) : ∀ i, bitsL X l i < 18446744073709551616
  | 0 => by show 0 < 18446744073709551616; decide
  | i + 1 => by
    unfold bitsL
    refine Nat.or_lt_two_pow (n := 64) (bitsL_lt X h i) ?_
    split
    · refine Nat.pow_lt_pow_right (by decide) ?_
      rcases Nat.lt_or_ge i l.length with hi | hi
      · rw [List.getD_eq_getElem?_getD, List.getElem?_eq_getElem hi]
        have := h l[i] (List.getElem_mem hi)
        show l[i].toNat < 64
        omega
      · rw [List.getD_eq_getElem?_getD, List.getElem?_eq_none hi]
        decide
    · decide
end Go.Proofs.Ytloidoekmicloaa
