/-
  Sets of numbers as words of 64 bits: the plain laws. No program in sight.
-/
set_option linter.unusedVariables false
set_option linter.unusedSimpArgs false
set_option linter.unnecessarySimpa false
namespace Go.Proofs.YtaabmkebbnkonaaDoor.SetPlain

/-- How many of the first n are so. -/
def cnt (p : Nat → Bool) : Nat → Nat
  | 0 => 0
  | n + 1 => cnt p n + if p n then 1 else 0
theorem cnt_le (p : Nat → Bool) : ∀ n, cnt p n ≤ n
  | 0 => Nat.le_refl _
  | n + 1 => by have := cnt_le p n; unfold cnt; split <;> omega
theorem cnt_congr {p q : Nat → Bool} : ∀ n, (∀ j, j < n → p j = q j) → cnt p n = cnt q n
  | 0, _ => rfl
  | n + 1, h => by unfold cnt; rw [cnt_congr n (fun j hj => h j (by omega)), h n (by omega)]
theorem cnt_add (p : Nat → Bool) (a : Nat) : ∀ b, cnt p (a + b) = cnt p a + cnt (fun j => p (a + j)) b
  | 0 => rfl
  | b + 1 => by
    show cnt p (a + b) + (if p (a + b) then 1 else 0) = cnt p a + (cnt (fun j => p (a + j)) b + if p (a + b) then 1 else 0)
    rw [cnt_add p a b, Nat.add_assoc]
theorem cnt_none (p : Nat → Bool) : ∀ n, (∀ j, j < n → p j = false) → cnt p n = 0
  | 0, _ => rfl
  | n + 1, h => by unfold cnt; rw [cnt_none p n (fun j hj => h j (by omega)), h n (by omega)]; rfl
theorem cnt_zero {p : Nat → Bool} : ∀ n, cnt p n = 0 → ∀ j, j < n → p j = false
  | 0, _, j, h => absurd h (Nat.not_lt_zero _)
  | n + 1, h, j, hj => by
    unfold cnt at h
    rcases Nat.lt_or_ge j n with h1 | h1
    · exact cnt_zero n (by omega) j h1
    · obtain rfl : j = n := by omega
      cases hp : p j with
      | false => rfl
      | true => rw [hp] at h; simp at h

/-- A number out of truths. -/
def ofBits (p : Nat → Bool) : Nat → Nat
  | 0 => 0
  | k + 1 => ofBits p k + if p k then 2 ^ k else 0
theorem ofBits_lt (p : Nat → Bool) : ∀ k, ofBits p k < 2 ^ k
  | 0 => by simp [ofBits]
  | k + 1 => by have := ofBits_lt p k; unfold ofBits; rw [Nat.pow_succ]; split <;> omega
theorem ofBits_test (p : Nat → Bool) : ∀ k x, (ofBits p k).testBit x = (decide (x < k) && p x)
  | 0, x => by simp [ofBits]
  | k + 1, x => by
    have hlt := ofBits_lt p k
    have ih := ofBits_test p k x
    unfold ofBits
    by_cases hb : p k = true
    · rw [if_pos hb, Nat.add_comm]
      rcases Nat.lt_trichotomy x k with h1 | h1 | h1
      · rw [Nat.testBit_two_pow_add_gt h1, ih]
        simp [h1, Nat.lt_succ_of_lt h1]
      · subst h1
        rw [Nat.testBit_two_pow_add_eq, Nat.testBit_lt_two_pow hlt, hb]; simp
      · have : 2 ^ k + ofBits p k < 2 ^ (k + 1) := by rw [Nat.pow_succ]; omega
        rw [Nat.testBit_lt_two_pow (Nat.lt_of_lt_of_le this (Nat.pow_le_pow_right (by decide) h1))]
        simp; omega
    · rw [if_neg hb, Nat.add_zero, ih]
      rcases Nat.lt_trichotomy x k with h1 | h1 | h1
      · simp [h1, Nat.lt_succ_of_lt h1]
      · subst h1; simp [hb]
      · have h2 : ¬ x < k := by omega
        have h3 : ¬ x < k + 1 := by omega
        simp [h2, h3]
theorem ofBits_congr {p q : Nat → Bool} : ∀ n, (∀ j, j < n → p j = q j) → ofBits p n = ofBits q n
  | 0, _ => rfl
  | n + 1, h => by unfold ofBits; rw [ofBits_congr n (fun j hj => h j (by omega)), h n (by omega)]
theorem ofBits_eq {x k : Nat} {p : Nat → Bool} (hx : x < 2 ^ k) (h : ∀ j, j < k → x.testBit j = p j) : x = ofBits p k := by
  apply Nat.eq_of_testBit_eq
  intro j
  rw [ofBits_test]
  rcases Nat.lt_or_ge j k with h1 | h1
  · rw [h j h1]; simp [h1]
  · rw [Nat.testBit_lt_two_pow (Nat.lt_of_lt_of_le hx (Nat.pow_le_pow_right (by decide) h1))]
    simp; omega

/-- The word of number k. -/
def wordOf (p : Nat → Bool) (k : Nat) : Nat := ofBits (fun j => p (64 * k + j)) 64
theorem wordOf_lt (p : Nat → Bool) (k : Nat) : wordOf p k < 18446744073709551616 := ofBits_lt _ 64
theorem wordOf_test (p : Nat → Bool) (k j : Nat) : (wordOf p k).testBit j = (decide (j < 64) && p (64 * k + j)) := ofBits_test _ _ _
theorem wordOf_congr {p q : Nat → Bool} {k : Nat} (h : ∀ j, j < 64 → p (64 * k + j) = q (64 * k + j)) : wordOf p k = wordOf q k := ofBits_congr _ h
theorem wordOf_bit (p : Nat → Bool) (c : Nat) : (wordOf p (c / 64)).testBit (c % 64) = p c := by
  rw [wordOf_test]
  have h1 : c % 64 < 64 := Nat.mod_lt _ (by decide)
  have h2 : 64 * (c / 64) + c % 64 = c := Nat.div_add_mod c 64
  rw [h2]; simp [h1]
def upd (p : Nat → Bool) (c : Nat) : Nat → Bool := fun j => decide (j = c) || p j
theorem wordOf_set (p : Nat → Bool) (c : Nat) : wordOf p (c / 64) ||| 2 ^ (c % 64) = wordOf (upd p c) (c / 64) := by
  have h1 : c % 64 < 64 := Nat.mod_lt _ (by decide)
  have h2 : 64 * (c / 64) + c % 64 = c := Nat.div_add_mod c 64
  apply ofBits_eq
  · refine Nat.or_lt_two_pow (ofBits_lt _ _) ?_
    exact Nat.pow_lt_pow_right (by decide) h1
  · intro j hj
    rw [Nat.testBit_or, wordOf_test, Nat.testBit_two_pow]
    unfold upd
    by_cases hjc : c % 64 = j
    · subst hjc; simp [h2, hj]
    · have : ¬ 64 * (c / 64) + j = c := by omega
      simp [hjc, this, hj]
theorem wordOf_other (p : Nat → Bool) (c k : Nat) (hk : k ≠ c / 64) : wordOf (upd p c) k = wordOf p k :=
  wordOf_congr fun j hj => by
    unfold upd
    have : ¬ 64 * k + j = c := by omega
    simp [this]
theorem wordOf_zero (p : Nat → Bool) (k : Nat) : wordOf p k = 0 ↔ ∀ j, j < 64 → p (64 * k + j) = false := by
  constructor
  · intro h j hj
    have := wordOf_test p k j
    rw [h] at this
    simpa [hj] using this.symm
  · intro h
    exact (ofBits_eq (x := 0) (by decide) (fun j hj => by rw [h j hj]; simp)).symm

/-- How many words for so many numbers. -/
def wordsOf (C : Nat) : Nat := (C + 63) / 64
theorem wordsOf_le (C : Nat) : C ≤ 64 * wordsOf C := by unfold wordsOf; omega
theorem wordsOf_lt (C c : Nat) (h : c < C) : c / 64 < wordsOf C := by unfold wordsOf; omega

/-- Is each of the first n also there? Is one of them? -/
def allIn (p q : Nat → Bool) : Nat → Bool
  | 0 => true
  | n + 1 => allIn p q n && (!p n || q n)
def anyIn (p q : Nat → Bool) : Nat → Bool
  | 0 => false
  | n + 1 => anyIn p q n || (p n && q n)
theorem allIn_iff (p q : Nat → Bool) : ∀ n, allIn p q n = true ↔ ∀ j, j < n → p j = true → q j = true
  | 0 => ⟨fun _ j h => absurd h (Nat.not_lt_zero _), fun _ => rfl⟩
  | n + 1 => by
    unfold allIn
    rw [Bool.and_eq_true, allIn_iff p q n]
    constructor
    · intro ⟨h1, h2⟩ j hj hp
      rcases Nat.lt_or_ge j n with h | h
      · exact h1 j h hp
      · obtain rfl : j = n := by omega
        simpa [hp] using h2
    · intro h
      refine ⟨fun j hj => h j (by omega), ?_⟩
      cases hp : p n with
      | false => rfl
      | true => simp [h n (by omega) hp]
theorem anyIn_iff (p q : Nat → Bool) : ∀ n, anyIn p q n = true ↔ ∃ j, j < n ∧ p j = true ∧ q j = true
  | 0 => ⟨fun h => (by cases h), fun ⟨j, h, _⟩ => absurd h (Nat.not_lt_zero _)⟩
  | n + 1 => by
    unfold anyIn
    rw [Bool.or_eq_true, anyIn_iff p q n, Bool.and_eq_true]
    constructor
    · rintro (⟨j, h1, h2⟩ | h)
      · exact ⟨j, by omega, h2⟩
      · exact ⟨n, by omega, h⟩
    · rintro ⟨j, h1, h2, h3⟩
      rcases Nat.lt_or_ge j n with h | h
      · exact .inl ⟨j, h, h2, h3⟩
      · obtain rfl : j = n := by omega
        exact .inr ⟨h2, h3⟩
theorem testBit_compl (b j : Nat) (hb : b < 18446744073709551616) (hj : j < 64) : (18446744073709551615 - b).testBit j = !b.testBit j := by
  have := Nat.testBit_two_pow_sub_succ (x := b) (n := 64) hb j
  rw [show (2 : Nat) ^ 64 - (b + 1) = 18446744073709551615 - b from by omega] at this
  rw [this]; simp [hj]
/-- What of a word isn't in another one. -/
theorem word_less (p q : Nat → Bool) (k : Nat) : (wordOf p k &&& (18446744073709551615 - wordOf q k) = 0) ↔ ∀ j, j < 64 → p (64 * k + j) = true → q (64 * k + j) = true := by
  constructor
  · intro h j hj hp
    have h1 : (wordOf p k &&& (18446744073709551615 - wordOf q k)).testBit j = false := by rw [h]; simp
    rw [Nat.testBit_and, testBit_compl _ _ (wordOf_lt q k) hj, wordOf_test, wordOf_test] at h1
    simpa [hj, hp] using h1
  · intro h
    apply Nat.eq_of_testBit_eq
    intro j
    rw [Nat.zero_testBit, Nat.testBit_and, wordOf_test]
    rcases Nat.lt_or_ge j 64 with hj | hj
    · rw [testBit_compl _ _ (wordOf_lt q k) hj, wordOf_test]
      cases hp : p (64 * k + j) with
      | false => simp
      | true => simp [hj, h j hj hp]
    · have : ¬ j < 64 := by omega
      simp [this]
theorem word_meet (p q : Nat → Bool) (k : Nat) : (wordOf p k &&& wordOf q k = 0) ↔ ∀ j, j < 64 → ¬ (p (64 * k + j) = true ∧ q (64 * k + j) = true) := by
  constructor
  · intro h j hj ⟨hp, hq⟩
    have h1 : (wordOf p k &&& wordOf q k).testBit j = false := by rw [h]; simp
    rw [Nat.testBit_and, wordOf_test, wordOf_test] at h1
    simp [hj, hp, hq] at h1
  · intro h
    apply Nat.eq_of_testBit_eq
    intro j
    rw [Nat.zero_testBit, Nat.testBit_and, wordOf_test, wordOf_test]
    rcases Nat.lt_or_ge j 64 with hj | hj
    · have := h j hj
      cases hp : p (64 * k + j) <;> cases hq : q (64 * k + j) <;> simp_all
    · have : ¬ j < 64 := by omega
      simp [this]

/-! How many bits a word has. -/
/-- Digits to a base, the least first. -/
def val (B : Nat) : Nat → (Nat → Nat) → Nat
  | 0, _ => 0
  | n + 1, f => f 0 + B * val B n (fun i => f (i + 1))
theorem val_congr {B : Nat} : ∀ (n : Nat) {f g : Nat → Nat}, (∀ i, i < n → f i = g i) → val B n f = val B n g
  | 0, _, _, _ => rfl
  | n + 1, f, g, h => by unfold val; rw [h 0 (by omega), val_congr n (fun i hi => h (i + 1) (by omega))]
theorem val_add {B : Nat} : ∀ (n : Nat) (f g : Nat → Nat), val B n f + val B n g = val B n (fun i => f i + g i)
  | 0, _, _ => rfl
  | n + 1, f, g => by
    show (f 0 + B * val B n (fun i => f (i + 1))) + (g 0 + B * val B n (fun i => g (i + 1))) = (f 0 + g 0) + B * val B n (fun i => f (i + 1) + g (i + 1))
    rw [← val_add n (fun i => f (i + 1)) (fun i => g (i + 1)), Nat.mul_add]
    omega
theorem val_lt {B : Nat} (hB : 0 < B) : ∀ (n : Nat) (f : Nat → Nat), (∀ i, i < n → f i < B) → val B n f < B ^ n
  | 0, _, _ => by simp [val]
  | n + 1, f, h => by
    have h1 := val_lt hB n (fun i => f (i + 1)) (fun i hi => h (i + 1) (by omega))
    have h2 := h 0 (by omega)
    unfold val
    rw [Nat.pow_succ, Nat.mul_comm (B ^ n) B]
    have : B * (val B n (fun i => f (i + 1)) + 1) ≤ B * B ^ n := Nat.mul_le_mul_left _ h1
    rw [Nat.mul_add] at this
    omega
theorem val_top {B : Nat} : ∀ (n : Nat) (f : Nat → Nat), f n = 0 → val B (n + 1) f = val B n f
  | 0, f, h => by simp [val, h]
  | n + 1, f, h => by
    have := val_top (B := B) n (fun i => f (i + 1)) h
    show f 0 + B * val B (n + 1) (fun i => f (i + 1)) = f 0 + B * val B n (fun i => f (i + 1))
    rw [this]
theorem val_div {B : Nat} (hB : 0 < B) (n : Nat) (f : Nat → Nat) (h0 : f 0 < B) (ht : f n = 0) (hn : 0 < n) : val B n f / B = val B n (fun i => f (i + 1)) := by
  obtain ⟨m, rfl⟩ : ∃ m, n = m + 1 := ⟨n - 1, by omega⟩
  rw [val_top m (fun i => f (i + 1)) ht]
  show (f 0 + B * val B m (fun i => f (i + 1))) / B = _
  rw [Nat.add_mul_div_left _ _ hB, Nat.div_eq_of_lt h0, Nat.zero_add]
theorem and_parts (k a b c d : Nat) (ha : a < 2 ^ k) (hc : c < 2 ^ k) : (a + 2 ^ k * b) &&& (c + 2 ^ k * d) = (a &&& c) + 2 ^ k * (b &&& d) := by
  apply Nat.eq_of_testBit_eq
  intro j
  have hac : (a &&& c) < 2 ^ k := Nat.lt_of_le_of_lt Nat.and_le_left ha
  rw [Nat.add_comm a, Nat.add_comm c, Nat.add_comm (a &&& c)]
  rw [Nat.testBit_and, Nat.testBit_two_pow_mul_add _ ha, Nat.testBit_two_pow_mul_add _ hc, Nat.testBit_two_pow_mul_add _ hac]
  split
  · rw [Nat.testBit_and]
  · rw [Nat.testBit_and]
/-- Every second digit. -/
theorem val_mask (m : Nat) (B : Nat) (hB : B = 2 ^ m) : ∀ (n : Nat) (f : Nat → Nat), (∀ i, i < 2 * n → f i < B) → val B (2 * n) f &&& val (B * B) n (fun _ => B - 1) = val (B * B) n (fun i => f (2 * i))
  | 0, f, _ => by simp [val]
  | n + 1, f, h => by
    have ih := val_mask m B hB n (fun i => f (i + 2)) (fun i hi => h (i + 2) (by omega))
    have h0 := h 0 (by omega)
    have h1 := h 1 (by omega)
    have hB0 : 0 < B := by omega
    have e1 : val B (2 * (n + 1)) f = (f 0 + B * f 1) + B * B * val B (2 * n) (fun i => f (i + 2)) := by
      show val B (2 * n + 1 + 1) f = _
      show f 0 + B * (f 1 + B * val B (2 * n) (fun i => f (i + 2))) = _
      rw [Nat.mul_add, Nat.mul_assoc]; omega
    have e2 : val (B * B) (n + 1) (fun _ => B - 1) = (B - 1) + B * B * val (B * B) n (fun _ => B - 1) := rfl
    have hlt : f 0 + B * f 1 < B * B := by
      have : B * (f 1 + 1) ≤ B * B := Nat.mul_le_mul_left _ h1
      rw [Nat.mul_add] at this
      omega
    have hlt2 : B - 1 < B * B := by
      have : B * 1 ≤ B * B := Nat.mul_le_mul_left _ (by omega)
      omega
    rw [e1, e2]
    have hBB : B * B = 2 ^ (2 * m) := by rw [hB, ← Nat.pow_add]; congr 1; omega
    rw [hBB, and_parts (2 * m) _ _ _ _ (by rw [← hBB]; exact hlt) (by rw [← hBB]; exact hlt2), ← hBB, ih]
    have e3 : (f 0 + B * f 1) &&& (B - 1) = f 0 := by
      rw [hB, Nat.and_two_pow_sub_one_eq_mod, ← hB, Nat.add_mul_mod_self_left, Nat.mod_eq_of_lt h0]
    rw [e3]
    show f 0 + B * B * val (B * B) n (fun i => f (2 * i + 2)) = f (2 * 0) + B * B * val (B * B) n (fun i => f (2 * (i + 1)))
    rfl
theorem val_bits : ∀ (n x : Nat), val 2 n (fun i => (x.testBit i).toNat) = x % 2 ^ n
  | 0, x => by simp [val, Nat.mod_one]
  | n + 1, x => by
    unfold val
    have : (fun i => (x.testBit (i + 1)).toNat) = fun i => ((x / 2).testBit i).toNat := by
      funext i
      rw [Nat.testBit_succ]
    rw [this, val_bits n (x / 2), Nat.pow_succ, Nat.mul_comm (2 ^ n) 2, Nat.mod_mul]
    show (x.testBit 0).toNat + _ = _
    rw [Nat.testBit_zero]
    have h2 : x % 2 = 0 ∨ x % 2 = 1 := by omega
    rcases h2 with h | h <;> simp [h]

/-- The bits of a word, counted by halves. -/
def swar (x : Nat) : Nat :=
  let s1 := (x / 2 &&& 6148914691236517205) + (x &&& 6148914691236517205)
  let s2 := (s1 / 4 &&& 3689348814741910323) + (s1 &&& 3689348814741910323)
  let s3 := (s2 / 16 + s2) &&& 1085102592571150095
  let s4 := s3 + s3 / 256
  let s5 := s4 + s4 / 65536
  let s6 := s5 + s5 / 4294967296
  s6 &&& 127

theorem val_le {B : Nat} {n : Nat} {f : Nat → Nat} (h : ∀ i, n ≤ i → f i = 0) : ∀ i, n ≤ i → f i = 0 := h
/-- One step: pairs of digits. -/
theorem swar_pair (m B n k : Nat) (hB : B = 2 ^ m) (hn : 0 < n) (f : Nat → Nat) (hf : ∀ i, f i < B) (ht : f (2 * n) = 0) (M : Nat) (hM : M = val (B * B) n (fun _ => B - 1)) (X : Nat) (hX : X = val B (2 * n) f) :
    (X / B &&& M) + (X &&& M) = val (B * B) n (fun i => f (2 * i + 1) + f (2 * i)) := by
  have hB0 : 0 < B := Nat.lt_of_le_of_lt (Nat.zero_le _) (hf 0)
  subst hM; subst hX
  rw [val_div hB0 (2 * n) f (hf 0) ht (by omega), val_mask m B hB n _ (fun i _ => hf (i + 1)), val_mask m B hB n _ (fun i _ => hf i), val_add]
/-- The same, the sum ahead of the mask. -/
theorem swar_pair' (m B n : Nat) (hB : B = 2 ^ m) (hn : 0 < n) (f : Nat → Nat) (hf : ∀ i, f i < B) (hs : ∀ i, f (i + 1) + f i < B) (ht : f (2 * n) = 0) (M : Nat) (hM : M = val (B * B) n (fun _ => B - 1)) (X : Nat) (hX : X = val B (2 * n) f) :
    (X / B + X) &&& M = val (B * B) n (fun i => f (2 * i + 1) + f (2 * i)) := by
  have hB0 : 0 < B := Nat.lt_of_le_of_lt (Nat.zero_le _) (hf 0)
  subst hM; subst hX
  rw [val_div hB0 (2 * n) f (hf 0) ht (by omega), val_add, val_mask m B hB n _ (fun i _ => hs i)]
theorem val_shift {B : Nat} (hB : 0 < B) (n : Nat) (hn : 0 < n) : ∀ (k : Nat) (f : Nat → Nat), (∀ i, f i < B) → (∀ i, n ≤ i → f i = 0) → val B n f / B ^ k = val B n (fun i => f (i + k))
  | 0, f, _, _ => by simp
  | k + 1, f, h, h0 => by
    rw [Nat.pow_succ, ← Nat.div_div_eq_div_mul, val_shift hB n hn k f h h0]
    have hd := val_div hB n (fun i => f (i + k)) (h (0 + k)) (h0 (n + k) (by omega)) hn
    rw [hd]
    apply val_congr
    intro i _
    congr 1; omega
theorem swar_cnt (x : Nat) (hx : x < 18446744073709551616) : swar x = cnt (fun j => x.testBit j) 64 := by
  obtain ⟨b, hb⟩ : ∃ b : Nat → Nat, b = fun i => (x.testBit i).toNat := ⟨_, rfl⟩
  have hb1 : ∀ i, b i < 2 := fun i => by rw [hb]; exact Bool.toNat_lt _
  have hb0 : ∀ i, 64 ≤ i → b i = 0 := fun i hi => by
    rw [hb]
    have : x.testBit i = false := Nat.testBit_lt_two_pow (Nat.lt_of_lt_of_le (show x < 2 ^ 64 from hx) (Nat.pow_le_pow_right (by decide) hi))
    simp [this]
  have hxv : x = val 2 (2 * 32) b := by rw [hb]; exact (val_bits 64 x).symm ▸ (Nat.mod_eq_of_lt hx).symm
  obtain ⟨c1, hc1⟩ : ∃ c1 : Nat → Nat, c1 = fun i => b (2 * i + 1) + b (2 * i) := ⟨_, rfl⟩
  have s1 : (x / 2 &&& 6148914691236517205) + (x &&& 6148914691236517205) = val 4 (2 * 16) c1 := by
    rw [hc1]; exact swar_pair 1 2 32 0 (by decide) (by decide) b hb1 (hb0 _ (by decide)) _ (by decide) x hxv
  have h1 : ∀ i, c1 i ≤ 2 := fun i => by rw [hc1]; have := hb1 (2 * i + 1); have := hb1 (2 * i); show b (2 * i + 1) + b (2 * i) ≤ 2; omega
  have z1 : ∀ i, 32 ≤ i → c1 i = 0 := fun i hi => by rw [hc1]; show b (2 * i + 1) + b (2 * i) = 0; rw [hb0 _ (by omega), hb0 _ (by omega)]
  obtain ⟨c2, hc2⟩ : ∃ c2 : Nat → Nat, c2 = fun i => c1 (2 * i + 1) + c1 (2 * i) := ⟨_, rfl⟩
  have s2 : (val 4 (2 * 16) c1 / 4 &&& 3689348814741910323) + (val 4 (2 * 16) c1 &&& 3689348814741910323) = val 16 (2 * 8) c2 := by
    rw [hc2]; exact swar_pair 2 4 16 0 (by decide) (by decide) c1 (fun i => Nat.lt_of_le_of_lt (h1 i) (by decide)) (z1 _ (by decide)) _ (by decide) _ rfl
  have h2 : ∀ i, c2 i ≤ 4 := fun i => by rw [hc2]; have := h1 (2 * i + 1); have := h1 (2 * i); show c1 (2 * i + 1) + c1 (2 * i) ≤ 4; omega
  have z2 : ∀ i, 16 ≤ i → c2 i = 0 := fun i hi => by rw [hc2]; show c1 (2 * i + 1) + c1 (2 * i) = 0; rw [z1 _ (by omega), z1 _ (by omega)]
  obtain ⟨c3, hc3⟩ : ∃ c3 : Nat → Nat, c3 = fun i => c2 (2 * i + 1) + c2 (2 * i) := ⟨_, rfl⟩
  have s3 : (val 16 (2 * 8) c2 / 16 + val 16 (2 * 8) c2) &&& 1085102592571150095 = val 256 8 c3 := by
    rw [hc3]; exact swar_pair' 4 16 8 (by decide) (by decide) c2 (fun i => Nat.lt_of_le_of_lt (h2 i) (by decide)) (fun i => by have := h2 i; have := h2 (i + 1); omega) (z2 _ (by decide)) _ (by decide) _ rfl
  have h3 : ∀ i, c3 i ≤ 8 := fun i => by rw [hc3]; have := h2 (2 * i + 1); have := h2 (2 * i); show c2 (2 * i + 1) + c2 (2 * i) ≤ 8; omega
  have z3 : ∀ i, 8 ≤ i → c3 i = 0 := fun i hi => by rw [hc3]; show c2 (2 * i + 1) + c2 (2 * i) = 0; rw [z2 _ (by omega), z2 _ (by omega)]
  obtain ⟨d4, hd4⟩ : ∃ d : Nat → Nat, d = fun i => c3 i + c3 (i + 1) := ⟨_, rfl⟩
  have s4 : val 256 8 c3 + val 256 8 c3 / 256 = val 256 8 d4 := by
    rw [hd4, ← val_add, val_div (by decide) 8 c3 (Nat.lt_of_le_of_lt (h3 0) (by decide)) (z3 8 (by decide)) (by decide)]
  have h4 : ∀ i, d4 i ≤ 16 := fun i => by rw [hd4]; have := h3 i; have := h3 (i + 1); show c3 i + c3 (i + 1) ≤ 16; omega
  have z4 : ∀ i, 8 ≤ i → d4 i = 0 := fun i hi => by rw [hd4]; show c3 i + c3 (i + 1) = 0; rw [z3 _ (by omega), z3 _ (by omega)]
  obtain ⟨d5, hd5⟩ : ∃ d : Nat → Nat, d = fun i => d4 i + d4 (i + 2) := ⟨_, rfl⟩
  have s5 : val 256 8 d4 + val 256 8 d4 / 65536 = val 256 8 d5 := by
    rw [hd5, ← val_add]
    have := val_shift (B := 256) (by decide) 8 (by decide) 2 d4 (fun i => Nat.lt_of_le_of_lt (h4 i) (by decide)) z4
    rw [← this]
  have h5 : ∀ i, d5 i ≤ 32 := fun i => by rw [hd5]; have := h4 i; have := h4 (i + 2); show d4 i + d4 (i + 2) ≤ 32; omega
  have z5 : ∀ i, 8 ≤ i → d5 i = 0 := fun i hi => by rw [hd5]; show d4 i + d4 (i + 2) = 0; rw [z4 _ (by omega), z4 _ (by omega)]
  have s6 : val 256 8 d5 + val 256 8 d5 / 4294967296 = val 256 8 (fun i => d5 i + d5 (i + 4)) := by
    rw [← val_add]
    have := val_shift (B := 256) (by decide) 8 (by decide) 4 d5 (fun i => Nat.lt_of_le_of_lt (h5 i) (by decide)) z5
    rw [← this]
  unfold swar
  simp only []
  rw [s1, s2, s3, s4, s5, s6]
  rw [show (127 : Nat) = 2 ^ 7 - 1 from rfl, Nat.and_two_pow_sub_one_eq_mod]
  show ((d5 0 + d5 (0 + 4)) + 256 * val 256 7 (fun i => d5 (i + 1) + d5 (i + 1 + 4))) % 128 = _
  have hd : d5 0 + d5 (0 + 4) ≤ 64 := by have := h5 0; have := h5 (0 + 4); omega
  rw [show 256 * val 256 7 (fun i => d5 (i + 1) + d5 (i + 1 + 4)) = 128 * (2 * val 256 7 (fun i => d5 (i + 1) + d5 (i + 1 + 4))) from by omega, Nat.add_mul_mod_self_left, Nat.mod_eq_of_lt (by omega)]
  have hc : cnt (fun j => x.testBit j) 64 = cnt (fun j => decide (b j = 1)) 64 := cnt_congr _ fun j _ => by rw [hb]; show x.testBit j = decide ((x.testBit j).toNat = 1); cases x.testBit j <;> rfl
  have hbi : ∀ j, (if (decide (b j = 1)) = true then 1 else 0) = b j := fun j => by have := hb1 j; by_cases h : b j = 1 <;> simp [h]; omega
  rw [hc]
  simp only [cnt, hbi]
  simp only [hd5, hd4, hc3, hc2, hc1]
  simp only [Nat.reduceMul, Nat.reduceAdd]
  omega

theorem cnt_out {p : Nat → Bool} {C N : Nat} (h : C ≤ N) (ho : ∀ c, C ≤ c → p c = false) : cnt p N = cnt p C := by
  obtain ⟨d, rfl⟩ : ∃ d, N = C + d := ⟨N - C, by omega⟩
  rw [cnt_add, cnt_none _ d (fun j _ => ho _ (by omega))]
  rfl
theorem cnt_word (p : Nat → Bool) (k : Nat) : cnt p (64 * (k + 1)) = cnt p (64 * k) + cnt (fun j => (wordOf p k).testBit j) 64 := by
  rw [show 64 * (k + 1) = 64 * k + 64 from by omega, cnt_add]
  congr 1
  exact cnt_congr _ fun j hj => by rw [wordOf_test]; simp [hj]
theorem allIn_out {p q : Nat → Bool} {C N : Nat} (h : C ≤ N) (ho : ∀ c, C ≤ c → p c = false) : allIn p q N = allIn p q C := by
  rw [Bool.eq_iff_iff, allIn_iff, allIn_iff]
  constructor
  · intro g j hj; exact g j (by omega)
  · intro g j hj hp
    rcases Nat.lt_or_ge j C with h1 | h1
    · exact g j h1 hp
    · rw [ho j h1] at hp; cases hp
theorem allIn_next {p q : Nat → Bool} {k : Nat} (h : allIn p q (64 * k) = true) (hw : ∀ j, j < 64 → p (64 * k + j) = true → q (64 * k + j) = true) : allIn p q (64 * (k + 1)) = true := by
  rw [allIn_iff] at h ⊢
  intro j hj hp
  rcases Nat.lt_or_ge j (64 * k) with h1 | h1
  · exact h j h1 hp
  · obtain ⟨d, rfl⟩ : ∃ d, j = 64 * k + d := ⟨j - 64 * k, by omega⟩
    exact hw d (by omega) hp
theorem allIn_not {p q : Nat → Bool} {k C : Nat} (ho : ∀ c, C ≤ c → p c = false) (hw : ¬ ∀ j, j < 64 → p (64 * k + j) = true → q (64 * k + j) = true) : allIn p q C = false := by
  cases h : allIn p q C with
  | false => rfl
  | true =>
    rw [allIn_iff] at h
    refine absurd (fun j _ hp => h (64 * k + j) ?_ hp) hw
    rcases Nat.lt_or_ge (64 * k + j) C with h1 | h1
    · exact h1
    · rw [ho _ h1] at hp; cases hp
theorem anyIn_out {p q : Nat → Bool} {C N : Nat} (h : C ≤ N) (ho : ∀ c, C ≤ c → p c = false) : anyIn p q N = anyIn p q C := by
  rw [Bool.eq_iff_iff, anyIn_iff, anyIn_iff]
  constructor
  · rintro ⟨j, hj, hp, hq⟩
    rcases Nat.lt_or_ge j C with h1 | h1
    · exact ⟨j, h1, hp, hq⟩
    · rw [ho j h1] at hp; cases hp
  · rintro ⟨j, hj, hp, hq⟩; exact ⟨j, by omega, hp, hq⟩
theorem anyIn_next {p q : Nat → Bool} {k : Nat} (h : anyIn p q (64 * k) = false) (hw : ∀ j, j < 64 → ¬ (p (64 * k + j) = true ∧ q (64 * k + j) = true)) : anyIn p q (64 * (k + 1)) = false := by
  cases h2 : anyIn p q (64 * (k + 1)) with
  | false => rfl
  | true =>
    obtain ⟨j, hj, hp⟩ := (anyIn_iff _ _ _).1 h2
    rcases Nat.lt_or_ge j (64 * k) with h1 | h1
    · rw [(anyIn_iff p q (64 * k)).2 ⟨j, h1, hp⟩] at h; cases h
    · obtain ⟨d, rfl⟩ : ∃ d, j = 64 * k + d := ⟨j - 64 * k, by omega⟩
      exact absurd hp (hw d (by omega))
theorem anyIn_yes {p q : Nat → Bool} {k C : Nat} (ho : ∀ c, C ≤ c → p c = false) (hw : ¬ ∀ j, j < 64 → ¬ (p (64 * k + j) = true ∧ q (64 * k + j) = true)) : anyIn p q C = true := by
  cases h : anyIn p q C with
  | true => rfl
  | false =>
    refine absurd (fun j _ hp => ?_) hw
    have h1 : 64 * k + j < C := by
      rcases Nat.lt_or_ge (64 * k + j) C with h1 | h1
      · exact h1
      · rw [ho _ h1] at hp; cases hp.1
    rw [(anyIn_iff p q C).2 ⟨_, h1, hp⟩] at h; cases h
end Go.Proofs.YtaabmkebbnkonaaDoor.SetPlain
