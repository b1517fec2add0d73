/-
  The plain law of CacheSizes: how many of the numbers that were put are kept. No program in sight.
-/
namespace Go.Proofs.Ytmljmpjpdgijlaa.CachePlain

/-- Which numbers are in their places, behind k puts. -/
def putsTo (sl : Int → Nat) (Z : Nat → Int) : Nat → (Nat → Option Int)
  | 0 => fun _ => none
  | k + 1 => fun i => if i = sl (Z k) then some (Z k) else putsTo sl Z k i
def twiceTo (Z : Nat → Int) (i : Nat) : Nat → Bool
  | 0 => false
  | j + 1 => twiceTo Z i j || Z j == Z i
def cntTo (sl : Int → Nat) (Z : Nat → Int) (m : Nat) : Nat → Nat
  | 0 => 0
  | i + 1 => cntTo sl Z m i + if putsTo sl Z m (sl (Z i)) = some (Z i) ∧ twiceTo Z i i = false then 1 else 0

theorem cntTo_le (sl : Int → Nat) (Z : Nat → Int) (m : Nat) : ∀ i, cntTo sl Z m i ≤ i
  | 0 => Nat.le_refl _
  | i + 1 => by have := cntTo_le sl Z m i; unfold cntTo; split <;> omega

theorem twice_false (Z : Nat → Int) (i : Nat) : ∀ j, twiceTo Z i j = false → ∀ a, a < j → Z a ≠ Z i
  | 0, _, a, ha => absurd ha (Nat.not_lt_zero _)
  | j + 1, h, a, ha => by
    simp only [twiceTo, Bool.or_eq_false_iff] at h
    rcases Nat.lt_or_ge a j with h1 | h1
    · exact twice_false Z i j h.1 a h1
    · obtain rfl : a = j := by omega
      simpa using h.2

/-- The counted ones, as a list of places. -/
def got (sl : Int → Nat) (Z : Nat → Int) (m : Nat) : Nat → List Nat
  | 0 => []
  | i + 1 => if putsTo sl Z m (sl (Z i)) = some (Z i) ∧ twiceTo Z i i = false then sl (Z i) :: got sl Z m i else got sl Z m i
theorem got_length (sl : Int → Nat) (Z : Nat → Int) (m : Nat) : ∀ i, (got sl Z m i).length = cntTo sl Z m i
  | 0 => rfl
  | i + 1 => by unfold got cntTo; split <;> simp [got_length sl Z m i]
theorem got_mem (sl : Int → Nat) (Z : Nat → Int) (m : Nat) : ∀ i s, s ∈ got sl Z m i → ∃ a, a < i ∧ s = sl (Z a) ∧ putsTo sl Z m s = some (Z a)
  | 0, s, h => by simp [got] at h
  | i + 1, s, h => by
    unfold got at h
    split at h
    · rename_i hc
      rcases List.mem_cons.1 h with rfl | h'
      · exact ⟨i, by omega, rfl, hc.1⟩
      · obtain ⟨a, h1, h2⟩ := got_mem sl Z m i s h'; exact ⟨a, by omega, h2⟩
    · obtain ⟨a, h1, h2⟩ := got_mem sl Z m i s h; exact ⟨a, by omega, h2⟩
theorem got_nodup (sl : Int → Nat) (Z : Nat → Int) (m : Nat) : ∀ i, (got sl Z m i).Nodup
  | 0 => List.nodup_nil
  | i + 1 => by
    unfold got
    split
    · rename_i hc
      refine List.nodup_cons.2 ⟨fun hm => ?_, got_nodup sl Z m i⟩
      obtain ⟨a, h1, _, h3⟩ := got_mem sl Z m i _ hm
      rw [hc.1] at h3
      exact twice_false Z i i hc.2 a h1 (by simpa using h3.symm)
    · exact got_nodup sl Z m i
theorem nodup_lt : ∀ (n : Nat) (l : List Nat), l.Nodup → (∀ x ∈ l, x < n) → l.length ≤ n
  | 0, l, _, h => by
    cases l with
    | nil => simp
    | cons a l => exact absurd (h a List.mem_cons_self) (Nat.not_lt_zero _)
  | n + 1, l, hn, h => by
    have h1 := nodup_lt n (l.erase n) (hn.erase _) (fun x hx => by
      have hx' := List.mem_of_mem_erase hx
      have := h x hx'
      have hne : x ≠ n := fun e => by subst e; exact (List.Nodup.not_mem_erase hn) hx
      omega)
    by_cases hm : n ∈ l
    · rw [List.length_erase_of_mem hm] at h1; omega
    · rw [List.erase_of_not_mem hm] at h1; omega
theorem cnt_le (sl : Int → Nat) (n : Nat) (hsl : ∀ x, sl x < n) (Z : Nat → Int) (m i : Nat) : cntTo sl Z m i ≤ n := by
  rw [← got_length]
  refine nodup_lt n _ (got_nodup sl Z m i) (fun x hx => ?_)
  obtain ⟨a, _, rfl, _⟩ := got_mem sl Z m i x hx
  exact hsl _
theorem first_of (Z : Nat → Int) : ∀ i, ∃ a, a ≤ i ∧ Z a = Z i ∧ twiceTo Z a a = false := by
  intro i
  induction i using Nat.strongRecOn with
  | _ i ih =>
    by_cases h : twiceTo Z i i = false
    · exact ⟨i, Nat.le_refl _, rfl, h⟩
    · have : ∃ a, a < i ∧ Z a = Z i := by
        have key : ∀ j, twiceTo Z i j = true → ∃ a, a < j ∧ Z a = Z i := by
          intro j
          induction j with
          | zero => intro h; cases h
          | succ j ihj =>
            intro h
            simp only [twiceTo, Bool.or_eq_true] at h
            rcases h with h | h
            · obtain ⟨a, h1, h2⟩ := ihj h; exact ⟨a, by omega, h2⟩
            · exact ⟨j, by omega, by simpa using h⟩
        exact key i (by simpa using h)
      obtain ⟨a, h1, h2⟩ := this
      obtain ⟨c, h3, h4, h5⟩ := ih a h1
      exact ⟨c, by omega, h4.trans h2, h5⟩
theorem cntTo_mono (sl : Int → Nat) (Z : Nat → Int) (m : Nat) : ∀ i j, i ≤ j → cntTo sl Z m i ≤ cntTo sl Z m j
  | i, 0, h => by
    obtain rfl : i = 0 := by omega
    exact Nat.le_refl _
  | i, j + 1, h => by
    rcases Nat.lt_or_ge i (j + 1) with h1 | h1
    · have := cntTo_mono sl Z m i j (by omega); conv => rhs; unfold cntTo
      omega
    · obtain rfl : i = j + 1 := by omega
      exact Nat.le_refl _
theorem cnt_pos (sl : Int → Nat) (Z : Nat → Int) (m : Nat) (h : 0 < m) : 0 < cntTo sl Z m m := by
  obtain ⟨k, rfl⟩ : ∃ k, m = k + 1 := ⟨m - 1, by omega⟩
  obtain ⟨a, h1, h2, h3⟩ := first_of Z k
  have h4 : putsTo sl Z (k + 1) (sl (Z a)) = some (Z a) := by
    unfold putsTo; rw [h2, if_pos rfl]
  have h5 : cntTo sl Z (k + 1) (a + 1) = cntTo sl Z (k + 1) a + 1 := by
    conv => lhs; unfold cntTo
    rw [if_pos ⟨h4, h3⟩]
  have := cntTo_mono sl Z (k + 1) (a + 1) (k + 1) (by omega)
  omega
end Go.Proofs.Ytmljmpjpdgijlaa.CachePlain
