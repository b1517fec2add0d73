/-
  How many there are in all sets together: the plain laws of adding.
-/
import Derived.Test.YtckjgefpelnkoaaDoorSetAdd
set_option linter.unusedVariables false
set_option linter.unusedSimpArgs false
set_option linter.unnecessarySimpa false
namespace Go.Proofs.YtckjgefpelnkoaaDoor
open Go.ChangeShapes Go.WideShapes Go.ChangeAt Go.RowKit Go.Deep SetPlain

def putB (A : Nat → Int × Int) (i c : Nat) : Nat → Bool
  | 0 => false
  | n + 1 => putB A i c n || decide (A n = ((i : Int), (c : Int)))
def stIn (R C : Nat) (A : Nat → Int × Int) : Nat → Nat → Nat → Bool
  | 0 => fun _ _ => false
  | n + 1 => addIn R C (stIn R C A n) (A n).1 (A n).2
def stTot (R C : Nat) (A : Nat → Int × Int) : Nat → Nat
  | 0 => 0
  | n + 1 => addTot R C (stIn R C A n) (A n).1 (A n).2 (stTot R C A n)
def sumTo (f : Nat → Nat) : Nat → Nat
  | 0 => 0
  | n + 1 => sumTo f n + f n
theorem sumTo_congr {f g : Nat → Nat} : ∀ n, (∀ j, j < n → f j = g j) → sumTo f n = sumTo g n
  | 0, _ => rfl
  | n + 1, h => by unfold sumTo; rw [sumTo_congr n (fun j hj => h j (by omega)), h n (by omega)]
theorem sumTo_up {f g : Nat → Nat} (i : Nat) (h : ∀ j, j ≠ i → f j = g j) (hi : f i = g i + 1) : ∀ n, i < n → sumTo f n = sumTo g n + 1
  | 0, h0 => absurd h0 (Nat.not_lt_zero _)
  | n + 1, hn => by
    unfold sumTo
    rcases Nat.lt_or_ge i n with h1 | h1
    · rw [sumTo_up i h hi n h1, h n (by omega)]; omega
    · obtain rfl : i = n := by omega
      rw [hi, sumTo_congr i (fun j hj => h j (by omega))]; omega
theorem addB_iff {R C : Nat} {In : Nat → Nat → Bool} {i c : Int} : addB R C In i c = true ↔ ∃ a m : Nat, i = a ∧ c = m ∧ a < R ∧ m < C ∧ In a m = false := by
  unfold addB hasB rowP
  constructor
  · intro h
    simp only [Bool.and_eq_true, decide_eq_true_eq, Bool.not_eq_true'] at h
    obtain ⟨⟨h1, h2, h3, h4⟩, h5⟩ := h
    refine ⟨i.toNat, c.toNat, by omega, by omega, by omega, by omega, ?_⟩
    rw [if_pos ⟨h1, h2⟩] at h5
    simpa [h3, h4] using h5
  · rintro ⟨a, m, rfl, rfl, h1, h2, h3⟩
    have e1 : (0 : Int) ≤ (a : Int) ∧ (a : Int) < (R : Int) := by omega
    rw [if_pos e1]
    have e2 : decide (0 ≤ (a : Int) ∧ (a : Int) < (R : Int) ∧ 0 ≤ (m : Int) ∧ (m : Int) < (C : Int)) = true := by simp; omega
    rw [e2]
    show (true && !(decide _ && In a m)) = true
    rw [h3]; simp
theorem addIn_get {R C : Nat} {In : Nat → Nat → Bool} {i c : Int} {a m : Nat} (ha : a < R) (hm : m < C) : addIn R C In i c a m = (In a m || decide ((i, c) = ((a : Int), (m : Int)))) := by
  unfold addIn
  cases h : addB R C In i c with
  | true =>
    obtain ⟨x, y, rfl, rfl, h1, h2, h3⟩ := addB_iff.1 h
    rw [if_pos rfl]
    show updIn In x y a m = _
    unfold updIn
    by_cases hax : a = x
    · subst hax
      rw [if_pos rfl]
      unfold upd
      by_cases hmy : m = y
      · subst hmy; simp
      · have : ¬ ((y : Int) = (m : Int)) := by omega
        simp [hmy, this]
    · rw [if_neg hax]
      have : ¬ ((x : Int) = (a : Int)) := by omega
      simp [this]
  | false =>
    rw [if_neg (by simp)]
    by_cases he : (i, c) = ((a : Int), (m : Int))
    · have h1 : In a m = true := by
        cases hin : In a m with
        | true => rfl
        | false =>
          simp only [Prod.mk.injEq] at he
          rw [addB_iff.2 ⟨a, m, he.1, he.2, ha, hm, hin⟩] at h; cases h
      rw [h1]; rfl
    · simp [he]
theorem stIn_get {R C : Nat} {A : Nat → Int × Int} {a m : Nat} (ha : a < R) (hm : m < C) : ∀ n, stIn R C A n a m = putB A a m n
  | 0 => rfl
  | n + 1 => by
    show addIn R C (stIn R C A n) (A n).1 (A n).2 a m = (putB A a m n || decide (A n = ((a : Int), (m : Int))))
    rw [addIn_get ha hm, stIn_get ha hm n]
theorem addTot_sum {R C : Nat} {In : Nat → Nat → Bool} {i c : Int} {tot : Nat} (ht : tot = sumTo (fun a => cnt (In a) C) R) : addTot R C In i c tot = sumTo (fun a => cnt (addIn R C In i c a) C) R := by
  unfold addTot addIn
  cases h : addB R C In i c with
  | true =>
    obtain ⟨x, y, rfl, rfl, h1, h2, h3⟩ := addB_iff.1 h
    rw [if_pos rfl, if_pos rfl, ht]
    symm
    refine sumTo_up x (fun j hj => ?_) ?_ R h1
    · show cnt (updIn In x y j) C = _
      unfold updIn; rw [if_neg hj]
    · show cnt (updIn In x y x) C = _
      unfold updIn; rw [if_pos rfl]
      exact cnt_upd h2 h3
  | false => rw [if_neg (by simp), if_neg (by simp), ht]
where
  cnt_upd {p : Nat → Bool} {y C : Nat} (h2 : y < C) (h3 : p y = false) : cnt (upd p y) C = cnt p C + 1 := by
    induction C with
    | zero => exact absurd h2 (Nat.not_lt_zero _)
    | succ C ih =>
      unfold cnt
      rcases Nat.lt_or_ge y C with h | h
      · rw [ih h]
        have : upd p y C = p C := by unfold upd; have : ¬ C = y := by omega
                                     simp [this]
        rw [this]; omega
      · obtain rfl : y = C := by omega
        have e1 : cnt (upd p y) y = cnt p y := cnt_congr _ fun j hj => by unfold upd; have : ¬ j = y := by omega
                                                                          simp [this]
        have e2 : upd p y y = true := by unfold upd; simp
        rw [e1, e2, h3]; simp
theorem stTot_sum {R C : Nat} {A : Nat → Int × Int} : ∀ n, stTot R C A n = sumTo (fun a => cnt (stIn R C A n a) C) R
  | 0 => by
    have : ∀ R, sumTo (fun a => cnt (fun _ => false) C) R = 0 := fun R => by
      induction R with
      | zero => rfl
      | succ R ih => unfold sumTo; rw [ih, cnt_none _ _ (fun _ _ => rfl)]
    exact (this R).symm
  | n + 1 => addTot_sum (stTot_sum n)
theorem sumTo_le {f : Nat → Nat} {c : Nat} (h : ∀ a, f a ≤ c) : ∀ n, sumTo f n ≤ c * n
  | 0 => Nat.zero_le _
  | n + 1 => by have := sumTo_le h n; have := h n; unfold sumTo; rw [Nat.mul_add]; omega
theorem stTot_le {R C : Nat} {A : Nat → Int × Int} : ∀ n, stTot R C A n ≤ n
  | 0 => Nat.le_refl _
  | n + 1 => by
    have := stTot_le (R := R) (C := C) (A := A) n
    show addTot R C _ _ _ _ ≤ n + 1
    unfold addTot
    split <;> omega
theorem allIn_self (p : Nat → Bool) (n : Nat) : allIn p p n = true := (allIn_iff p p n).2 fun _ _ h => h
theorem anyIn_self (p : Nat → Bool) (n : Nat) : anyIn p p n = decide (0 < cnt p n) := by
  rw [Bool.eq_iff_iff, anyIn_iff]
  simp only [decide_eq_true_eq]
  constructor
  · rintro ⟨j, hj, hp, _⟩
    rcases Nat.eq_zero_or_pos (cnt p n) with h | h
    · rw [cnt_zero n h j hj] at hp; cases hp
    · exact h
  · intro h
    apply Classical.byContradiction
    intro hno
    rw [cnt_none p n (fun j hj => by
      cases hp : p j with
      | false => rfl
      | true => exact absurd ⟨j, hj, hp, hp⟩ hno)] at h
    omega
theorem rowP_nat {R : Nat} {In : Nat → Nat → Bool} {i : Nat} (h : i < R) : rowP R In (i : Int) = In i := by
  unfold rowP; rw [if_pos (by omega)]; rfl
theorem hasB_nat {R C : Nat} {In : Nat → Nat → Bool} {i c : Nat} (h : i < R) (hc : c < C) : hasB R C In (i : Int) (c : Int) = In i c := by
  unfold hasB
  rw [rowP_nat h, show decide (0 ≤ (c : Int) ∧ (c : Int) < (C : Int)) = true from by simp; omega]
  rfl
end Go.Proofs.YtckjgefpelnkoaaDoor
