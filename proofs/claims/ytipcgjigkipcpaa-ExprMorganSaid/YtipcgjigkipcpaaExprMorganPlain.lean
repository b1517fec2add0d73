/-
  Formulas one behind the other, and steps more. No program in sight.
-/
import Derived.Test.YtipcgjigkipcpaaExprPlain
set_option linter.unusedVariables false
set_option linter.unusedSimpArgs false
set_option linter.unnecessarySimpa false
namespace Go.Proofs.Ytipcgjigkipcpaa
open Go.ChangeShapes Go.WideShapes Go.ChangeAt Go.RowKit Go.Deep NodePlain
def shiftS (n : Nat) (s : Sp) : Sp := ⟨s.op, if 2 ≤ s.op ∧ s.op ≤ 5 then s.a + n else s.a, if 3 ≤ s.op ∧ s.op ≤ 5 then s.b + n else s.b⟩
theorem getD_left (l r : List Sp) {i : Nat} (h : i < l.length) : (l ++ r).getD i sp0 = l.getD i sp0 := by
  rw [List.getD_eq_getElem?_getD, List.getD_eq_getElem?_getD, List.getElem?_append_left h]
theorem getD_right (l r : List Sp) (i : Nat) : (l ++ r).getD (l.length + i) sp0 = r.getD i sp0 := by
  rw [List.getD_eq_getElem?_getD, List.getD_eq_getElem?_getD, List.getElem?_append_right (by omega), show l.length + i - l.length = i by omega]
theorem val_left (β : Nat → Bool) (l r : List Sp) : ∀ i, i ≤ l.length → valTo β (l ++ r) i = valTo β l i
  | 0, _ => rfl
  | i + 1, h => by
    unfold valTo
    rw [val_left β l r i (by omega), getD_left l r (by omega)]
theorem ok_left (vars : Int) (l r : List Sp) : ∀ i, i ≤ l.length → okTo vars (l ++ r) i = okTo vars l i
  | 0, _ => rfl
  | i + 1, h => by
    unfold okTo
    rw [ok_left vars l r i (by omega), getD_left l r (by omega)]
/-- What a step says stays so. -/
theorem val_stay (β : Nat → Bool) (l : List Sp) {j : Nat} : ∀ i, j < i → valTo β l i j = valTo β l (j + 1) j
  | 0, h => by omega
  | i + 1, h => by
    by_cases e : j = i
    · rw [e]
    · rw [valTo]
      show (if j = i then _ else valTo β l i j) = _
      rw [if_neg e]
      exact val_stay β l i (by omega)
theorem ok_all {vars : Int} {l : List Sp} : ∀ {n : Nat}, (∀ i, i < n → OkS vars i (l.getD i sp0)) → okTo vars l n = true
  | 0, _ => rfl
  | n + 1, h => by
    rw [okTo, ok_all (fun i hi => h i (by omega)), Bool.true_and]
    exact decide_eq_true (h n (by omega))
theorem right_of {vars : Int} {l : List Sp} (h : lenOk vars l.length) (hs : ∀ i, i < l.length → OkS vars i (l.getD i sp0)) : rightE vars l = true := by
  unfold rightE
  rw [decide_eq_true h, ok_all hs]; rfl
section
variable {vars : Int} {a b : List Sp}
theorem shift_getD (n : Nat) (b : List Sp) {i : Nat} (h : i < b.length) : (b.map (shiftS n)).getD i sp0 = shiftS n (b.getD i sp0) := by
  rw [List.getD_eq_getElem?_getD, List.getD_eq_getElem?_getD, List.getElem?_map, List.getElem?_eq_getElem h]; rfl
theorem shift_ok {n i : Nat} {s : Sp} (h : OkS vars i s) : OkS vars (n + i) (shiftS n s) := by
  unfold OkS shiftS
  simp only []
  rcases h with h | h | h | h
  · rw [if_neg (by omega), if_neg (by omega)]; omega
  · rw [if_pos (by omega), if_neg (by omega)]; omega
  · rw [if_pos (by omega), if_pos (by omega)]; omega
  · rw [if_neg (by omega), if_neg (by omega)]; omega
theorem both_right (ha : rightE vars a = true) (hb : rightE vars b = true) (hl : a.length + b.length ≤ 900) : rightE vars (a ++ b.map (shiftS a.length)) = true := by
  have h1 := right_len ha
  have h2 := right_len hb
  unfold lenOk at h1 h2
  refine right_of (by unfold lenOk; rw [List.length_append, List.length_map]; omega) fun i hi => ?_
  rw [List.length_append, List.length_map] at hi
  rcases Nat.lt_or_ge i a.length with h | h
  · rw [getD_left _ _ h]
    exact right_at ha h
  · obtain ⟨j, rfl⟩ : ∃ j, i = a.length + j := ⟨i - a.length, by omega⟩
    rw [getD_right, shift_getD _ _ (by omega)]
    exact shift_ok (right_at hb (by omega))
theorem val1_shift {n i : Nat} {s : Sp} (h : OkS vars i s) {β FL FR : Nat → Bool} (key : ∀ x : Int, 0 ≤ x → FL (x + n).toNat = FR x.toNat) : val1 β FL (shiftS n s) = val1 β FR s := by
  obtain ⟨op, x, y⟩ := s
  rcases h with h | h | h | h
  · obtain ⟨e, _⟩ := h
    simp only [] at e
    subst e; rfl
  · obtain ⟨e, h1, _⟩ := h
    simp only [] at e h1
    subst e
    show (!FL (x + n).toNat) = !FR x.toNat
    rw [key x h1]
  · obtain ⟨e, h1, _, h2, _⟩ := h
    simp only [] at e h1 h2
    rcases e with e | e | e <;> subst e
    · show (FL (x + n).toNat && FL (y + n).toNat) = (FR x.toNat && FR y.toNat)
      rw [key x h1, key y h2]
    · show (FL (x + n).toNat || FL (y + n).toNat) = (FR x.toNat || FR y.toNat)
      rw [key x h1, key y h2]
    · show (FL (x + n).toNat != FL (y + n).toNat) = (FR x.toNat != FR y.toNat)
      rw [key x h1, key y h2]
  · obtain ⟨e, _⟩ := h
    simp only [] at e
    rcases e with e | e <;> subst e <;> rfl
theorem val_right (hb : rightE vars b = true) (β : Nat → Bool) : ∀ i, i ≤ b.length → ∀ j, valTo β (a ++ b.map (shiftS a.length)) (a.length + i) (a.length + j) = valTo β b i j
  | 0, _, j => by
    rw [Nat.add_zero]
    have : ∀ i k, i ≤ k → valTo β (a ++ b.map (shiftS a.length)) i k = false := fun i => by
      induction i with
      | zero => exact fun k _ => rfl
      | succ i ih =>
        intro k hk
        rw [valTo]
        show (if k = i then _ else _) = false
        rw [if_neg (by omega)]
        exact ih k (by omega)
    exact this _ _ (by omega)
  | i + 1, h, j => by
    rw [← Nat.add_assoc, valTo, valTo]
    show (if a.length + j = a.length + i then _ else valTo β (a ++ b.map (shiftS a.length)) (a.length + i) (a.length + j)) = if j = i then _ else valTo β b i j
    have ih := val_right hb β i (by omega)
    by_cases e : j = i
    · rw [if_pos (by omega), if_pos e, getD_right, shift_getD _ _ (by omega)]
      exact val1_shift (right_at hb (show i < b.length by omega)) fun x hx => by
        rw [show (x + a.length).toNat = a.length + x.toNat by omega]
        exact ih x.toNat
    · rw [if_neg (by omega), if_neg e]
      exact ih j
/-- A step more. -/
theorem more_right {l : List Sp} (h : rightE vars l = true) {s : Sp} (hs : OkS vars l.length s) (hl : l.length < 1000) : rightE vars (l ++ [s]) = true := by
  have h1 := right_len h
  unfold lenOk at h1
  refine right_of (by unfold lenOk; rw [List.length_append]; simp only [List.length_cons, List.length_nil]; omega) fun i hi => ?_
  rw [List.length_append] at hi
  simp only [List.length_cons, List.length_nil] at hi
  rcases Nat.lt_or_ge i l.length with h2 | h2
  · rw [getD_left _ _ h2]
    exact right_at h h2
  · obtain rfl : i = l.length := by omega
    have := getD_right l [s] 0
    rw [Nat.add_zero] at this
    rw [this]
    exact hs
theorem more_val (β : Nat → Bool) (l : List Sp) (s : Sp) : valTo β (l ++ [s]) (l.length + 1) = fun j => if j = l.length then val1 β (valTo β l l.length) s else valTo β l l.length j := by
  rw [valTo, val_left β l [s] l.length (Nat.le_refl _)]
  have := getD_right l [s] 0
  rw [Nat.add_zero] at this
  rw [this]
  rfl
theorem more_at (β : Nat → Bool) (l : List Sp) (s : Sp) : atE β (l ++ [s]) = val1 β (valTo β l l.length) s := by
  unfold atE
  rw [List.length_append]
  show valTo β (l ++ [s]) (l.length + 1) (l.length + 1 - 1) = _
  rw [more_val]
  show (if l.length + 1 - 1 = l.length then _ else _) = _
  rw [if_pos (by omega)]
/-- What both are, one behind the other. -/
theorem both_vals (ha : rightE vars a = true) (hb : rightE vars b = true) (β : Nat → Bool) :
    valTo β (a ++ b.map (shiftS a.length)) (a.length + b.length) (a.length - 1) = atE β a ∧ valTo β (a ++ b.map (shiftS a.length)) (a.length + b.length) (a.length + b.length - 1) = atE β b := by
  have h1 := right_len ha
  have h2 := right_len hb
  unfold lenOk at h1 h2
  constructor
  · rw [val_stay β _ _ (show a.length - 1 < a.length + b.length by omega), val_left β a _ _ (by omega)]
    unfold atE
    rw [val_stay β a a.length (show a.length - 1 < a.length by omega)]
  · have := val_right (a := a) hb β b.length (Nat.le_refl _) (b.length - 1)
    rw [show a.length + (b.length - 1) = a.length + b.length - 1 by omega] at this
    exact this
theorem toNat_sub (n : Nat) (h : 1 ≤ n) : ((n : Int) - 1).toNat = n - 1 := by omega
/-- The four formulas of the law. -/
theorem morgan_two {k : Nat} (ha : rightE k a = true) (hb : rightE k b = true) (hl : a.length + b.length ≤ 900) {l : List Sp} (e : l = a ++ b.map (shiftS a.length)) {L : Nat} (hL : L = a.length + b.length) (op : Int) (hop : op = 3 ∨ op = 4 ∨ op = 5) :
    rightE k (l ++ [⟨op, (a.length : Int) - 1, (L : Int) - 1⟩]) = true ∧ ∀ β, atE β (l ++ [⟨op, (a.length : Int) - 1, (L : Int) - 1⟩]) = if op = 3 then atE β a && atE β b else if op = 4 then atE β a || atE β b else atE β a != atE β b := by
  have h1 := right_len ha
  have h2 := right_len hb
  unfold lenOk at h1 h2
  have hl2 : l.length = L := by rw [e, List.length_append, List.length_map, hL]
  have hr := both_right ha hb hl
  rw [← e] at hr
  refine ⟨more_right hr (.inr (.inr (.inl ⟨hop, by simp only []; omega, by simp only []; omega, by simp only []; omega, by simp only []; omega⟩))) (by omega), fun β => ?_⟩
  obtain ⟨v1, v2⟩ := both_vals ha hb β
  rw [← e] at v1 v2
  rw [more_at, hl2, hL]
  unfold val1
  simp only []
  rw [toNat_sub _ (by omega), toNat_sub _ (by omega), v1, v2]
  rcases hop with rfl | rfl | rfl <;> rfl
theorem morgan_both {k : Nat} (ha : rightE k a = true) (hb : rightE k b = true) (hl : a.length + b.length ≤ 900) {l : List Sp} (e : l = a ++ b.map (shiftS a.length)) {L : Nat} (hL : L = a.length + b.length) :
    rightE k (l ++ [⟨3, (a.length : Int) - 1, (L : Int) - 1⟩] ++ [⟨2, (L : Int), 0⟩]) = true ∧ ∀ β, atE β (l ++ [⟨3, (a.length : Int) - 1, (L : Int) - 1⟩] ++ [⟨2, (L : Int), 0⟩]) = !(atE β a && atE β b) := by
  obtain ⟨p1, p2⟩ := morgan_two ha hb hl e hL 3 (.inl rfl)
  have hl2 : l.length = L := by rw [e, List.length_append, List.length_map, hL]
  generalize hm : l ++ [(⟨3, (a.length : Int) - 1, (L : Int) - 1⟩ : Sp)] = l2 at *
  have hl3 : l2.length = L + 1 := by rw [← hm, List.length_append, hl2]; rfl
  have h1 := right_len ha
  have h2 := right_len hb
  unfold lenOk at h1 h2
  refine ⟨more_right p1 (.inr (.inl ⟨rfl, by simp only []; omega, by simp only []; omega, rfl⟩)) (by omega), fun β => ?_⟩
  rw [more_at]
  show (!valTo β l2 l2.length ((L : Int)).toNat) = _
  have q := p2 β
  unfold atE at q
  rw [hl3, show L + 1 - 1 = L from rfl] at q
  rw [hl3, Int.toNat_natCast, q, if_pos rfl]; rfl
theorem morgan_nots {k : Nat} (ha : rightE k a = true) (hb : rightE k b = true) (hl : a.length + b.length ≤ 900) {l : List Sp} (e : l = a ++ b.map (shiftS a.length)) {L : Nat} (hL : L = a.length + b.length) :
    rightE k (l ++ [⟨2, (a.length : Int) - 1, 0⟩] ++ [⟨2, (L : Int) - 1, 0⟩] ++ [⟨4, (L : Int), (L : Int) + 1⟩]) = true ∧ ∀ β, atE β (l ++ [⟨2, (a.length : Int) - 1, 0⟩] ++ [⟨2, (L : Int) - 1, 0⟩] ++ [⟨4, (L : Int), (L : Int) + 1⟩]) = (!atE β a || !atE β b) := by
  have h1 := right_len ha
  have h2 := right_len hb
  unfold lenOk at h1 h2
  have hl2 : l.length = L := by rw [e, List.length_append, List.length_map, hL]
  have hr := both_right ha hb hl
  rw [← e] at hr
  have r1 : rightE k (l ++ [⟨2, (a.length : Int) - 1, 0⟩]) = true := more_right hr (.inr (.inl ⟨rfl, by simp only []; omega, by simp only []; omega, rfl⟩)) (by omega)
  have v1 : ∀ β, valTo β (l ++ [⟨2, (a.length : Int) - 1, 0⟩]) (L + 1) L = (!atE β a) ∧ valTo β (l ++ [⟨2, (a.length : Int) - 1, 0⟩]) (L + 1) (L - 1) = atE β b := fun β => by
    obtain ⟨v1, v2⟩ := both_vals ha hb β
    rw [← e, ← hL] at v1 v2
    have q := more_val β l ⟨2, (a.length : Int) - 1, 0⟩
    rw [hl2] at q
    rw [q]
    refine ⟨?_, ?_⟩
    · show (if L = L then _ else _) = _
      rw [if_pos rfl]
      show (!valTo β l L ((a.length : Int) - 1).toNat) = _
      rw [toNat_sub _ (by omega), v1]
    · show (if L - 1 = L then _ else valTo β l L (L - 1)) = _
      rw [if_neg (by omega), v2]
  have hl3 : (l ++ [(⟨2, (a.length : Int) - 1, 0⟩ : Sp)]).length = L + 1 := by rw [List.length_append, hl2]; rfl
  generalize l ++ [(⟨2, (a.length : Int) - 1, 0⟩ : Sp)] = l2 at *
  have r2 : rightE k (l2 ++ [⟨2, (L : Int) - 1, 0⟩]) = true := more_right r1 (.inr (.inl ⟨rfl, by simp only []; omega, by simp only []; omega, rfl⟩)) (by omega)
  have w1 : ∀ β, valTo β (l2 ++ [⟨2, (L : Int) - 1, 0⟩]) (L + 2) L = (!atE β a) ∧ valTo β (l2 ++ [⟨2, (L : Int) - 1, 0⟩]) (L + 2) (L + 1) = (!atE β b) := fun β => by
    obtain ⟨v2, v3⟩ := v1 β
    have q := more_val β l2 ⟨2, (L : Int) - 1, 0⟩
    rw [hl3] at q
    rw [q]
    refine ⟨?_, ?_⟩
    · show (if L = L + 1 then _ else valTo β l2 (L + 1) L) = _
      rw [if_neg (by omega), v2]
    · show (if L + 1 = L + 1 then _ else _) = _
      rw [if_pos rfl]
      show (!valTo β l2 (L + 1) ((L : Int) - 1).toNat) = _
      rw [toNat_sub _ (by omega), v3]
  have hl4 : (l2 ++ [(⟨2, (L : Int) - 1, 0⟩ : Sp)]).length = L + 2 := by rw [List.length_append, hl3]; rfl
  generalize l2 ++ [(⟨2, (L : Int) - 1, 0⟩ : Sp)] = l3 at *
  refine ⟨more_right r2 (.inr (.inr (.inl ⟨.inr (.inl rfl), by simp only []; omega, by simp only []; omega, by simp only []; omega, by simp only []; omega⟩))) (by omega), fun β => ?_⟩
  obtain ⟨v2, v3⟩ := w1 β
  rw [more_at, hl4]
  show (valTo β l3 (L + 2) ((L : Int)).toNat || valTo β l3 (L + 2) ((L : Int) + 1).toNat) = _
  rw [Int.toNat_natCast, show ((L : Int) + 1).toNat = L + 1 by omega, v2, v3]
end
end Go.Proofs.Ytipcgjigkipcpaa
