/-
 What is left of a row in order, when what comes again is left out. No program in sight.
-/
import Derived.Test.YtckikkkdabpjkaaGreatMA
set_option linter.unusedVariables false
set_option linter.unusedSimpArgs false
set_option linter.unnecessarySimpa false
set_option linter.unusedSectionVars false
namespace Go.Proofs.YtckikkkdabpjkaaGreat
section
variable {α : Type} {lt : α → α → Prop} [DecidableRel lt] [DecidableEq α]
theorem ahead_of (o : LO lt) {L : List α} (hs : L.Pairwise (fun x y => ¬ lt y x)) {m : Nat} {y z : α} (hy : L[m]? = some y) (hz : L[m + 1]? = some z) (hne : z ≠ y) : ∀ x ∈ L.take (m + 1), lt x z := by
 intro x hx
 have hyz : lt y z := by
  rcases o.total y z with q | q | q
  ·exact q
  ·exact absurd q.symm hne
  ·exact absurd q (by
    have h1 := List.pairwise_iff_getElem.1 hs m (m + 1) (by
     rcases Nat.lt_or_ge m L.length with h | h
     ·exact h
     ·rw [List.getElem?_eq_none h] at hy; cases hy) (by
     rcases Nat.lt_or_ge (m + 1) L.length with h | h
     ·exact h
     ·rw [List.getElem?_eq_none h] at hz; cases hz) (by omega)
    rw [List.getElem?_eq_some_iff] at hy hz
    obtain ⟨_, rfl⟩ := hy
    obtain ⟨_, rfl⟩ := hz
    exact h1)
 obtain ⟨i, hi, rfl⟩ := List.getElem_of_mem hx
 rw [List.length_take] at hi
 rw [List.getElem_take]
 rw [List.getElem?_eq_some_iff] at hy
 obtain ⟨hm, rfl⟩ := hy
 rcases Nat.lt_or_ge i m with h | h
 ·have h1 := List.pairwise_iff_getElem.1 hs i m (by omega) hm h
  rcases o.total L[i] L[m] with q | q | q
  ·exact o.trans q hyz
  ·rw [q]; exact hyz
  ·exact absurd q h1
 ·obtain rfl : i = m := by omega
  exact hyz
/-- A start of a row in order is without repeats. -/
theorem rise_step (o : LO lt) {L : List α} (hs : L.Pairwise (fun x y => ¬ lt y x)) {m : Nat} {y z : α} (h : (L.take (m + 1)).Pairwise lt) (hy : L[m]? = some y) (hz : L[m + 1]? = some z) (hne : z ≠ y) : (L.take (m + 2)).Pairwise lt := by
 rw [List.take_add_one, hz, List.pairwise_append]
 refine ⟨h, by simp, fun a ha b hb => ?_⟩
 simp at hb
 subst hb
 exact ahead_of o hs hy hz hne a ha
theorem rise_all (o : LO lt) {L : List α} {m : Nat} (h : (L.take m).Pairwise lt) (hm : L.length ≤ m) : L = sortO lt L := by
 rw [List.take_of_length_le hm] at h
 exact sortO_eq o h (fun _ => Iff.rfl)
/-- Where the inner loop stands: k are kept of the first m. -/
structure CI (lt : α → α → Prop) (L : List α) (m k : Nat) (cur : List α) : Prop where
 len : cur.length = L.length
 km : k + 1 ≤ m
 mn : m ≤ L.length
 up : (cur.take k).Pairwise lt
 mem : ∀ x, x ∈ cur.take k ↔ x ∈ L.take m
 rest : ∀ j, m ≤ j + 1 → cur[j]? = L[j]?
theorem ci_start (o : LO lt) {L : List α} {m : Nat} {y : α} (h : (L.take (m + 1)).Pairwise lt) (hy : L[m]? = some y) (hz : L[m + 1]? = some y) : CI lt L (m + 2) (m + 1) L := by
 refine ⟨rfl, Nat.le_refl _, ?_, h, fun x => ?_, fun _ _ => rfl⟩
 ·rcases Nat.lt_or_ge (m + 1) L.length with h | h
  ·omega
  ·rw [List.getElem?_eq_none h] at hz; cases hz
 ·rw [List.take_add_one (i := m + 1), hz, List.mem_append]
  constructor
  ·intro h; exact .inl h
  ·rintro (h | h)
   ·exact h
   ·simp at h
    subst h
    rw [List.take_add_one, hy]
    simp
theorem CI.same {L : List α} {m k : Nat} {cur : List α} {y : α} (h : CI lt L (m + 1) k cur) (hy : L[m]? = some y) (hz : L[m + 1]? = some y) : CI lt L (m + 2) k cur := by
 refine ⟨h.len, by have := h.km; omega, ?_, h.up, fun x => ?_, fun j hj => h.rest j (by omega)⟩
 ·rcases Nat.lt_or_ge (m + 1) L.length with h | h
  ·omega
  ·rw [List.getElem?_eq_none h] at hz; cases hz
 ·rw [h.mem, List.take_add_one (i := m + 1), hz, List.mem_append]
  constructor
  ·intro h; exact .inl h
  ·rintro (h | h)
   ·exact h
   ·simp at h
    subst h
    rw [List.take_add_one, hy]
    simp
theorem CI.next (o : LO lt) {L : List α} (hs : L.Pairwise (fun x y => ¬ lt y x)) {m k : Nat} {cur : List α} {y z : α} (h : CI lt L (m + 1) k cur) (hy : L[m]? = some y) (hz : L[m + 1]? = some z) (hne : z ≠ y) : CI lt L (m + 2) (k + 1) (cur.set k z) := by
 have hml : m + 1 < L.length := by
  rcases Nat.lt_or_ge (m + 1) L.length with h | h
  ·exact h
  ·rw [List.getElem?_eq_none h] at hz; cases hz
 have hk := h.km
 have hl := h.len
 have ht : (cur.set k z).take (k + 1) = cur.take k ++ [z] := by
  rw [List.take_add_one, List.take_set_of_le (Nat.le_refl k), List.getElem?_set_self (by omega)]
  rfl
 refine ⟨by rw [List.length_set]; exact hl, by omega, by omega, ?_, fun x => ?_, fun j hj => ?_⟩
 ·rw [ht, List.pairwise_append]
  refine ⟨h.up, by simp, fun a ha b hb => ?_⟩
  simp at hb
  subst hb
  exact ahead_of o hs hy hz hne a ((h.mem a).1 ha)
 ·rw [ht, List.take_add_one (i := m + 1), hz, List.mem_append, List.mem_append, h.mem]
  simp
 ·rw [List.getElem?_set_ne (by omega)]
  exact h.rest j (by omega)
theorem CI.done (o : LO lt) {L : List α} {m k : Nat} {cur : List α} (h : CI lt L m k cur) (hm : L.length ≤ m) : cur.take k = sortO lt L :=
 sortO_eq o h.up (fun x => by rw [h.mem, List.take_of_length_le hm])
end
end Go.Proofs.YtckikkkdabpjkaaGreat
