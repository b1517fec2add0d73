/-
  Texts as lists of bytes: their order; tables: each text once, in order; where a text is. No program in sight.
-/
import Derived.Lib.SlicesCompact
import Derived.Sort.LotA
import Derived.Sort.Walk0
set_option linter.unusedVariables false
set_option linter.unusedSimpArgs false
namespace Go.Proofs.YtcdfpnlaklaafaaGreat
abbrev Str := List UInt8
theorem str_irrefl (a : Str) : ¬ a < a := List.lt_irrefl a
theorem str_trans {a b c : Str} (h : a < b) (k : b < c) : a < c := List.lt_trans h k
theorem str_total (a b : Str) : a < b ∨ a = b ∨ b < a := by
  by_cases h : a < b
  · exact .inl h
  · by_cases k : b < a
    · exact .inr (.inr k)
    · exact .inr (.inl (List.le_antisymm (List.not_lt.1 k) (List.not_lt.1 h)))
theorem str_le {a b : Str} : a ≤ b ↔ a < b ∨ a = b := by
  constructor
  · intro h
    rcases str_total a b with k | k | k
    · exact .inl k
    · exact .inr k
    · exact absurd k (List.not_lt.2 h)
  · rintro (h | rfl)
    · exact List.not_lt.1 (fun k => str_irrefl a (str_trans h k))
    · exact List.not_lt.1 (str_irrefl a)
theorem str_lt_le {a b c : Str} (h : a < b) (k : b ≤ c) : a < c := by
  rcases str_le.1 k with k | rfl
  · exact str_trans h k
  · exact h
theorem str_le_lt {a b c : Str} (h : a ≤ b) (k : b < c) : a < c := by
  rcases str_le.1 h with h | rfl
  · exact str_trans h k
  · exact k
theorem str_le_trans {a b c : Str} (h : a ≤ b) (k : b ≤ c) : a ≤ c := by
  rcases str_le.1 h with h | rfl
  · exact str_le.2 (.inl (str_lt_le h k))
  · exact k
/-- Two rising rows of the same texts are one. -/
theorem srises_eq : ∀ {a b : List Str}, a.Pairwise (· < ·) → b.Pairwise (· < ·) → (∀ x, x ∈ a ↔ x ∈ b) → a = b
  | [], [], _, _, _ => rfl
  | [], y :: b, _, _, h => absurd ((h y).2 (by simp)) (by simp)
  | x :: a, [], _, _, h => absurd ((h x).1 (by simp)) (by simp)
  | x :: a, y :: b, ha, hb, h => by
    have ha' := List.pairwise_cons.1 ha
    have hb' := List.pairwise_cons.1 hb
    have hxy : x = y := by
      have h1 := (h x).1 (by simp)
      have h2 := (h y).2 (by simp)
      rcases List.mem_cons.1 h1 with e | e
      · exact e
      · rcases List.mem_cons.1 h2 with e2 | e2
        · exact e2.symm
        · exact absurd (str_trans (ha'.1 y e2) (hb'.1 x e)) (str_irrefl x)
    subst hxy
    congr 1
    refine srises_eq ha'.2 hb'.2 (fun z => ?_)
    constructor
    · intro hz
      rcases List.mem_cons.1 ((h z).1 (List.mem_cons_of_mem _ hz)) with e | e
      · exact absurd (ha'.1 z hz) (e ▸ str_irrefl x)
      · exact e
    · intro hz
      rcases List.mem_cons.1 ((h z).2 (List.mem_cons_of_mem _ hz)) with e | e
      · exact absurd (hb'.1 z hz) (e ▸ str_irrefl x)
      · exact e
/-- The table of a row: sorted, each once. -/
def tabL (l : List Str) : List Str := Go.Lib.compact (l.mergeSort fun x y => decide (x ≤ y))
theorem ssorted (l : List Str) : (l.mergeSort fun x y => decide (x ≤ y)).Pairwise (fun a b => a ≤ b) := by
  have h := List.pairwise_mergeSort (le := fun x y : Str => decide (x ≤ y)) (fun a b c h1 h2 => by
    simp only [decide_eq_true_eq] at h1 h2 ⊢; exact str_le_trans h1 h2) (fun a b => by
    simp only [Bool.or_eq_true, decide_eq_true_eq]
    rcases str_total a b with h | h | h
    · exact .inl (str_le.2 (.inl h))
    · exact .inl (str_le.2 (.inr h))
    · exact .inr (str_le.2 (.inl h))) l
  exact h.imp (fun h => of_decide_eq_true h)
open Go.Lib in
theorem scompact_mem (d : Array Str) (m : Nat) : ∀ j, j < m → d[j]! ∈ compactUpTo d m := by
  induction m with
  | zero => intro j hj; exact absurd hj (Nat.not_lt_zero _)
  | succ m ih =>
    intro j hj
    rw [compactUpTo_succ, List.mem_append]
    by_cases e : j = m
    · subst e
      by_cases hk : keeps d j = true
      · rw [if_pos hk]; exact .inr (by simp)
      · have h2 : ¬ (j = 0 ∨ d[j]! ≠ d[j - 1]!) := by
          intro h; exact hk (by unfold keeps; exact decide_eq_true h)
        have h3 : j ≠ 0 := fun h => h2 (.inl h)
        have h4 : d[j]! = d[j - 1]! := Classical.byContradiction fun h => h2 (.inr h)
        rw [h4]
        exact .inl (ih (j - 1) (by omega))
    · exact .inl (ih j (by omega))
open Go.Lib in
theorem scompact_from (d : Array Str) (m : Nat) {x : Str} (h : x ∈ compactUpTo d m) : ∃ j, j < m ∧ x = d[j]! := by
  unfold compactUpTo at h
  obtain ⟨j, hj, rfl⟩ := List.mem_map.1 h
  exact ⟨j, List.mem_range.1 (List.mem_filter.1 hj).1, rfl⟩
open Go.Lib in
theorem scompact_rises (d : Array Str) (hs : ∀ i j, i ≤ j → j < d.size → d[i]! ≤ d[j]!) (m : Nat) (hm : m ≤ d.size) : (compactUpTo d m).Pairwise (· < ·) := by
  unfold compactUpTo
  rw [List.pairwise_map]
  have hp : ((List.range m).filter (keeps d)).Pairwise (· < ·) := List.Pairwise.filter _ (by rw [List.range_eq_range']; exact List.pairwise_lt_range' (s := 0) (n := m) (step := 1) (by decide))
  refine hp.imp_of_mem ?_
  intro i j hi hj hlt
  have h1 := List.mem_filter.1 hj
  have hjm := List.mem_range.1 h1.1
  have hk : j = 0 ∨ d[j]! ≠ d[j - 1]! := of_decide_eq_true h1.2
  have h2 := hs i (j - 1) (by omega) (by omega)
  have h3 := hs (j - 1) j (by omega) (by omega)
  rcases hk with hk | hk
  · omega
  · rcases str_le.1 h3 with h3 | h3
    · exact str_le_lt h2 h3
    · exact absurd h3.symm hk
theorem tab_rises (l : List Str) : (tabL l).Pairwise (· < ·) := by
  have hs := ssorted l
  unfold tabL Go.Lib.compact
  generalize (l.mergeSort fun x y => decide (x ≤ y)) = m at *
  refine scompact_rises _ (fun i j hij hj => ?_) _ (by simp)
  have hj' : j < m.length := by simpa using hj
  rw [getElem!_pos m.toArray i (by simp; omega), getElem!_pos m.toArray j hj]
  simp only [List.getElem_toArray]
  rcases Nat.lt_or_eq_of_le hij with h | h
  · exact List.pairwise_iff_getElem.1 hs i j (by omega) hj' h
  · subst h; exact str_le.2 (.inr rfl)
theorem tab_mem (l : List Str) (z : Str) : z ∈ tabL l ↔ z ∈ l := by
  have hp : (l.mergeSort fun x y => decide (x ≤ y)).Perm l := List.mergeSort_perm l _
  rw [← hp.mem_iff]
  unfold tabL Go.Lib.compact
  generalize (l.mergeSort fun x y => decide (x ≤ y)) = m
  constructor
  · intro h
    obtain ⟨j, hj, rfl⟩ := scompact_from _ _ h
    rw [getElem!_pos m.toArray j (by simpa using hj)]
    simp
  · intro h
    obtain ⟨j, hj, rfl⟩ := List.mem_iff_getElem.1 h
    have := scompact_mem m.toArray m.length j hj
    rw [getElem!_pos m.toArray j (by simpa using hj)] at this
    simpa using this
theorem tab_len (l : List Str) : (tabL l).length ≤ l.length := by
  unfold tabL Go.Lib.compact Go.Lib.compactUpTo
  rw [List.length_map]
  refine Nat.le_trans (List.length_filter_le _ _) ?_
  simp
/-- What is rising, of the same texts, is the table. -/
theorem tab_eq {l m : List Str} (h : m.Pairwise (· < ·)) (hm : ∀ x, x ∈ m ↔ x ∈ l) : tabL l = m := srises_eq (tab_rises l) h (fun x => by rw [tab_mem, hm])
/-- Where a text is in a row that rises; or -1. -/
def atL (L : List Str) (s : Str) : Int := if s ∈ L then (L.idxOf s : Int) else -1
theorem at_out {L : List Str} {s : Str} (h : s ∉ L) : atL L s = -1 := by unfold atL; rw [if_neg h]
theorem at_in {L : List Str} {s : Str} (h : s ∈ L) : atL L s = (L.idxOf s : Int) := by unfold atL; rw [if_pos h]
theorem rises_get {L : List Str} (h : L.Pairwise (· < ·)) {i j : Nat} {x y : Str} (hx : L[i]? = some x) (hy : L[j]? = some y) (hij : i < j) : x < y := by
  obtain ⟨h1, e1⟩ := List.getElem?_eq_some_iff.1 hx
  obtain ⟨h2, e2⟩ := List.getElem?_eq_some_iff.1 hy
  rw [← e1, ← e2]
  exact List.pairwise_iff_getElem.1 h i j h1 h2 hij
theorem at_get {L : List Str} (h : L.Pairwise (· < ·)) {i : Nat} {s : Str} (hx : L[i]? = some s) : atL L s = (i : Int) := by
  have hm : s ∈ L := List.mem_of_getElem? hx
  rw [at_in hm]
  have h1 : L[L.idxOf s]? = some s := by
    have := List.idxOf_lt_length_iff.2 hm
    rw [List.getElem?_eq_getElem this, List.getElem_idxOf]
  rcases Nat.lt_trichotomy (L.idxOf s) i with q | q | q
  · exact absurd (rises_get h h1 hx q) (str_irrefl s)
  · rw [q]
  · exact absurd (rises_get h hx h1 q) (str_irrefl s)
end Go.Proofs.YtcdfpnlaklaafaaGreat
