/-
 Texts as lists of bytes: their order; tables: each text once, in order; where a text is. No program in sight.
-/
import Derived.Lib.SlicesCompact
import Derived.Sort.LotA
import Derived.Sort.Walk0
set_option linter.unusedVariables false
set_option linter.unusedSimpArgs false
namespace Go.Proofs.YtckikkkdabpjkaaGreat
abbrev Str := List UInt8
theorem str_irrefl (a : Str) : ¬ a < a := List.lt_irrefl a
theorem str_trans {a b c : Str} (h : a < b) (k : b < c) : a < c := List.lt_trans h k
theorem str_total (a b : Str) : a < b ∨ a = b ∨ b < a := by
 by_cases h : a < b
 ·exact .inl h
 ·by_cases k : b < a
  ·exact .inr (.inr k)
  ·exact .inr (.inl (List.le_antisymm (List.not_lt.1 k) (List.not_lt.1 h)))
theorem str_le {a b : Str} : a ≤ b ↔ a < b ∨ a = b := by
 constructor
 ·intro h
  rcases str_total a b with k | k | k
  ·exact .inl k
  ·exact .inr k
  ·exact absurd k (List.not_lt.2 h)
 ·rintro (h | rfl)
  ·exact List.not_lt.1 (fun k => str_irrefl a (str_trans h k))
  ·exact List.not_lt.1 (str_irrefl a)
theorem str_lt_le {a b c : Str} (h : a < b) (k : b ≤ c) : a < c := by
 rcases str_le.1 k with k | rfl
 ·exact str_trans h k
 ·exact h
theorem str_le_lt {a b c : Str} (h : a ≤ b) (k : b < c) : a < c := by
 rcases str_le.1 h with h | rfl
 ·exact str_trans h k
 ·exact k
theorem str_le_trans {a b c : Str} (h : a ≤ b) (k : b ≤ c) : a ≤ c := by
 rcases str_le.1 h with h | rfl
 ·exact str_le.2 (.inl (str_lt_le h k))
 ·exact k
/-- Two rising rows of the same texts are one. -/
theorem srises_eq : ∀ {a b : List Str}, a.Pairwise (· < ·) → b.Pairwise (· < ·) → (∀ x, x ∈ a ↔ x ∈ b) → a = b
 | [], [], _, _, _ => rfl
 | [], y :: b, _, _, h => absurd ((h y).2 (by simp)) (by simp)
 | x :: a, [], _, _, h => absurd ((h x).1 (by simp)) (by simp)
 | x :: a, y :: b, ha, hb, h => by
  have ha' := List.pairwise_cons.1 ha
  have hb' := List.pairwise_cons.1 hb
  have hxy : x = y := by
   have h1 := (h x).1 (by simp)
   have h2 := (h y).2 (by simp)
   rcases List.mem_cons.1 h1 with e | e
   ·exact e
   ·rcases List.mem_cons.1 h2 with e2 | e2
    ·exact e2.symm
    ·exact absurd (str_trans (ha'.1 y e2) (hb'.1 x e)) (str_irrefl x)
  subst hxy
  congr 1
  refine srises_eq ha'.2 hb'.2 (fun z => ?_)
  constructor
  ·intro hz
   rcases List.mem_cons.1 ((h z).1 (List.mem_cons_of_mem _ hz)) with e | e
   ·exact absurd (ha'.1 z hz) (e ▸ str_irrefl x)
   ·exact e
  ·intro hz
   rcases List.mem_cons.1 ((h z).2 (List.mem_cons_of_mem _ hz)) with e | e
   ·exact absurd (hb'.1 z hz) (e ▸ str_irrefl x)
   ·exact e
/-- The table of a row: sorted, each once. -/
def tabL (l : List Str) : List Str := Go.Lib.compact (l.mergeSort fun x y => decide (x ≤ y))
theorem ssorted (l : List Str) : (l.mergeSort fun x y => decide (x ≤ y)).Pairwise (fun a b => a ≤ b) := by
 have h := List.pairwise_mergeSort (le := fun x y : Str => decide (x ≤ y)) (fun a b c h1 h2 => by
  simp only [decide_eq_true_eq] at h1 h2 ⊢; exact str_le_trans h1 h2) (fun a b => by
  simp only [Bool.or_eq_true, decide_eq_true_eq]
  rcases str_total a b with h | h | h
  ·exact .inl (str_le.2 (.inl h))
  ·exact .inl (str_le.2 (.inr h))
  ·exact .inr (str_le.2 (.inl h))) l
 exact h.imp (fun h => of_decide_eq_true h)
open Go.Lib in
theorem scompact_mem (d : Array Str) (m : Nat) : ∀ j, j < m → d[j]! ∈ compactUpTo d m := by
 induction m with
 | zero => intro j hj; exact absurd hj (Nat.not_lt_zero _)
 | succ m ih =>
  intro j hj
  rw [compactUpTo_succ, List.mem_append]
  by_cases e : j = m
  ·subst e
   by_cases hk : keeps d j = true
   ·rw [if_pos hk]; exact .inr (by simp)
   ·have h2 : ¬ (j = 0 ∨ d[j]! ≠ d[j - 1]!) := by
     intro h; exact hk (by unfold keeps; exact decide_eq_true h)
    have h3 : j ≠ 0 := fun h => h2 (.inl h)
    have h4 : d[j]! = d[j - 1]! := Classical.byContradiction fun h => h2 (.inr h)
    rw [h4]
    exact .inl (ih (j - 1) (by omega))
  ·exact .inl (ih j (by omega))
open Go.Lib in
theorem scompact_from (d : Array Str) (m : Nat) {x : Str} (h : x ∈ compactUpTo d m) : ∃ j, j < m ∧ x = d[j]! := by
 unfold compactUpTo at h
 obtain ⟨j, hj, rfl⟩ := List.mem_map.1 h
 exact ⟨j, List.mem_range.1 (List.mem_filter.1 hj).1, rfl⟩
open Go.Lib in
theorem scompact_rises (d : Array Str) (hs : ∀ i j, i ≤ j → j < d.size → d[i]! ≤ d[j]!) (m : Nat) (hm : m ≤ d.size) : (compactUpTo d m).Pairwise (· < ·) := by
 unfold compactUpTo
 rw [List.pairwise_map]
 have hp : ((List.range m).filter (keeps d)).Pairwise (· < ·) := List.Pairwise.filter _ (by rw [List.range_eq_range']; exact List.pairwise_lt_range' (s := 0) (n := m) (step := 1) (by decide))
 refine hp.imp_of_mem ?_
 intro i j hi hj hlt
 have h1 := List.mem_filter.1 hj
 have hjm := List.mem_range.1 h1.1
 have hk : j = 0 ∨ d[j]! ≠ d[j - 1]! := of_decide_eq_true h1.2
 have h2 := hs i (j - 1) (by omega) (by omega)
 have h3 := hs (j - 1) j (by omega) (by omega)
 rcases hk with hk | hk
 ·omega
 ·rcases str_le.1 h3 with h3 | h3
  ·exact str_le_lt h2 h3
  ·exact absurd h3.symm hk
theorem tab_rises (l : List Str) : (tabL l).Pairwise (· < ·) := by
 have hs := ssorted l
 unfold tabL Go.Lib.compact
 generalize (l.mergeSort fun x y => decide (x ≤ y)) = m at *
 refine scompact_rises _ (fun i j hij hj => ?_) _ (by simp)
 have hj' : j < m.length := by simpa using hj
 rw [getElem!_pos m.toArray i (by simp; omega), getElem!_pos m.toArray j hj]
 simp only [List.getElem_toArray]
 rcases Nat.lt_or_eq_of_le hij with h | h
 ·exact List.pairwise_iff_getElem.1 hs i j (by omega) hj' h
 ·subst h; exact str_le.2 (.inr rfl)
theorem tab_mem (l : List Str) (z : Str) : z ∈ tabL l ↔ z ∈ l := by
 have hp : (l.mergeSort fun x y => decide (x ≤ y)).Perm l := List.mergeSort_perm l _
 rw [← hp.mem_iff]
 unfold tabL Go.Lib.compact
 generalize (l.mergeSort fun x y => decide (x ≤ y)) = m
 constructor
 ·intro h
  obtain ⟨j, hj, rfl⟩ := scompact_from _ _ h
  rw [getElem!_pos m.toArray j (by simpa using hj)]
  simp
 ·intro h
  obtain ⟨j, hj, rfl⟩ := List.mem_iff_getElem.1 h
  have := scompact_mem m.toArray m.length j hj
  rw [getElem!_pos m.toArray j (by simpa using hj)] at this
  simpa using this
theorem tab_len (l : List Str) : (tabL l).length ≤ l.length := by
 unfold tabL Go.Lib.compact Go.Lib.compactUpTo
 rw [List.length_map]
 refine Nat.le_trans (List.length_filter_le _ _) ?_
 simp
/-- What is rising, of the same texts, is the table. -/
theorem tab_eq {l m : List Str} (h : m.Pairwise (· < ·)) (hm : ∀ x, x ∈ m ↔ x ∈ l) : tabL l = m := srises_eq (tab_rises l) h (fun x => by rw [tab_mem, hm])
/-- Where a text is in a row that rises; or -1. -/
def atL (L : List Str) (s : Str) : Int := if s ∈ L then (L.idxOf s : Int) else -1
theorem at_out {L : List Str} {s : Str} (h : s ∉ L) : atL L s = -1 := by unfold atL; rw [if_neg h]
theorem at_in {L : List Str} {s : Str} (h : s ∈ L) : atL L s = (L.idxOf s : Int) := by unfold atL; rw [if_pos h]
theorem rises_get {L : List Str} (h : L.Pairwise (· < ·)) {i j : Nat} {x y : Str} (hx : L[i]? = some x) (hy : L[j]? = some y) (hij : i < j) : x < y := by
 obtain ⟨h1, e1⟩ := List.getElem?_eq_some_iff.1 hx
 obtain ⟨h2, e2⟩ := List.getElem?_eq_some_iff.1 hy
 rw [← e1, ← e2]
 exact List.pairwise_iff_getElem.1 h i j h1 h2 hij
theorem at_get {L : List Str} (h : L.Pairwise (· < ·)) {i : Nat} {s : Str} (hx : L[i]? = some s) : atL L s = (i : Int) := by
 have hm : s ∈ L := List.mem_of_getElem? hx
 rw [at_in hm]
 have h1 : L[L.idxOf s]? = some s := by
  have := List.idxOf_lt_length_iff.2 hm
  rw [List.getElem?_eq_getElem this, List.getElem_idxOf]
 rcases Nat.lt_trichotomy (L.idxOf s) i with q | q | q
 ·exact absurd (rises_get h h1 hx q) (str_irrefl s)
 ·rw [q]
 ·exact absurd (rises_get h hx h1 q) (str_irrefl s)
end Go.Proofs.YtckikkkdabpjkaaGreat
/-
 Roles and statements as texts; their orders; rows in order, each once: of any kind. No program in sight.
-/
set_option linter.unusedVariables false
set_option linter.unusedSimpArgs false
set_option linter.unnecessarySimpa false
namespace Go.Proofs.YtckikkkdabpjkaaGreat
/-- A strict order in which any two can be held against each other. -/
structure LO {α : Type} (lt : α → α → Prop) : Prop where
 irrefl : ∀ a, ¬ lt a a
 trans : ∀ {a b c}, lt a b → lt b c → lt a c
 total : ∀ a b, lt a b ∨ a = b ∨ lt b a
section
variable {α : Type} {lt : α → α → Prop}
/-- Two rising rows of the same things are one. -/
theorem LO.rises_eq (o : LO lt) : ∀ {a b : List α}, a.Pairwise lt → b.Pairwise lt → (∀ x, x ∈ a ↔ x ∈ b) → a = b
 | [], [], _, _, _ => rfl
 | [], y :: b, _, _, h => absurd ((h y).2 (by simp)) (by simp)
 | x :: a, [], _, _, h => absurd ((h x).1 (by simp)) (by simp)
 | x :: a, y :: b, ha, hb, h => by
  have ha' := List.pairwise_cons.1 ha
  have hb' := List.pairwise_cons.1 hb
  have hxy : x = y := by
   have h1 := (h x).1 (by simp)
   have h2 := (h y).2 (by simp)
   rcases List.mem_cons.1 h1 with e | e
   ·exact e
   ·rcases List.mem_cons.1 h2 with e2 | e2
    ·exact e2.symm
    ·exact absurd (o.trans (ha'.1 y e2) (hb'.1 x e)) (o.irrefl x)
  subst hxy
  congr 1
  refine o.rises_eq ha'.2 hb'.2 (fun z => ?_)
  constructor
  ·intro hz
   rcases List.mem_cons.1 ((h z).1 (List.mem_cons_of_mem _ hz)) with e | e
   ·exact absurd (ha'.1 z hz) (e ▸ o.irrefl x)
   ·exact e
  ·intro hz
   rcases List.mem_cons.1 ((h z).2 (List.mem_cons_of_mem _ hz)) with e | e
   ·exact absurd (hb'.1 z hz) (e ▸ o.irrefl x)
   ·exact e
/-- How many of a row, from its start, are ahead of one thing. -/
def aheadO (lt : α → α → Prop) [DecidableRel lt] (s : α) : List α → Nat
 | [] => 0
 | x :: l => if lt x s then aheadO lt s l + 1 else 0
/-- One more, in its place, if it isn't in. -/
def putO (lt : α → α → Prop) [DecidableRel lt] [DecidableEq α] (l : List α) (s : α) : List α :=
 if s ∈ l then l else l.take (aheadO lt s l) ++ [s] ++ l.drop (aheadO lt s l)
def sortO (lt : α → α → Prop) [DecidableRel lt] [DecidableEq α] (l : List α) : List α := l.foldl (putO lt) []
section
variable [DecidableRel lt]
theorem ahead_le (s : α) : ∀ l : List α, aheadO lt s l ≤ l.length
 | [] => Nat.le_refl _
 | x :: l => by
  have := ahead_le s l
  unfold aheadO
  split
  ·exact Nat.succ_le_succ this
  ·exact Nat.zero_le _
theorem ahead_lt (s : α) : ∀ (l : List α) (j : Nat) (x : α), j < aheadO lt s l → l[j]? = some x → lt x s
 | [], j, x, h, _ => absurd h (Nat.not_lt_zero _)
 | y :: l, j, x, h, hx => by
  unfold aheadO at h
  split at h
  ·rename_i hy
   cases j with
   | zero => simp at hx; subst hx; exact hy
   | succ j => exact ahead_lt s l j x (by omega) (by simpa using hx)
  ·omega
theorem ahead_at (s : α) : ∀ (l : List α) (x : α), l[aheadO lt s l]? = some x → ¬ lt x s
 | [], x, hx => by simp [aheadO] at hx
 | y :: l, x, hx => by
  unfold aheadO at hx
  split at hx
  ·rename_i hy
   exact ahead_at s l x (by simpa using hx)
  ·rename_i hy
   simp at hx; subst hx; exact hy
end
variable [DecidableRel lt] [DecidableEq α]
theorem putO_mem (l : List α) (s z : α) : z ∈ putO lt l s ↔ z ∈ l ∨ z = s := by
 unfold putO
 split
 ·rename_i h
  exact ⟨.inl, fun q => q.elim id (fun e => e ▸ h)⟩
 ·rw [List.mem_append, List.mem_append, List.mem_singleton]
  constructor
  ·rintro ((h | h) | h)
   ·exact .inl (List.mem_of_mem_take h)
   ·exact .inr h
   ·exact .inl (List.mem_of_mem_drop h)
  ·rintro (h | h)
   ·rw [← List.take_append_drop (aheadO lt s l) l, List.mem_append] at h
    rcases h with h | h
    ·exact .inl (.inl h)
    ·exact .inr h
   ·exact .inl (.inr h)
theorem putO_rises (o : LO lt) {l : List α} (h : l.Pairwise lt) (s : α) : (putO lt l s).Pairwise lt := by
 unfold putO
 split
 ·exact h
 ·rename_i hs
  have ht : ∀ x, x ∈ l.take (aheadO lt s l) → lt x s := fun x hx => by
   obtain ⟨j, hj⟩ := List.getElem?_of_mem hx
   have hj2 := (List.getElem?_eq_some_iff.1 hj).1
   rw [List.length_take] at hj2
   rw [List.getElem?_take_of_lt (by omega)] at hj
   exact ahead_lt s l j x (by omega) hj
  have hd : ∀ x, x ∈ l.drop (aheadO lt s l) → lt s x := fun x hx => by
   obtain ⟨j, hj⟩ := List.getElem?_of_mem hx
   rw [List.getElem?_drop] at hj
   have hlt : aheadO lt s l < l.length := by have := (List.getElem?_eq_some_iff.1 hj).1; omega
   have hy := List.getElem?_eq_getElem hlt
   have h1 := ahead_at s l _ hy
   have h2 : lt s l[aheadO lt s l] := by
    rcases o.total s l[aheadO lt s l] with e | e | e
    ·exact e
    ·exact absurd (e ▸ List.getElem_mem hlt) hs
    ·exact absurd e h1
   cases j with
   | zero =>
    rw [Nat.add_zero, hy] at hj
    simp only [Option.some.injEq] at hj
    rw [← hj]; exact h2
   | succ j =>
    obtain ⟨hj3, e⟩ := List.getElem?_eq_some_iff.1 hj
    have h3 := List.pairwise_iff_getElem.1 h _ _ hlt hj3 (by omega)
    rw [e] at h3
    exact o.trans h2 h3
  rw [List.pairwise_append, List.pairwise_append]
  refine ⟨⟨h.sublist (List.take_sublist _ _), List.pairwise_singleton _ _, fun x hx y hy => ?_⟩, h.sublist (List.drop_sublist _ _), fun x hx y hy => ?_⟩
  ·rw [List.mem_singleton] at hy; subst hy; exact ht x hx
  ·rw [List.mem_append, List.mem_singleton] at hx
   rcases hx with hx | hx
   ·exact o.trans (ht x hx) (hd y hy)
   ·subst hx; exact hd y hy
theorem putsO_rises (o : LO lt) : ∀ (l a : List α), a.Pairwise lt → (l.foldl (putO lt) a).Pairwise lt
 | [], a, h => h
 | s :: l, a, h => putsO_rises o l _ (putO_rises o h s)
theorem putsO_mem : ∀ (l a : List α) (z : α), z ∈ l.foldl (putO lt) a ↔ z ∈ a ∨ z ∈ l
 | [], a, z => by simp
 | s :: l, a, z => by
  rw [List.foldl_cons, putsO_mem l _ z, putO_mem, List.mem_cons, or_assoc]
theorem sortO_rises (o : LO lt) (l : List α) : (sortO lt l).Pairwise lt := putsO_rises o l [] List.Pairwise.nil
theorem sortO_mem (l : List α) (z : α) : z ∈ sortO lt l ↔ z ∈ l := by
 unfold sortO
 rw [putsO_mem]
 simp
/-- Whatever rises and has the same is the row in order. -/
theorem sortO_eq (o : LO lt) {l a : List α} (h : a.Pairwise lt) (hm : ∀ x, x ∈ a ↔ x ∈ l) : a = sortO lt l :=
 o.rises_eq h (sortO_rises o l) (fun x => (hm x).trans (sortO_mem l x).symm)
end
theorem strO : LO (α := Str) (· < ·) := ⟨str_irrefl, str_trans, str_total⟩
/-- Two orders, one behind the other. -/
def lexO {α β : Type} (p : α → α → Prop) (q : β → β → Prop) (a b : α × β) : Prop := p a.1 b.1 ∨ (a.1 = b.1 ∧ q a.2 b.2)
theorem lexO_lo {α β : Type} {p : α → α → Prop} {q : β → β → Prop} (hp : LO p) (hq : LO q) : LO (lexO p q) := by
 refine ⟨?_, ?_, ?_⟩
 ·rintro a (h | h)
  ·exact hp.irrefl _ h
  ·exact hq.irrefl _ h.2
 ·rintro a b c (h | h) (k | k)
  ·exact .inl (hp.trans h k)
  ·exact .inl (k.1 ▸ h)
  ·exact .inl (h.1 ▸ k)
  ·exact .inr ⟨h.1.trans k.1, hq.trans h.2 k.2⟩
 ·rintro ⟨a1, a2⟩ ⟨b1, b2⟩
  rcases hp.total a1 b1 with h | h | h
  ·exact .inl (.inl h)
  ·subst h
   rcases hq.total a2 b2 with h | h | h
   ·exact .inl (.inr ⟨rfl, h⟩)
   ·subst h; exact .inr (.inl rfl)
   ·exact .inr (.inr (.inr ⟨rfl, h⟩))
  ·exact .inr (.inr (.inl h))
instance {α β : Type} {p : α → α → Prop} {q : β → β → Prop} [DecidableRel p] [DecidableRel q] [DecidableEq α] : DecidableRel (lexO p q) := fun a b => by unfold lexO; exact inferInstance
/-- What a comparison answers: -1, 0 or 1. -/
def cmpO {α : Type} (p : α → α → Prop) [DecidableRel p] (a b : α) : Int := if p a b then -1 else if p b a then 1 else 0
theorem cmpO_lex {α β : Type} {p : α → α → Prop} {q : β → β → Prop} (hp : LO p) [DecidableRel p] [DecidableRel q] [DecidableEq α] (a b : α × β) : cmpO (lexO p q) a b = if cmpO p a.1 b.1 = 0 then cmpO q a.2 b.2 else cmpO p a.1 b.1 := by
 unfold cmpO
 rcases hp.total a.1 b.1 with h | h | h
 ·have hl : lexO p q a b := .inl h
  rw [if_pos hl, if_pos h]
  rfl
 ·have h1 : ¬ p a.1 b.1 := by rw [h]; exact hp.irrefl _
  have h2 : ¬ p b.1 a.1 := by rw [h]; exact hp.irrefl _
  rw [if_neg h1, if_neg h2, if_pos rfl]
  by_cases k : q a.2 b.2
  ·have hl : lexO p q a b := .inr ⟨h, k⟩
   rw [if_pos hl, if_pos k]
  ·have hl : ¬ lexO p q a b := fun hl => hl.elim h1 (fun x => k x.2)
   rw [if_neg hl, if_neg k]
   by_cases k2 : q b.2 a.2
   ·have hl2 : lexO p q b a := .inr ⟨h.symm, k2⟩
    rw [if_pos hl2, if_pos k2]
   ·have hl2 : ¬ lexO p q b a := fun hl => hl.elim h2 (fun x => k2 x.2)
    rw [if_neg hl2, if_neg k2]
 ·have h1 : ¬ p a.1 b.1 := fun k => hp.irrefl _ (hp.trans h k)
  have h2 : ¬ a.1 = b.1 := fun e => by rw [e] at h; exact hp.irrefl _ h
  have hl : ¬ lexO p q a b := fun hl => hl.elim h1 (fun x => h2 x.1)
  have hl2 : lexO p q b a := .inl h
  rw [if_neg hl, if_pos hl2, if_neg h1, if_pos h]
  rfl
/-- Roles, and their order. -/
abbrev Rol := Str × Str
def rolLt : Rol → Rol → Prop := lexO (· < ·) (· < ·)
instance : DecidableRel rolLt := fun a b => by unfold rolLt; exact inferInstance
theorem rolO : LO rolLt := lexO_lo strO strO
/-- Statements, and their order: head, kind, who, a, b, via. -/
abbrev Stm := Rol × Int × Str × Rol × Rol × Str
instance decStr : DecidableEq Str := instDecidableEqList
instance decRol : DecidableEq Rol := @instDecidableEqProd _ _ decStr decStr
instance decSt5 : DecidableEq (Rol × Str) := @instDecidableEqProd _ _ decRol decStr
instance decSt4 : DecidableEq (Rol × Rol × Str) := @instDecidableEqProd _ _ decRol decSt5
instance decSt3 : DecidableEq (Str × Rol × Rol × Str) := @instDecidableEqProd _ _ decStr decSt4
instance decSt2 : DecidableEq (Int × Str × Rol × Rol × Str) := @instDecidableEqProd _ _ Int.instDecidableEq decSt3
instance decStm : DecidableEq Stm := @instDecidableEqProd _ _ decRol decSt2
def st5 : Rol × Str → Rol × Str → Prop := lexO rolLt (· < ·)
instance : DecidableRel st5 := fun a b => by unfold st5; exact inferInstance
def st4 : Rol × Rol × Str → Rol × Rol × Str → Prop := lexO rolLt st5
instance : DecidableRel st4 := fun a b => by unfold st4; exact inferInstance
def st3 : Str × Rol × Rol × Str → Str × Rol × Rol × Str → Prop := lexO (· < ·) st4
instance : DecidableRel st3 := fun a b => by unfold st3; exact inferInstance
def intLt : Int → Int → Prop := (· < ·)
instance : DecidableRel intLt := fun a b => by unfold intLt; exact inferInstance
theorem intO : LO intLt := ⟨Int.lt_irrefl, Int.lt_trans, fun a b => by unfold intLt; omega⟩
def st2 : Int × Str × Rol × Rol × Str → Int × Str × Rol × Rol × Str → Prop := lexO intLt st3
instance : DecidableRel st2 := fun a b => by unfold st2; exact inferInstance
def stmLt : Stm → Stm → Prop := lexO rolLt st2
instance : DecidableRel stmLt := fun a b => by unfold stmLt; exact inferInstance
theorem stmO : LO stmLt := lexO_lo rolO (lexO_lo intO (lexO_lo strO (lexO_lo rolO (lexO_lo rolO strO))))
end Go.Proofs.YtckikkkdabpjkaaGreat
/-
 The document's table: each text put where it belongs. No program in sight.
-/
set_option linter.unusedVariables false
set_option linter.unusedSimpArgs false
namespace Go.Proofs.YtckikkkdabpjkaaGreat
def insS (s : Str) : List Str → List Str
 | [] => [s]
 | x :: l => if s < x then s :: x :: l else x :: insS s l
theorem ins_cons (s x : Str) (l : List Str) : insS s (x :: l) = if s < x then s :: x :: l else x :: insS s l := rfl
theorem ins_mem (s : Str) : ∀ (l : List Str) (z : Str), z ∈ insS s l ↔ z = s ∨ z ∈ l
 | [], z => by simp [insS]
 | x :: l, z => by
  unfold insS
  split
  ·simp
  ·rw [List.mem_cons, ins_mem s l z, List.mem_cons]
   constructor
   ·rintro (h | h | h)
    ·exact .inr (.inl h)
    ·exact .inl h
    ·exact .inr (.inr h)
   ·rintro (h | h | h)
    ·exact .inr (.inl h)
    ·exact .inl h
    ·exact .inr (.inr h)
theorem ins_rises (s : Str) : ∀ {l : List Str}, l.Pairwise (· < ·) → s ∉ l → (insS s l).Pairwise (· < ·)
 | [], _, _ => by simp [insS]
 | x :: l, h, hs => by
  have h' := List.pairwise_cons.1 h
  unfold insS
  split
  ·rename_i hlt
   refine List.pairwise_cons.2 ⟨fun y hy => ?_, h⟩
   rcases List.mem_cons.1 hy with rfl | hy
   ·exact hlt
   ·exact str_trans hlt (h'.1 y hy)
  ·rename_i hlt
   have hx : x < s := by
    rcases str_total x s with q | q | q
    ·exact q
    ·exact absurd (by rw [q]; simp) hs
    ·exact absurd q hlt
   refine List.pairwise_cons.2 ⟨fun y hy => ?_, ins_rises s h'.2 (fun q => hs (List.mem_cons_of_mem _ q))⟩
   rcases (ins_mem s l y).1 hy with rfl | hy
   ·exact hx
   ·exact h'.1 y hy
theorem ins_len (s : Str) : ∀ l : List Str, (insS s l).length = l.length + 1
 | [] => rfl
 | x :: l => by
  unfold insS
  split
  ·simp
  ·simp [ins_len s l]
def putS (l : List Str) (s : Str) : List Str := if s ∈ l then l else insS s l
theorem put_rises {l : List Str} (h : l.Pairwise (· < ·)) (s : Str) : (putS l s).Pairwise (· < ·) := by
 unfold putS
 split
 ·exact h
 ·rename_i hs; exact ins_rises s h hs
theorem put_mem (l : List Str) (s z : Str) : z ∈ putS l s ↔ z ∈ l ∨ z = s := by
 unfold putS
 split
 ·rename_i h
  exact ⟨.inl, fun q => q.elim id (fun e => e ▸ h)⟩
 ·rw [ins_mem]; exact or_comm
theorem puts_rises : ∀ (l a : List Str), a.Pairwise (· < ·) → (l.foldl putS a).Pairwise (· < ·)
 | [], a, h => h
 | s :: l, a, h => puts_rises l _ (put_rises h s)
theorem puts_mem : ∀ (l a : List Str) (z : Str), z ∈ l.foldl putS a ↔ z ∈ a ∨ z ∈ l
 | [], a, z => by simp
 | s :: l, a, z => by
  rw [List.foldl_cons, puts_mem l _ z, put_mem, List.mem_cons]
  constructor
  ·rintro ((h | h) | h)
   ·exact .inl h
   ·exact .inr (.inl h)
   ·exact .inr (.inr h)
  ·rintro (h | h | h)
   ·exact .inl (.inl h)
   ·exact .inl (.inr h)
   ·exact .inr h
theorem puts_tab (l : List Str) : l.foldl putS [] = tabL l := (tab_eq (puts_rises l [] List.Pairwise.nil) (fun x => by rw [puts_mem]; simp)).symm
/-- Where the document's loop stands. -/
structure InsI (s : Str) (l : List Str) (i : Nat) (done : Bool) (out : List Str) : Prop where
 no : done = false → out = l.take i ∧ insS s l = l.take i ++ insS s (l.drop i)
 yes : done = true → out = (insS s l).take (i + 1) ∧ ∀ k, i ≤ k → (insS s l)[k + 1]? = l[k]?
theorem insI_start (s : Str) (l : List Str) : InsI s l 0 false [] := ⟨fun _ => ⟨by simp, by simp⟩, fun h => by cases h⟩
theorem InsI.before {s : Str} {l : List Str} {i : Nat} {out : List Str} {x : Str} (h : InsI s l i false out) (hx : l[i]? = some x) (hlt : s < x) : InsI s l (i + 1) true (out ++ [s] ++ [x]) := by
 obtain ⟨rfl, h2⟩ := h.no rfl
 obtain ⟨hi, e⟩ := List.getElem?_eq_some_iff.1 hx
 have hd : l.drop i = x :: l.drop (i + 1) := by rw [← e]; exact List.drop_eq_getElem_cons hi
 rw [hd, ins_cons, if_pos hlt] at h2
 have hlen : (l.take i).length = i := by rw [List.length_take]; omega
 refine ⟨(by intro h; cases h), fun _ => ⟨?_, fun k hk => ?_⟩⟩
 ·have e2 : l.take i ++ s :: x :: l.drop (i + 1) = (l.take i ++ [s] ++ [x]) ++ l.drop (i + 1) := by simp
  rw [h2, e2, List.take_left']
  rw [List.length_append, List.length_append, hlen]; rfl
 ·rw [h2]
  have e2 : l.take i ++ s :: x :: l.drop (i + 1) = (l.take i ++ [s]) ++ (x :: l.drop (i + 1)) := by simp
  have hl2 : (l.take i ++ [s]).length = i + 1 := by rw [List.length_append, hlen]; rfl
  rw [e2, List.getElem?_append_right (by omega), hl2, ← hd, List.getElem?_drop]
  congr 1; omega
theorem InsI.pass {s : Str} {l : List Str} {i : Nat} {out : List Str} {x : Str} (h : InsI s l i false out) (hx : l[i]? = some x) (hlt : ¬ s < x) : InsI s l (i + 1) false (out ++ [x]) := by
 obtain ⟨rfl, h2⟩ := h.no rfl
 obtain ⟨hi, e⟩ := List.getElem?_eq_some_iff.1 hx
 have hd : l.drop i = x :: l.drop (i + 1) := by rw [← e]; exact List.drop_eq_getElem_cons hi
 have ht : l.take (i + 1) = l.take i ++ [x] := by rw [List.take_add_one, hx]; rfl
 rw [hd, ins_cons, if_neg hlt] at h2
 exact ⟨fun _ => ⟨ht.symm, by rw [ht, h2]; simp⟩, fun h => by cases h⟩
theorem InsI.on {s : Str} {l : List Str} {i : Nat} {out : List Str} {x : Str} (h : InsI s l i true out) (hx : l[i]? = some x) : InsI s l (i + 1) true (out ++ [x]) := by
 obtain ⟨rfl, h2⟩ := h.yes rfl
 refine ⟨(by intro h; cases h), fun _ => ⟨?_, fun k hk => h2 k (by omega)⟩⟩
 have := h2 i (Nat.le_refl _)
 rw [hx] at this
 rw [List.take_add_one (l := insS s l) (i := i + 1), this]
 rfl
theorem InsI.done {s : Str} {l : List Str} {out : List Str} (h : InsI s l l.length true out) : out = insS s l := by
 obtain ⟨rfl, _⟩ := h.yes rfl
 rw [List.take_of_length_le (by rw [ins_len]; exact Nat.le_refl _)]
theorem InsI.last {s : Str} {l : List Str} {out : List Str} (h : InsI s l l.length false out) : out ++ [s] = insS s l := by
 obtain ⟨rfl, h2⟩ := h.no rfl
 rw [h2, List.drop_length]
 rfl
end Go.Proofs.YtckikkkdabpjkaaGreat
/-
 Statements, queries, policies; what they name. No program in sight.
-/
set_option linter.unusedVariables false
set_option linter.unusedSimpArgs false
namespace Go.Proofs.YtckikkkdabpjkaaGreat
def noRol : Rol := ([], [])
/-- A query: kind, a, b, who. -/
abbrev Qry := Int × Rol × Rol × List Str
/-- A policy: statements, grow, shrink, queries. -/
abbrev Pol := List Stm × List Rol × List Rol × List Qry
/-- The roles of a statement, of a query, of a policy. -/
def rolesS (x : Stm) : List Rol := x.1 :: ((if 2 ≤ x.2.1 ∧ x.2.1 ≤ 4 then [x.2.2.2.1] else []) ++ (if x.2.1 = 4 then [x.2.2.2.2.1] else []))
def rolesQ (q : Qry) : List Rol := q.2.1 :: (if q.1 = 5 ∨ q.1 = 6 then [q.2.2.1] else [])
def rolesL (p : Pol) : List Rol := p.1.flatMap rolesS ++ p.2.1 ++ p.2.2.1 ++ p.2.2.2.flatMap rolesQ
def prinsS (x : Stm) : List Str := if x.2.1 = 1 then [x.2.2.1] else []
def viasS (x : Stm) : List Str := if x.2.1 = 3 then [x.2.2.2.2.2] else []
/-- All that a policy names, as it comes. -/
def prinsA (p : Pol) : List Str := (rolesL p).map (·.1) ++ p.1.flatMap prinsS ++ p.2.2.2.flatMap (fun q => q.2.2.2)
def namesA (p : Pol) : List Str := (rolesL p).map (·.2) ++ p.1.flatMap viasS
end Go.Proofs.YtckikkkdabpjkaaGreat
/-
 What of a policy a query hangs on: roles and names, till nothing more comes. No program in sight.
-/
set_option linter.unusedVariables false
set_option linter.unusedSimpArgs false
namespace Go.Proofs.YtckikkkdabpjkaaGreat
theorem rises_le {α : Type} [DecidableEq α] {lt : α → α → Prop} (o : LO lt) : ∀ (R U : List α), R.Pairwise lt → (∀ x ∈ R, x ∈ U) → R.length ≤ U.length
 | [], U, _, _ => Nat.zero_le _
 | x :: R, U, hp, hs => by
  have hp := List.pairwise_cons.1 hp
  have hx := hs x (List.mem_cons_self ..)
  have ih := rises_le o R (U.erase x) hp.2 (fun y hy => (List.mem_erase_of_ne (fun e => o.irrefl x (by have := hp.1 y hy; rw [e] at this; exact this))).2 (hs y (List.mem_cons_of_mem _ hy)))
  rw [List.length_erase_of_mem hx] at ih
  have := List.length_pos_of_mem hx
  simp only [List.length_cons]
  omega
/-- Does a role count, of what is known? -/
def hasV (R : List Rol) (L : List Str) (r : Rol) : Bool := decide (r ∈ R) || decide (r.2 ∈ L)
def boundB (g h : List Rol) (r : Rol) : Bool := decide (r ∈ g) || decide (r ∈ h)
def folB (g h : List Rol) (R : List Rol) (L : List Str) (x : Stm) : Bool := hasV R L x.1 && boundB g h x.1
/-- What a statement looks at. -/
def moreS (x : Stm) : List Rol := (if 2 ≤ x.2.1 ∧ x.2.1 ≤ 4 then [x.2.2.2.1] else []) ++ (if x.2.1 = 4 then [x.2.2.2.2.1] else [])
def viaS (x : Stm) : List Str := if x.2.1 = 3 then [x.2.2.2.2.2] else []
def addR (R : List Rol) (x : Stm) : List Rol := sortO rolLt (R ++ moreS x)
def addL (L : List Str) (x : Stm) : List Str := tabL (L ++ viaS x)
theorem hasV_mono {R R' : List Rol} {L L' : List Str} {r : Rol} (hR : ∀ x ∈ R, x ∈ R') (hL : ∀ x ∈ L, x ∈ L') (h : hasV R L r = true) : hasV R' L' r = true := by
 unfold hasV at *
 simp only [Bool.or_eq_true, decide_eq_true_eq] at *
 exact h.imp (hR _) (hL _)
theorem folB_mono {g h : List Rol} {R R' : List Rol} {L L' : List Str} {x : Stm} (hR : ∀ x ∈ R, x ∈ R') (hL : ∀ x ∈ L, x ∈ L') (q : folB g h R L x = true) : folB g h R' L' x = true := by
 unfold folB at *
 simp only [Bool.and_eq_true] at *
 exact ⟨hasV_mono hR hL q.1, q.2⟩
theorem addR_mem (R : List Rol) (x : Stm) (r : Rol) : r ∈ addR R x ↔ r ∈ R ∨ r ∈ moreS x := by unfold addR; rw [sortO_mem, List.mem_append]
theorem addL_mem (L : List Str) (x : Stm) (t : Str) : t ∈ addL L x ↔ t ∈ L ∨ t ∈ viaS x := by unfold addL; rw [tab_mem, List.mem_append]
section
variable (g h : List Rol) (l : List Stm) (A B : Rol)
/-- Nothing more comes. -/
def Shut2 (R : List Rol) (L : List Str) : Prop := ∀ x ∈ l, folB g h R L x = true → (∀ r ∈ moreS x, r ∈ R) ∧ ∀ t ∈ viaS x, t ∈ L
/-- What is known on the way: in order, the query's two roles, and nothing that needn't be. -/
structure OnWay (R : List Rol) (L : List Str) : Prop where
 rs : R.Pairwise rolLt
 ls : L.Pairwise (· < ·)
 hA : A ∈ R
 hB : B ∈ R
 least : ∀ R' L', A ∈ R' → B ∈ R' → Shut2 g h l R' L' → (∀ r ∈ R, r ∈ R') ∧ ∀ t ∈ L, t ∈ L'
variable {g h l A B}
theorem OnWay.begin : OnWay g h l A B (sortO rolLt [A, B]) [] :=
 ⟨sortO_rises rolO _, List.Pairwise.nil, (sortO_mem _ _).2 (by simp), (sortO_mem _ _).2 (by simp), fun R' L' ha hb _ => ⟨fun r hr => by
  have := (sortO_mem _ _).1 hr
  simp only [List.mem_cons, List.not_mem_nil, or_false] at this
  rcases this with rfl | rfl
  ·exact ha
  ·exact hb, fun t ht => by cases ht⟩⟩
/-- One statement that is followed. -/
theorem OnWay.step {R R0 : List Rol} {L L0 : List Str} (q : OnWay g h l A B R L) (h0R : ∀ x ∈ R0, x ∈ R) (h0L : ∀ x ∈ L0, x ∈ L) {x : Stm} (hx : x ∈ l) (hf : folB g h R0 L0 x = true) : OnWay g h l A B (addR R x) (addL L x) :=
 ⟨sortO_rises rolO _, tab_rises _, (addR_mem ..).2 (.inl q.hA), (addR_mem ..).2 (.inl q.hB), fun R' L' ha hb hs => by
  obtain ⟨q1, q2⟩ := q.least R' L' ha hb hs
  have hz := hs x hx (folB_mono (fun r hr => q1 r (h0R r hr)) (fun t ht => q2 t (h0L t ht)) hf)
  exact ⟨fun r hr => ((addR_mem ..).1 hr).elim (q1 r) (hz.1 r), fun t ht => ((addL_mem ..).1 ht).elim (q2 t) (hz.2 t)⟩⟩
theorem OnWay.lens {R : List Rol} {L : List Str} (q : OnWay g h l A B R L) : R.length ≤ 2 + 2 * l.length ∧ L.length ≤ l.length := by
 have hU : Shut2 g h l ([A, B] ++ l.flatMap moreS) (l.flatMap viaS) := fun x hx _ => ⟨fun r hr => List.mem_append_right _ (List.mem_flatMap.2 ⟨x, hx, hr⟩), fun t ht => List.mem_flatMap.2 ⟨x, hx, ht⟩⟩
 obtain ⟨q1, q2⟩ := q.least _ _ (by simp) (by simp) hU
 have h1 := rises_le rolO R _ q.rs q1
 have h2 := rises_le strO L _ q.ls q2
 have e1 : ∀ m : List Stm, (m.flatMap moreS).length ≤ 2 * m.length := by
  intro m
  induction m with
  | nil => simp
  | cons x m ih =>
   have : (moreS x).length ≤ 2 := by unfold moreS; split <;> split <;> simp
   simp only [List.flatMap_cons, List.length_append, List.length_cons]
   omega
 have e2 : ∀ m : List Stm, (m.flatMap viaS).length ≤ m.length := by
  intro m
  induction m with
  | nil => simp
  | cons x m ih =>
   have : (viaS x).length ≤ 1 := by unfold viaS; split <;> simp
   simp only [List.flatMap_cons, List.length_append, List.length_cons]
   omega
 have := e1 l
 have := e2 l
 simp only [List.length_append, List.length_cons, List.length_nil] at h1
 omega
/-- The least of what is shut is one. -/
theorem OnWay.one {R R' : List Rol} {L L' : List Str} (q : OnWay g h l A B R L) (q' : OnWay g h l A B R' L') (hs : Shut2 g h l R L) (hs' : Shut2 g h l R' L') : R = R' ∧ L = L' := by
 obtain ⟨a1, a2⟩ := q.least _ _ q'.hA q'.hB hs'
 obtain ⟨b1, b2⟩ := q'.least _ _ q.hA q.hB hs
 exact ⟨rolO.rises_eq q.rs q'.rs (fun x => ⟨a1 x, b1 x⟩), strO.rises_eq q.ls q'.ls (fun x => ⟨a2 x, b2 x⟩)⟩
/-- Of two rows in order, one in the other, and as long: they are one. -/
theorem same_len {α : Type} [DecidableEq α] {lt : α → α → Prop} (o : LO lt) {a b : List α} (ha : a.Pairwise lt) (hb : b.Pairwise lt) (hs : ∀ x ∈ a, x ∈ b) (hl : b.length ≤ a.length) : a = b := by
 refine o.rises_eq ha hb (fun x => ⟨hs x, fun hx => ?_⟩)
 by_cases h : x ∈ a
 ·exact h
 ·exfalso
  have hb' : ∀ y ∈ a, y ∈ b.erase x := fun y hy => (List.mem_erase_of_ne (fun e => h (by rw [← e]; exact hy))).2 (hs y hy)
  have := rises_le o a _ ha hb'
  rw [List.length_erase_of_mem hx] at this
  have := List.length_pos_of_mem hx
  omega
/-- The program's round: what the statements look at that were followed when it began. -/
theorem OnWay.round {R : List Rol} {L : List Str} (q : OnWay g h l A B R L) : ∀ (m : List Stm) (R1 : List Rol) (L1 : List Str), (∀ x ∈ m, x ∈ l ∧ folB g h R L x = true) → OnWay g h l A B R1 L1 → (∀ x ∈ R, x ∈ R1) → (∀ x ∈ L, x ∈ L1) →
 OnWay g h l A B (m.foldl addR R1) (m.foldl addL L1) ∧ (∀ x ∈ R1, x ∈ m.foldl addR R1) ∧ (∀ x ∈ L1, x ∈ m.foldl addL L1) ∧ ∀ x ∈ m, (∀ r ∈ moreS x, r ∈ m.foldl addR R1) ∧ ∀ t ∈ viaS x, t ∈ m.foldl addL L1
 | [], R1, L1, _, q1, _, _ => ⟨q1, fun _ h => h, fun _ h => h, fun x h => by cases h⟩
 | y :: m, R1, L1, hm, q1, h1, h2 => by
  obtain ⟨hy, hf⟩ := hm y (List.mem_cons_self ..)
  obtain ⟨a1, a2, a3, a4⟩ := OnWay.round q m (addR R1 y) (addL L1 y) (fun x hx => hm x (List.mem_cons_of_mem _ hx)) (q1.step h1 h2 hy hf) (fun x hx => (addR_mem ..).2 (.inl (h1 x hx))) (fun x hx => (addL_mem ..).2 (.inl (h2 x hx)))
  refine ⟨a1, fun x hx => a2 x ((addR_mem ..).2 (.inl hx)), fun x hx => a3 x ((addL_mem ..).2 (.inl hx)), fun x hx => ?_⟩
  rcases List.mem_cons.1 hx with rfl | hx
  ·exact ⟨fun r hr => a2 r ((addR_mem ..).2 (.inr hr)), fun t ht => a3 t ((addL_mem ..).2 (.inr ht))⟩
  ·exact a4 x hx
/-- A round that brings nothing more: it is shut. -/
theorem OnWay.ended {R : List Rol} {L : List Str} (q : OnWay g h l A B R L) (hl : ((l.filter (folB g h R L)).foldl addR R).length + ((l.filter (folB g h R L)).foldl addL L).length ≤ R.length + L.length) : (l.filter (folB g h R L)).foldl addR R = R ∧ (l.filter (folB g h R L)).foldl addL L = L ∧ Shut2 g h l R L := by
 obtain ⟨a1, a2, a3, a4⟩ := q.round (l.filter (folB g h R L)) R L (fun x hx => List.mem_filter.1 hx) q (fun _ h => h) (fun _ h => h)
 have l1 := rises_le rolO R _ q.rs a2
 have l2 := rises_le strO L _ q.ls a3
 have e1 := same_len rolO q.rs a1.rs a2 (by omega)
 have e2 := same_len strO q.ls a1.ls a3 (by omega)
 rw [← e1, ← e2] at a4
 exact ⟨e1.symm, e2.symm, fun x hx hf => a4 x (List.mem_filter.2 ⟨hx, hf⟩)⟩
/-- The document's round: each statement as what is known then has it. -/
def refStep (g h : List Rol) (v : List Rol × List Str) (x : Stm) : List Rol × List Str := if folB g h v.1 v.2 x = true ∧ x.2.1 ≠ 1 then (addR v.1 x, addL v.2 x) else v
theorem OnWay.ref1 {v : List Rol × List Str} (q : OnWay g h l A B v.1 v.2) {x : Stm} (hx : x ∈ l) : OnWay g h l A B (refStep g h v x).1 (refStep g h v x).2 ∧ (∀ r ∈ v.1, r ∈ (refStep g h v x).1) ∧ ∀ t ∈ v.2, t ∈ (refStep g h v x).2 := by
 unfold refStep
 split
 ·rename_i hf
  exact ⟨q.step (fun _ h => h) (fun _ h => h) hx hf.1, fun r hr => (addR_mem ..).2 (.inl hr), fun t ht => (addL_mem ..).2 (.inl ht)⟩
 ·exact ⟨q, fun _ h => h, fun _ h => h⟩
theorem OnWay.refs : ∀ (m : List Stm) (v : List Rol × List Str), (∀ x ∈ m, x ∈ l) → OnWay g h l A B v.1 v.2 → OnWay g h l A B (m.foldl (refStep g h) v).1 (m.foldl (refStep g h) v).2 ∧ (∀ r ∈ v.1, r ∈ (m.foldl (refStep g h) v).1) ∧ (∀ t ∈ v.2, t ∈ (m.foldl (refStep g h) v).2) ∧ ∀ x ∈ m, folB g h v.1 v.2 x = true → (∀ r ∈ moreS x, r ∈ (m.foldl (refStep g h) v).1) ∧ ∀ t ∈ viaS x, t ∈ (m.foldl (refStep g h) v).2
 | [], v, _, q => ⟨q, fun _ h => h, fun _ h => h, fun x h => by cases h⟩
 | y :: m, v, hm, q => by
  obtain ⟨b1, b2, b3⟩ := q.ref1 (hm y (List.mem_cons_self ..))
  obtain ⟨a1, a2, a3, a4⟩ := OnWay.refs m (refStep g h v y) (fun x hx => hm x (List.mem_cons_of_mem _ hx)) b1
  refine ⟨a1, fun r hr => a2 r (b2 r hr), fun t ht => a3 t (b3 t ht), fun x hx hf => ?_⟩
  rcases List.mem_cons.1 hx with rfl | hx
  ·by_cases hk : x.2.1 = 1
   ·have e1 : moreS x = [] := by unfold moreS; rw [hk]; rfl
    have e2 : viaS x = [] := by unfold viaS; rw [hk]; rfl
    rw [e1, e2]
    exact ⟨fun r hr => (by cases hr), fun t ht => (by cases ht)⟩
   ·have e : refStep g h v x = (addR v.1 x, addL v.2 x) := by unfold refStep; rw [if_pos ⟨hf, hk⟩]
    exact ⟨fun r hr => a2 r (by rw [e]; exact (addR_mem ..).2 (.inr hr)), fun t ht => a3 t (by rw [e]; exact (addL_mem ..).2 (.inr ht))⟩
  ·exact a4 x hx (folB_mono b2 b3 hf)
/-- So many of the document's rounds. -/
def refRounds (g h : List Rol) (l : List Stm) : Nat → List Rol × List Str → List Rol × List Str
 | 0, v => v
 | n + 1, v => refRounds g h l n (l.foldl (refStep g h) v)
theorem refRounds_succ (g h : List Rol) (l : List Stm) : ∀ (n : Nat) (v : List Rol × List Str), refRounds g h l (n + 1) v = l.foldl (refStep g h) (refRounds g h l n v)
 | 0, v => rfl
 | n + 1, v => refRounds_succ g h l n _
/-- Behind so many rounds it is shut, or so much is known. -/
theorem OnWay.rounds {v : List Rol × List Str} (q : OnWay g h l A B v.1 v.2) : ∀ n : Nat, OnWay g h l A B (refRounds g h l n v).1 (refRounds g h l n v).2 ∧ (Shut2 g h l (refRounds g h l n v).1 (refRounds g h l n v).2 ∨ n ≤ (refRounds g h l n v).1.length + (refRounds g h l n v).2.length)
 | 0 => ⟨q, .inr (Nat.zero_le _)⟩
 | n + 1 => by
  obtain ⟨a, b⟩ := OnWay.rounds q n
  rw [refRounds_succ]
  generalize refRounds g h l n v = u at *
  obtain ⟨c1, c2, c3, c4⟩ := OnWay.refs l u (fun _ h => h) a
  refine ⟨c1, ?_⟩
  have l1 := rises_le rolO _ _ a.rs c2
  have l2 := rises_le strO _ _ a.ls c3
  by_cases hl : (l.foldl (refStep g h) u).1.length + (l.foldl (refStep g h) u).2.length ≤ u.1.length + u.2.length
  ·have e1 := same_len rolO a.rs c1.rs c2 (by omega)
   have e2 := same_len strO a.ls c1.ls c3 (by omega)
   refine .inl (fun x hx hf => ?_)
   rw [← e1, ← e2] at hf
   exact c4 x hx hf
  ·rcases b with b | b
   ·refine .inl ?_
    have hk : ∀ m : List Stm, (∀ x ∈ m, x ∈ l) → m.foldl (refStep g h) u = u := by
     intro m
     induction m with
     | nil => intro _; rfl
     | cons y m ih =>
      intro hm
      have e : refStep g h u y = u := by
       unfold refStep
       split
       ·rename_i hf
        obtain ⟨z1, z2⟩ := b y (hm y (List.mem_cons_self ..)) hf.1
        have w1 : addR u.1 y = u.1 := (rolO.rises_eq (sortO_rises rolO _) a.rs (fun r => by rw [addR_mem]; exact ⟨fun q => q.elim id (z1 r), .inl⟩))
        have w2 : addL u.2 y = u.2 := tab_eq a.ls (fun t => by rw [List.mem_append]; exact ⟨.inl, fun q => q.elim id (z2 t)⟩)
        rw [w1, w2]
       ·rfl
      rw [List.foldl_cons, e]
      exact ih (fun x hx => hm x (List.mem_cons_of_mem _ hx))
    rw [hk l (fun _ h => h)]
    exact b
   ·exact .inr (by omega)
end
/-- The rest of what a query hangs on. -/
def whosV (g h : List Rol) (l : List Stm) (R : List Rol) (L : List Str) : List Str := R.map (·.1) ++ (l.filter (folB g h R L)).flatMap (fun x => if x.2.1 = 1 then [x.2.2.1] else []) ++ ((g ++ h).filter (fun r => decide (r.2 ∈ L))).map (·.1)
def sigV (g h : List Rol) (l : List Stm) (B : Rol) (R : List Rol) (L : List Str) : List Rol := B :: (l.filter (folB g h R L)).flatMap (fun x => if x.2.1 = 3 ∨ x.2.1 = 4 then [x.2.2.2.1] else [])
def fixV (g h : List Rol) (l : List Stm) (R : List Rol) (L : List Str) : List Stm := (l.filter (folB g h R L)).filter (fun x => decide (x.1 ∈ h))
def looseV (g h : List Rol) (l : List Stm) (R : List Rol) (L : List Str) : List Stm := (l.filter (folB g h R L)).filter (fun x => !decide (x.1 ∈ h))
def linkV (g h : List Rol) (l : List Stm) (R : List Rol) (L : List Str) : Bool := (l.filter (folB g h R L)).any (fun x => decide (x.2.1 = 3))
end Go.Proofs.YtckikkkdabpjkaaGreat
