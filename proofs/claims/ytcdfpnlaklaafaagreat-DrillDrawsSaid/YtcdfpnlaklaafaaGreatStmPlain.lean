/-
  Roles and statements as texts; their orders; rows in order, each once: of any kind. No program in sight.
-/
import Derived.Test.YtcdfpnlaklaafaaGreatNamePlain
set_option linter.unusedVariables false
set_option linter.unusedSimpArgs false
set_option linter.unnecessarySimpa false
namespace Go.Proofs.YtcdfpnlaklaafaaGreat
/-- A strict order in which any two can be held against each other. -/
structure LO {α : Type} (lt : α → α → Prop) : Prop where
  irrefl : ∀ a, ¬ lt a a
  trans : ∀ {a b c}, lt a b → lt b c → lt a c
  total : ∀ a b, lt a b ∨ a = b ∨ lt b a
section
variable {α : Type} {lt : α → α → Prop}
/-- Two rising rows of the same things are one. -/
theorem LO.rises_eq (o : LO lt) : ∀ {a b : List α}, a.Pairwise lt → b.Pairwise lt → (∀ x, x ∈ a ↔ x ∈ b) → a = b
  | [], [], _, _, _ => rfl
  | [], y :: b, _, _, h => absurd ((h y).2 (by simp)) (by simp)
  | x :: a, [], _, _, h => absurd ((h x).1 (by simp)) (by simp)
  | x :: a, y :: b, ha, hb, h => by
    have ha' := List.pairwise_cons.1 ha
    have hb' := List.pairwise_cons.1 hb
    have hxy : x = y := by
      have h1 := (h x).1 (by simp)
      have h2 := (h y).2 (by simp)
      rcases List.mem_cons.1 h1 with e | e
      · exact e
      · rcases List.mem_cons.1 h2 with e2 | e2
        · exact e2.symm
        · exact absurd (o.trans (ha'.1 y e2) (hb'.1 x e)) (o.irrefl x)
    subst hxy
    congr 1
    refine o.rises_eq ha'.2 hb'.2 (fun z => ?_)
    constructor
    · intro hz
      rcases List.mem_cons.1 ((h z).1 (List.mem_cons_of_mem _ hz)) with e | e
      · exact absurd (ha'.1 z hz) (e ▸ o.irrefl x)
      · exact e
    · intro hz
      rcases List.mem_cons.1 ((h z).2 (List.mem_cons_of_mem _ hz)) with e | e
      · exact absurd (hb'.1 z hz) (e ▸ o.irrefl x)
      · exact e
/-- How many of a row, from its start, are ahead of one thing. -/
def aheadO (lt : α → α → Prop) [DecidableRel lt] (s : α) : List α → Nat
  | [] => 0
  | x :: l => if lt x s then aheadO lt s l + 1 else 0
/-- One more, in its place, if it isn't in. -/
def putO (lt : α → α → Prop) [DecidableRel lt] [DecidableEq α] (l : List α) (s : α) : List α :=
  if s ∈ l then l else l.take (aheadO lt s l) ++ [s] ++ l.drop (aheadO lt s l)
def sortO (lt : α → α → Prop) [DecidableRel lt] [DecidableEq α] (l : List α) : List α := l.foldl (putO lt) []
section
variable [DecidableRel lt]
theorem ahead_le (s : α) : ∀ l : List α, aheadO lt s l ≤ l.length
  | [] => Nat.le_refl _
  | x :: l => by
    have := ahead_le s l
    unfold aheadO
    split
    · exact Nat.succ_le_succ this
    · exact Nat.zero_le _
theorem ahead_lt (s : α) : ∀ (l : List α) (j : Nat) (x : α), j < aheadO lt s l → l[j]? = some x → lt x s
  | [], j, x, h, _ => absurd h (Nat.not_lt_zero _)
  | y :: l, j, x, h, hx => by
    unfold aheadO at h
    split at h
    · rename_i hy
      cases j with
      | zero => simp at hx; subst hx; exact hy
      | succ j => exact ahead_lt s l j x (by omega) (by simpa using hx)
    · omega
theorem ahead_at (s : α) : ∀ (l : List α) (x : α), l[aheadO lt s l]? = some x → ¬ lt x s
  | [], x, hx => by simp [aheadO] at hx
  | y :: l, x, hx => by
    unfold aheadO at hx
    split at hx
    · rename_i hy
      exact ahead_at s l x (by simpa using hx)
    · rename_i hy
      simp at hx; subst hx; exact hy
end
variable [DecidableRel lt] [DecidableEq α]
theorem putO_mem (l : List α) (s z : α) : z ∈ putO lt l s ↔ z ∈ l ∨ z = s := by
  unfold putO
  split
  · rename_i h
    exact ⟨.inl, fun q => q.elim id (fun e => e ▸ h)⟩
  · rw [List.mem_append, List.mem_append, List.mem_singleton]
    constructor
    · rintro ((h | h) | h)
      · exact .inl (List.mem_of_mem_take h)
      · exact .inr h
      · exact .inl (List.mem_of_mem_drop h)
    · rintro (h | h)
      · rw [← List.take_append_drop (aheadO lt s l) l, List.mem_append] at h
        rcases h with h | h
        · exact .inl (.inl h)
        · exact .inr h
      · exact .inl (.inr h)
theorem putO_rises (o : LO lt) {l : List α} (h : l.Pairwise lt) (s : α) : (putO lt l s).Pairwise lt := by
  unfold putO
  split
  · exact h
  · rename_i hs
    have ht : ∀ x, x ∈ l.take (aheadO lt s l) → lt x s := fun x hx => by
      obtain ⟨j, hj⟩ := List.getElem?_of_mem hx
      have hj2 := (List.getElem?_eq_some_iff.1 hj).1
      rw [List.length_take] at hj2
      rw [List.getElem?_take_of_lt (by omega)] at hj
      exact ahead_lt s l j x (by omega) hj
    have hd : ∀ x, x ∈ l.drop (aheadO lt s l) → lt s x := fun x hx => by
      obtain ⟨j, hj⟩ := List.getElem?_of_mem hx
      rw [List.getElem?_drop] at hj
      have hlt : aheadO lt s l < l.length := by have := (List.getElem?_eq_some_iff.1 hj).1; omega
      have hy := List.getElem?_eq_getElem hlt
      have h1 := ahead_at s l _ hy
      have h2 : lt s l[aheadO lt s l] := by
        rcases o.total s l[aheadO lt s l] with e | e | e
        · exact e
        · exact absurd (e ▸ List.getElem_mem hlt) hs
        · exact absurd e h1
      cases j with
      | zero =>
        rw [Nat.add_zero, hy] at hj
        simp only [Option.some.injEq] at hj
        rw [← hj]; exact h2
      | succ j =>
        obtain ⟨hj3, e⟩ := List.getElem?_eq_some_iff.1 hj
        have h3 := List.pairwise_iff_getElem.1 h _ _ hlt hj3 (by omega)
        rw [e] at h3
        exact o.trans h2 h3
    rw [List.pairwise_append, List.pairwise_append]
    refine ⟨⟨h.sublist (List.take_sublist _ _), List.pairwise_singleton _ _, fun x hx y hy => ?_⟩, h.sublist (List.drop_sublist _ _), fun x hx y hy => ?_⟩
    · rw [List.mem_singleton] at hy; subst hy; exact ht x hx
    · rw [List.mem_append, List.mem_singleton] at hx
      rcases hx with hx | hx
      · exact o.trans (ht x hx) (hd y hy)
      · subst hx; exact hd y hy
theorem putsO_rises (o : LO lt) : ∀ (l a : List α), a.Pairwise lt → (l.foldl (putO lt) a).Pairwise lt
  | [], a, h => h
  | s :: l, a, h => putsO_rises o l _ (putO_rises o h s)
theorem putsO_mem : ∀ (l a : List α) (z : α), z ∈ l.foldl (putO lt) a ↔ z ∈ a ∨ z ∈ l
  | [], a, z => by simp
  | s :: l, a, z => by
    rw [List.foldl_cons, putsO_mem l _ z, putO_mem, List.mem_cons, or_assoc]
theorem sortO_rises (o : LO lt) (l : List α) : (sortO lt l).Pairwise lt := putsO_rises o l [] List.Pairwise.nil
theorem sortO_mem (l : List α) (z : α) : z ∈ sortO lt l ↔ z ∈ l := by
  unfold sortO
  rw [putsO_mem]
  simp
/-- Whatever rises and has the same is the row in order. -/
theorem sortO_eq (o : LO lt) {l a : List α} (h : a.Pairwise lt) (hm : ∀ x, x ∈ a ↔ x ∈ l) : a = sortO lt l :=
  o.rises_eq h (sortO_rises o l) (fun x => (hm x).trans (sortO_mem l x).symm)
end
theorem strO : LO (α := Str) (· < ·) := ⟨str_irrefl, str_trans, str_total⟩
/-- Two orders, one behind the other. -/
def lexO {α β : Type} (p : α → α → Prop) (q : β → β → Prop) (a b : α × β) : Prop := p a.1 b.1 ∨ (a.1 = b.1 ∧ q a.2 b.2)
theorem lexO_lo {α β : Type} {p : α → α → Prop} {q : β → β → Prop} (hp : LO p) (hq : LO q) : LO (lexO p q) := by
  refine ⟨?_, ?_, ?_⟩
  · rintro a (h | h)
    · exact hp.irrefl _ h
    · exact hq.irrefl _ h.2
  · rintro a b c (h | h) (k | k)
    · exact .inl (hp.trans h k)
    · exact .inl (k.1 ▸ h)
    · exact .inl (h.1 ▸ k)
    · exact .inr ⟨h.1.trans k.1, hq.trans h.2 k.2⟩
  · rintro ⟨a1, a2⟩ ⟨b1, b2⟩
    rcases hp.total a1 b1 with h | h | h
    · exact .inl (.inl h)
    · subst h
      rcases hq.total a2 b2 with h | h | h
      · exact .inl (.inr ⟨rfl, h⟩)
      · subst h; exact .inr (.inl rfl)
      · exact .inr (.inr (.inr ⟨rfl, h⟩))
    · exact .inr (.inr (.inl h))
instance {α β : Type} {p : α → α → Prop} {q : β → β → Prop} [DecidableRel p] [DecidableRel q] [DecidableEq α] : DecidableRel (lexO p q) := fun a b => by unfold lexO; exact inferInstance
/-- What a comparison answers: -1, 0 or 1. -/
def cmpO {α : Type} (p : α → α → Prop) [DecidableRel p] (a b : α) : Int := if p a b then -1 else if p b a then 1 else 0
theorem cmpO_lex {α β : Type} {p : α → α → Prop} {q : β → β → Prop} (hp : LO p) [DecidableRel p] [DecidableRel q] [DecidableEq α] (a b : α × β) : cmpO (lexO p q) a b = if cmpO p a.1 b.1 = 0 then cmpO q a.2 b.2 else cmpO p a.1 b.1 := by
  unfold cmpO
  rcases hp.total a.1 b.1 with h | h | h
  · have hl : lexO p q a b := .inl h
    rw [if_pos hl, if_pos h]
    rfl
  · have h1 : ¬ p a.1 b.1 := by rw [h]; exact hp.irrefl _
    have h2 : ¬ p b.1 a.1 := by rw [h]; exact hp.irrefl _
    rw [if_neg h1, if_neg h2, if_pos rfl]
    by_cases k : q a.2 b.2
    · have hl : lexO p q a b := .inr ⟨h, k⟩
      rw [if_pos hl, if_pos k]
    · have hl : ¬ lexO p q a b := fun hl => hl.elim h1 (fun x => k x.2)
      rw [if_neg hl, if_neg k]
      by_cases k2 : q b.2 a.2
      · have hl2 : lexO p q b a := .inr ⟨h.symm, k2⟩
        rw [if_pos hl2, if_pos k2]
      · have hl2 : ¬ lexO p q b a := fun hl => hl.elim h2 (fun x => k2 x.2)
        rw [if_neg hl2, if_neg k2]
  · have h1 : ¬ p a.1 b.1 := fun k => hp.irrefl _ (hp.trans h k)
    have h2 : ¬ a.1 = b.1 := fun e => by rw [e] at h; exact hp.irrefl _ h
    have hl : ¬ lexO p q a b := fun hl => hl.elim h1 (fun x => h2 x.1)
    have hl2 : lexO p q b a := .inl h
    rw [if_neg hl, if_pos hl2, if_neg h1, if_pos h]
    rfl
/-- Roles, and their order. -/
abbrev Rol := Str × Str
def rolLt : Rol → Rol → Prop := lexO (· < ·) (· < ·)
instance : DecidableRel rolLt := fun a b => by unfold rolLt; exact inferInstance
theorem rolO : LO rolLt := lexO_lo strO strO
/-- Statements, and their order: head, kind, who, a, b, via. -/
abbrev Stm := Rol × Int × Str × Rol × Rol × Str
instance decStr : DecidableEq Str := instDecidableEqList
instance decRol : DecidableEq Rol := @instDecidableEqProd _ _ decStr decStr
instance decSt5 : DecidableEq (Rol × Str) := @instDecidableEqProd _ _ decRol decStr
instance decSt4 : DecidableEq (Rol × Rol × Str) := @instDecidableEqProd _ _ decRol decSt5
instance decSt3 : DecidableEq (Str × Rol × Rol × Str) := @instDecidableEqProd _ _ decStr decSt4
instance decSt2 : DecidableEq (Int × Str × Rol × Rol × Str) := @instDecidableEqProd _ _ Int.instDecidableEq decSt3
instance decStm : DecidableEq Stm := @instDecidableEqProd _ _ decRol decSt2
def st5 : Rol × Str → Rol × Str → Prop := lexO rolLt (· < ·)
instance : DecidableRel st5 := fun a b => by unfold st5; exact inferInstance
def st4 : Rol × Rol × Str → Rol × Rol × Str → Prop := lexO rolLt st5
instance : DecidableRel st4 := fun a b => by unfold st4; exact inferInstance
def st3 : Str × Rol × Rol × Str → Str × Rol × Rol × Str → Prop := lexO (· < ·) st4
instance : DecidableRel st3 := fun a b => by unfold st3; exact inferInstance
def intLt : Int → Int → Prop := (· < ·)
instance : DecidableRel intLt := fun a b => by unfold intLt; exact inferInstance
theorem intO : LO intLt := ⟨Int.lt_irrefl, Int.lt_trans, fun a b => by unfold intLt; omega⟩
def st2 : Int × Str × Rol × Rol × Str → Int × Str × Rol × Rol × Str → Prop := lexO intLt st3
instance : DecidableRel st2 := fun a b => by unfold st2; exact inferInstance
def stmLt : Stm → Stm → Prop := lexO rolLt st2
instance : DecidableRel stmLt := fun a b => by unfold stmLt; exact inferInstance
theorem stmO : LO stmLt := lexO_lo rolO (lexO_lo intO (lexO_lo strO (lexO_lo rolO (lexO_lo rolO strO))))
end Go.Proofs.YtcdfpnlaklaafaaGreat
