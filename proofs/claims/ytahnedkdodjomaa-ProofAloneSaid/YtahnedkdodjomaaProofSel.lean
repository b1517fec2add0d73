/-
  The steps that are needed, alone, are a proof still. No program in sight.
-/
import Derived.Test.YtahnedkdodjomaaProofWhy
set_option linter.unusedVariables false
set_option linter.unusedSimpArgs false
set_option linter.unnecessarySimpa false
namespace Go.Proofs.Ytahnedkdodjomaa
open Go.ChangeShapes Go.WideShapes Go.ChangeAt Go.RowKit Go.Deep SetPlain
section
variable {P K : Nat} {rs : List Rl} {l : List Sp} {V : Nat → Bool}
theorem sel_next {J : Nat} (hJ : J < l.length) : selTo l V (J + 1) = if V J = true then selTo l V J ++ [l[J]] else selTo l V J := selTo_some (List.getElem?_eq_getElem hJ)
theorem sel_at : ∀ (J : Nat), J ≤ l.length → ∀ (t : Nat) (s : Sp), (selTo l V J)[t]? = some s → ∃ j, j < J ∧ V j = true ∧ l[j]? = some s ∧ (selTo l V J).take t = selTo l V j ∧ (selTo l V j).length = t
  | 0, _, t, s, h => by simp [selTo] at h
  | J + 1, hJ, t, s, h => by
    rw [sel_next (by omega)] at h ⊢
    cases hv : V J with
    | false =>
      rw [hv, if_neg (by decide)] at h
      rw [if_neg (by decide)]
      obtain ⟨j, h1, h2⟩ := sel_at J (by omega) t s h
      exact ⟨j, by omega, h2⟩
    | true =>
      rw [hv, if_pos rfl] at h
      rw [if_pos rfl]
      rcases Nat.lt_or_ge t (selTo l V J).length with ht | ht
      · rw [List.getElem?_append_left ht] at h
        obtain ⟨j, h1, h2, h3, h4, h5⟩ := sel_at J (by omega) t s h
        exact ⟨j, by omega, h2, h3, by rw [List.take_append_of_le_length (by omega), h4], h5⟩
      · rw [List.getElem?_append_right ht] at h
        have e : t = (selTo l V J).length := by
          rcases Nat.lt_or_ge (t - (selTo l V J).length) 1 with h1 | h1
          · omega
          · rw [List.getElem?_eq_none (by simpa using h1)] at h; cases h
        subst e
        simp at h
        subst h
        exact ⟨J, by omega, hv, List.getElem?_eq_getElem (by omega), List.take_left' rfl, rfl⟩
theorem sel_mem {j : Nat} {s : Sp} (hv : V j = true) (hs : l[j]? = some s) : ∀ (J : Nat), j < J → J ≤ l.length → (selTo l V J)[(selTo l V j).length]? = some s
  | 0, h, _ => absurd h (Nat.not_lt_zero _)
  | J + 1, h, hJ => by
    rw [sel_next (by omega)]
    rcases Nat.lt_or_ge j J with h1 | h1
    · have ih := sel_mem hv hs J h1 (by omega)
      split
      · rw [List.getElem?_append_left]
        · exact ih
        · rcases Nat.lt_or_ge (selTo l V j).length (selTo l V J).length with h | h
          · exact h
          · rw [List.getElem?_eq_none h] at ih; cases ih
      · exact ih
    · obtain rfl : j = J := by omega
      rw [if_pos hv, List.getElem?_append_right (Nat.le_refl _), Nat.sub_self]
      rw [List.getElem?_eq_getElem (by omega)] at hs
      simp at hs
      simp [hs]
theorem sel_lt {j J : Nat} {s : Sp} (hv : V j = true) (hs : l[j]? = some s) (h : j < J) (hJ : J ≤ l.length) : (selTo l V j).length < (selTo l V J).length := by
  have := sel_mem hv hs J h hJ
  rcases Nat.lt_or_ge (selTo l V j).length (selTo l V J).length with h | h
  · exact h
  · rw [List.getElem?_eq_none h] at this; cases this
theorem dep_lt (hP : P ≤ 64) (hK : K ≤ 64) (h : Grow P K rs [] l) {i j : Nat} (hd : Dep P K rs l i j) : j < i := by
  obtain ⟨s, f, hs, hf, hj⟩ := hd
  obtain ⟨_, _, j2, h2, h3⟩ := dep_at hP hK h hs f hf
  rw [hj] at h3; cases h3
  exact h2
/-- The steps behind a mark are no other's. -/
theorem mark_le (hP : P ≤ 64) (hK : K ≤ 64) (h : Grow P K rs [] l) {i : Nat} (hn : NeedRel (Dep P K rs l) i (fun _ => false) V) : ∀ (d j : Nat), l.length - j = d → V j = true → j ≤ i := by
  intro d
  induction d using Nat.strongRecOn with
  | _ d ih =>
    intro j hd hv
    rcases hn.why j hv rfl with rfl | ⟨j', hv', hdep⟩
    · exact Nat.le_refl _
    · have hlt := dep_lt hP hK h hdep
      have hj' : j' < l.length := by
        obtain ⟨s, f, hs, _⟩ := hdep
        rcases Nat.lt_or_ge j' l.length with h | h
        · exact h
        · rw [List.getElem?_eq_none h] at hs; cases hs
      have := ih (l.length - j') (by omega) j' rfl hv'
      omega
theorem sel_good (hP : P ≤ 64) (hK : K ≤ 64) (h : Grow P K rs [] l) {i : Nat} (hn : NeedRel (Dep P K rs l) i (fun _ => false) V) {t : Nat} {s : Sp} (ht : (selTo l V l.length)[t]? = some s) :
    mayB P K rs ((selTo l V l.length).take t) s = true := by
  obtain ⟨j, hj, hv, hs, he, _⟩ := sel_at l.length (Nat.le_refl _) t s ht
  rw [he]
  have hm := h.at_ j s hs
  unfold mayB at hm ⊢
  rw [Bool.and_eq_true, Bool.and_eq_true] at hm ⊢
  refine ⟨⟨hm.1.1, List.all_eq_true.2 fun f hf => ?_⟩, ?_⟩
  · obtain ⟨_, _, k, hk, hat⟩ := dep_at hP hK h hs f hf
    have hvk := hn.closed j hv rfl k ⟨s, f, hs, hf, hat⟩
    obtain ⟨sk, hsk, h1, h2⟩ := atF_some hat
    exact atF_isSome (List.mem_of_getElem? (sel_mem hvk hsk j hk (by omega))) h1 h2
  · cases hc : atF (selTo l V j) s.role s.who with
    | none => rfl
    | some x =>
      obtain ⟨sx, hx, h1, h2⟩ := atF_some hc
      obtain ⟨y, hy, _, hsy, _⟩ := sel_at j (by omega) x sx hx
      have hno : atF (l.take j) s.role s.who = none := by
        have := hm.2
        cases h : atF (l.take j) s.role s.who with
        | none => rfl
        | some z => rw [h] at this; cases this
      refine absurd ⟨h1, h2⟩ (atF_none hno sx ?_)
      refine List.mem_of_getElem? (i := y) ?_
      rw [List.getElem?_take_of_lt hy]
      exact hsy
/-- A proof of a fact, with nothing too much. -/
structure Told (P K : Nat) (rs : List Rl) (a b : Int) (out : List Sp) : Prop where
  pos : 0 < out.length
  len : out.length ≤ 1000000
  good : ∀ (t : Nat) (s : Sp), out[t]? = some s → mayB P K rs (out.take t) s = true
  last : ∀ (s : Sp), out[out.length - 1]? = some s → s.role = a ∧ s.who = b
  need : ∀ (t : Nat) (s : Sp), t + 1 < out.length → out[t]? = some s → ∃ t' s', t < t' ∧ out[t']? = some s' ∧ (s.role, s.who) ∈ (needsL P K rs s').1
theorem told (hP : P ≤ 64) (hK : K ≤ 64) (h : Grow P K rs [] l) {a b : Int} {i : Nat} (hi : atF l a b = some i) (hn : NeedRel (Dep P K rs l) i (fun _ => false) V) : Told P K rs a b (selTo l V l.length) := by
  obtain ⟨s0, hs0, ha, hb⟩ := atF_some hi
  have hil := atF_lt hi
  have hmem := sel_mem hn.me hs0 l.length hil (Nat.le_refl _)
  have hlt0 := sel_lt hn.me hs0 hil (Nat.le_refl _)
  have hidx : ∀ (t : Nat) (s : Sp), (selTo l V l.length)[t]? = some s → ∃ j, j ≤ i ∧ V j = true ∧ l[j]? = some s ∧ (selTo l V j).length = t := fun t s ht => by
    obtain ⟨j, hj, hv, hs, _, he⟩ := sel_at l.length (Nat.le_refl _) t s ht
    exact ⟨j, mark_le hP hK h hn _ j rfl hv, hv, hs, he⟩
  have hle : ∀ j, j ≤ i → V j = true → (selTo l V j).length ≤ (selTo l V i).length := fun j hj hv => by
    rcases Nat.lt_or_ge j i with h1 | h1
    · obtain ⟨s, hs⟩ : ∃ s, l[j]? = some s := ⟨_, List.getElem?_eq_getElem (by omega)⟩
      exact Nat.le_of_lt (sel_lt hv hs h1 (by omega))
    · obtain rfl : j = i := by omega
      exact Nat.le_refl _
  have hend : (selTo l V i).length = (selTo l V l.length).length - 1 := by
    have h1 : (selTo l V l.length).length - 1 < (selTo l V l.length).length := by omega
    obtain ⟨j, hj, hv, _, he⟩ := hidx _ _ (List.getElem?_eq_getElem h1)
    have := hle j hj hv
    omega
  refine ⟨by omega, Nat.le_trans (selTo_len l V _) (h.big hP hK), fun t s ht => sel_good hP hK h hn ht, fun s hs => ?_, fun t s ht hs => ?_⟩
  · rw [← hend, hmem] at hs
    cases hs
    exact ⟨ha, hb⟩
  · obtain ⟨j, hj, hv, hsj, he⟩ := hidx t s hs
    rcases hn.why j hv rfl with rfl | ⟨j', hv', hdep⟩
    · omega
    · have hlt := dep_lt hP hK h hdep
      obtain ⟨s', f, hs', hf, hat⟩ := hdep
      have hj' : j' < l.length := by
        rcases Nat.lt_or_ge j' l.length with h | h
        · exact h
        · rw [List.getElem?_eq_none h] at hs'; cases hs'
      obtain ⟨sj, hsj2, h1, h2⟩ := atF_some hat
      rw [hsj] at hsj2; cases hsj2
      refine ⟨(selTo l V j').length, s', ?_, sel_mem hv' hs' l.length hj' (Nat.le_refl _), ?_⟩
      · rw [← he]; exact sel_lt hv hsj hlt (by omega)
      · rw [h1, h2]; exact hf
/-- What lies in a proof lies where it may. -/
theorem Grow.range (h : Grow P K rs [] l) {a b : Int} (hs : (atF l a b).isSome = true) : 0 ≤ a ∧ a < ((P * K : Nat) : Int) ∧ 0 ≤ b ∧ b < P := by
  cases hi : atF l a b with
  | none => rw [hi] at hs; cases hs
  | some i =>
    obtain ⟨s, hsi, rfl, rfl⟩ := atF_some hi
    have hm := h.at_ i s hsi
    obtain ⟨_, r, c, m, _, hR, rfl, hc, _⟩ := may_form hm
    have hh := (right_iff hR).1
    simp only []
    exact ⟨hh.1, hh.2, by omega, by omega⟩
theorem WhyAns.told (hP : P ≤ 64) (hK : K ≤ 64) {a b : Int} {ok : Bool} {out : List Sp} (h : WhyAns P K rs a b ok out) :
    (ok = true → Told P K rs a b out) ∧ (ok = false → out = []) ∧ (ok = true → 0 ≤ a ∧ a < ((P * K : Nat) : Int) ∧ 0 ≤ b ∧ b < P) ∧ (∀ i c : Nat, a = i → b = c → (ok = true ↔ Der K (rs.filter (fun r => rightB P K r)) i c)) := by
  obtain ⟨l, hg, hno, hok, hf, ht⟩ := h.ex
  refine ⟨fun h => ?_, hf, fun h => ?_, fun i c hi hc => ?_⟩
  · cases hi : atF l a b with
    | none => rw [hok, hi] at h; cases h
    | some i =>
      obtain ⟨V, hn, rfl⟩ := ht i hi
      exact Go.Proofs.Ytahnedkdodjomaa.told hP hK hg hi hn
  · rw [hok] at h; exact hg.range h
  · subst hi hc
    rw [hok]
    exact all_proved hP hK hg hno i c
end
end Go.Proofs.Ytahnedkdodjomaa
