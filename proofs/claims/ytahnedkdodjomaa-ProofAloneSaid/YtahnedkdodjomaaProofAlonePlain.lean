/-
  The rules that a proof uses, alone: by them what is proved follows; without any of them the steps are no proof. No program in sight but for rows of rules.
-/
import Derived.Test.YtahnedkdodjomaaProofLaw
import Derived.Test.YtahnedkdodjomaaProofRightJoin
import Derived.Test.YtahnedkdodjomaaProofUses
set_option linter.unusedVariables false
set_option linter.unusedSimpArgs false
set_option linter.unnecessarySimpa false
namespace Go.Proofs.Ytahnedkdodjomaa
open Go.ChangeShapes Go.WideShapes Go.ChangeAt Go.RowKit Go.Deep SetPlain
section
variable {P K : Nat} {rs : List Rl} {l : List Sp}
theorem Chk.grow (h : Chk P K rs l) : ∀ j, j ≤ l.length → Grow P K rs [] (l.take j)
  | 0, _ => by rw [List.take_zero]; exact .refl _
  | j + 1, hj => by
    obtain ⟨s, hs⟩ : ∃ s, l[j]? = some s := ⟨_, List.getElem?_eq_getElem (by omega)⟩
    rw [List.take_add_one, hs]
    exact .step s (Chk.grow h j (by omega)) (h j s hs)
theorem Chk.le (hP : P ≤ 64) (hK : K ≤ 64) (h : Chk P K rs l) : l.length ≤ P * (P * K) := by
  have := (h.grow l.length (Nat.le_refl _)).le hP hK
  rw [List.take_length] at this
  exact this
theorem Chk.snd (hP : P ≤ 64) (hK : K ≤ 64) (h : Chk P K rs l) {S : List Rl} (hS : ∀ (t : Nat) (s : Sp) (r : Rl), l[t]? = some s → rs[s.rule.toNat]? = some r → r ∈ S) :
    ∀ j, j ≤ l.length → SndIn P K (S.filter (fun r => rightB P K r)) (inL (l.take j))
  | 0, _ => fun i c h => by rw [List.take_zero] at h; cases h
  | j + 1, hj => by
    have hs := Chk.snd hP hK h hS j (by omega)
    obtain ⟨s, hsj⟩ : ∃ s, l[j]? = some s := ⟨_, List.getElem?_eq_getElem (by omega)⟩
    have hm := h j s hsj
    have hSj := hS j s
    obtain ⟨i, r, c, m, hr, hR, rfl, hc, h3, h4⟩ := may_form hm
    rw [may_at hP hK hr hR hc h3 h4, Bool.and_eq_true] at hm
    have hh := (right_iff hR).1
    have e : r.head = (r.head.toNat : Int) := by omega
    have hlt := head_lt hR
    have hmem : r ∈ S.filter (fun r => rightB P K r) := List.mem_filter.2 ⟨hSj r hsj (by show rs[((i : Int)).toNat]? = _; rw [show ((i : Int)).toNat = i by omega]; exact hr), hR⟩
    have hd := prem_der hR hmem hs hc (prem_of hm.1 h4 hR)
    rw [List.take_add_one, hsj]
    show SndIn P K _ (inL (l.take j ++ [(⟨i, r.head, c, m⟩ : Sp)]))
    rw [e, inL_snoc]
    intro i' c' h
    unfold setIn at h
    rw [Bool.or_eq_true] at h
    rcases h with h | h
    · simp at h
      obtain ⟨rfl, rfl⟩ := h
      exact ⟨hlt, hc, hd⟩
    · exact hs i' c' h
/-- The rules of numbers. -/
def rulesAt (rs : List Rl) (U : List Int) : List Rl := U.map fun x => rs[x.toNat]?.getD Rl.zero
theorem rulesAt_len (U : List Int) : (rulesAt rs U).length = U.length := by unfold rulesAt; rw [List.length_map]
theorem rulesAt_take_succ {U : List Int} {j i : Nat} {r : Rl} (hU : U[j]? = some (i : Int)) (hr : rs[i]? = some r) : rulesAt rs (U.take (j + 1)) = rulesAt rs (U.take j) ++ [r] := by
  unfold rulesAt
  rw [List.take_add_one, hU]
  simp [hr]
theorem chk_rules (h : Chk P K rs l) {x : Int} (hx : x ∈ rulesOf l) : ∃ i : Nat, x = i ∧ i < rs.length := by
  unfold rulesOf at hx
  obtain ⟨s, hs, rfl⟩ := List.mem_map.1 hx
  obtain ⟨t, ht⟩ := List.getElem?_of_mem hs
  obtain ⟨i, r, c, m, hr, _, rfl, _⟩ := may_form (h t s ht)
  refine ⟨i, rfl, ?_⟩
  rcases Nat.lt_or_ge i rs.length with h | h
  · exact h
  · rw [List.getElem?_eq_none h] at hr; cases hr
theorem alone_der (hP : P ≤ 64) (hK : K ≤ 64) {a b : Int} (ht : Told P K rs a b l) : DerAt P K (rulesAt rs (suppL (rulesOf l))) a b := by
  have hC : Chk P K rs l := ht.good
  have hsn := hC.snd hP hK (S := rulesAt rs (suppL (rulesOf l))) (fun t s r hs hr => by
    unfold rulesAt
    refine List.mem_map.2 ⟨s.rule, ?_, by rw [hr]; rfl⟩
    rw [supp_mem]
    unfold rulesOf
    exact List.mem_map.2 ⟨s, List.mem_of_getElem? hs, rfl⟩) l.length (Nat.le_refl _)
  rw [List.take_length] at hsn
  obtain ⟨s, hs⟩ : ∃ s, l[l.length - 1]? = some s := ⟨_, List.getElem?_eq_getElem (by have := ht.pos; omega)⟩
  obtain ⟨h1, h2⟩ := ht.last s hs
  obtain ⟨i, r, c, m, hr, hR, rfl, hc, _⟩ := may_form (hC _ s hs)
  have hh := (right_iff hR).1
  simp only [] at h1 h2
  subst h1 h2
  have hin : inL l r.head.toNat c = true := by
    unfold inL
    rw [show ((r.head.toNat : Nat) : Int) = r.head by omega]
    exact atF_isSome (List.mem_of_getElem? hs) rfl rfl
  exact ⟨r.head.toNat, c, by omega, rfl, (hsn _ _ hin).2.2⟩
/-- Without a rule that is used the steps are no proof. -/
theorem less_no {i : Nat} (hi : (i : Int) ∈ rulesOf l) : ¬ Chk P K (rs.set i Rl.zero) l := fun h => by
  unfold rulesOf at hi
  obtain ⟨s, hs, he⟩ := List.mem_map.1 hi
  obtain ⟨t, ht⟩ := List.getElem?_of_mem hs
  obtain ⟨i', r, c, m, hr, hR, rfl, _⟩ := may_form (h t s ht)
  simp only [] at he
  have e : i' = i := by omega
  subst e
  rw [List.getElem?_set] at hr
  split at hr
  · split at hr
    · cases hr
      have := (right_iff hR).2
      simp [Rl.zero] at this
    · cases hr
  · rename_i h; exact h rfl
end
/-- A row of rules of the program's own. -/
def OwnR (z : Nat) (W : World) (v : Value) (S : List Rl) : Prop := W.ownsRow z 39 6 v S.length (rlCells S)
theorem OwnR.rules {z : Nat} {W : World} {v : Value} {S : List Rl} (h : OwnR z W v S) : ∃ ao cap, v = .slice ao S.length cap ∧ S.length ≤ cap ∧ RuleRow W ao S := by
  obtain ⟨ao, cap, rfl, hle, _, hno, hc⟩ := own_form h
  refine ⟨ao, cap, rfl, hle, fun h0 => ?_⟩
  cases ao with
  | none => have := (hno rfl).1; omega
  | some b =>
    obtain ⟨q1, q2, q3, q4, q5⟩ := hc b rfl
    obtain ⟨b, o, sp⟩ := b
    simp only at q1 q2 q3 q4 q5
    subst q1 q2
    refine ⟨b, 0, rfl, q3, fun i r hr => ?_⟩
    have hx : ∀ (t : Nat) (u : Value), r.cells[t]? = some u → W.cell? ⟨b, 0 + i * 6 + t, none⟩ = some u := fun t u hu => by
      have := q5 _ u (rlCells_get S i r hr t u hu)
      rw [show 0 + i * 6 + t = i * 6 + t by omega]
      exact this
    exact ⟨hx 0 _ rfl, hx 1 _ rfl, hx 2 _ rfl, hx 3 _ rfl, hx 4 _ rfl, hx 5 _ rfl⟩
theorem OwnR.keeps {z : Nat} {W W' : World} {v : Value} {S : List Rl} (h : OwnR z W v S) (hk : Keeps (fun _ => False) W W') : OwnR z W' v S := ownsRow_keeps' h hk (fun _ _ x => x)
end Go.Proofs.Ytahnedkdodjomaa
