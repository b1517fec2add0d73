/-
  What a step stands on: all cases.
-/
import Derived.Test.YtahnedkdodjomaaProofNeeds
import Derived.Test.YtahnedkdodjomaaProofNeedsLink
set_option linter.unusedVariables false
set_option linter.unusedSimpArgs false
set_option linter.unnecessarySimpa false
namespace Go.Proofs.Ytahnedkdodjomaa
open Go.ChangeShapes Go.WideShapes Go.ChangeAt Go.RowKit Go.Deep SetPlain
theorem right_kind {p k : Int} {r : Rl} (h : rightB p k r = true) : r.kind = 1 ∨ r.kind = 2 ∨ r.kind = 3 ∨ r.kind = 4 := by
  unfold rightB at h
  rw [Bool.and_eq_true, Bool.and_eq_true] at h
  obtain ⟨_, _, h2⟩ := h
  split at h2
  · exact .inl (by assumption)
  split at h2
  · exact .inr (.inr (.inr (by assumption)))
  split at h2
  · exact .inr (.inl (by assumption))
  split at h2
  · exact .inr (.inr (.inl (by assumption)))
  · cases h2
theorem ruleAt_kind {p k : Int} {rs : List Rl} {i : Int} (h : (ruleAt p k rs i).2 = true) : (ruleAt p k rs i).1.kind = 1 ∨ (ruleAt p k rs i).1.kind = 2 ∨ (ruleAt p k rs i).1.kind = 3 ∨ (ruleAt p k rs i).1.kind = 4 := by
  unfold ruleAt at h ⊢
  split at h
  · rw [if_pos (by assumption)]; exact right_kind h
  · cases h
theorem needs_spec {W : World} {kb : Nat} {p k : Int} (hp : p ≤ 64) (hk : k ≤ 64) {ao : Option Addr} {n cap mb : Nat} {vs : Value} {l : List Sp} (h : KnMem W kb p k ao n cap mb vs l) {rs : List Rl} (hrs : rs.length = n) (hcap : n ≤ cap) (hR : RuleRow W ao rs) (s : Sp) :
    Calls Try.prog 25 #[.pointer (some ⟨kb, 0, none⟩), .agg #[.int .i64 s.rule, .int .i64 s.role, .int .i64 s.who, .int .i64 s.mid]] W (NeedsPost (needsL p k rs s) W) := by
  obtain ⟨rule, role, who, mid⟩ := s
  have HR : Hid (∀ W', Keeps (fun _ => False) W W' → Calls Try.prog 33 #[.pointer (some ⟨kb, 0, none⟩), .int .i64 rule] W' (RulePost (ruleAt p k rs rule).1 (ruleAt p k rs rule).2 W')) := fun W' hk' =>
    krule_spec hp hk (h.quiet hk') hrs hcap (hR.keeps (hk'.below (Nat.le_refl _) (fun _ _ x => x)) (fun _ _ _ h => h)) rule
  have hkind := ruleAt_kind (p := p) (k := k) (rs := rs) (i := rule)
  unfold needsL
  obtain ⟨⟨⟨kind, head, rwho, a, b, via⟩, ok⟩, hx⟩ : ∃ x, ruleAt p k rs rule = x := ⟨_, rfl⟩
  simp only [hx] at HR hkind ⊢
  cases ok with
  | false => rw [needsR_no (.inl rfl)]; exact needs_n1 h rule role who mid kind head rwho a b via HR
  | true =>
    replace hkind := hkind rfl
    by_cases h1 : head ≠ role
    · rw [needsR_no (.inr (.inl h1))]; exact needs_n2 h rule role who mid kind head rwho a b via (bne_iff_ne.2 h1) HR
    obtain rfl : head = role := Decidable.not_not.1 h1
    by_cases h2 : who < 0
    · rw [needsR_no (.inr (.inr (.inl h2)))]; exact needs_n3 h rule head who mid kind rwho a b via h2 HR
    by_cases h3 : p ≤ who
    · rw [needsR_no (.inr (.inr (.inr (.inl h3))))]; exact needs_n4 h rule head who mid kind rwho a b via (decide_eq_false h2) (decide_eq_true h3) HR
    by_cases h4 : kind ≠ 3 ∧ mid ≠ 0
    · rw [needsR_no (.inr (.inr (.inr (.inr h4))))]; exact needs_n5 h rule head who mid kind rwho a b via (decide_eq_false h2) (decide_eq_false h3) (bne_iff_ne.2 h4.1) (bne_iff_ne.2 h4.2) HR
    have hno : ¬ (true = false ∨ head ≠ head ∨ who < 0 ∨ p ≤ who ∨ (kind ≠ 3 ∧ mid ≠ 0)) := by
      rintro (h | h | h | h | h)
      · cases h
      · exact h rfl
      · exact h2 h
      · exact h3 h
      · exact h4 h
    unfold needsR
    rw [if_neg hno]
    rcases hkind with rfl | rfl | rfl | rfl
    · obtain rfl : mid = 0 := by
        rcases Int.decEq mid 0 with h | h
        · exact absurd ⟨by decide, h⟩ h4
        · exact h
      exact needs_k1 h rule head who rwho a b via (decide_eq_false h2) (decide_eq_false h3) HR
    · obtain rfl : mid = 0 := by
        rcases Int.decEq mid 0 with h | h
        · exact absurd ⟨by decide, h⟩ h4
        · exact h
      exact needs_k2 h rule head who rwho a b via (decide_eq_false h2) (decide_eq_false h3) HR
    · by_cases h5 : 0 ≤ mid
      · have := needs_k3b h rule head who mid rwho a b via (decide_eq_false h2) (decide_eq_false h3) (decide_eq_true h5) _ rfl _ _ rfl rfl HR
        rw [show decide (mid < p) = decide (0 ≤ mid ∧ mid < p) from by simp [h5]] at this
        exact this
      · have := needs_k3a h rule head who mid rwho a b via (decide_eq_false h2) (decide_eq_false h3) (decide_eq_false h5) _ _ rfl rfl HR
        rw [show false = decide (0 ≤ mid ∧ mid < p) from by simp [h5]] at this
        exact this
    · obtain rfl : mid = 0 := by
        rcases Int.decEq mid 0 with h | h
        · exact absurd ⟨by decide, h⟩ h4
        · exact h
      exact needs_k4 h rule head who rwho a b via (decide_eq_false h2) (decide_eq_false h3) HR
end Go.Proofs.Ytahnedkdodjomaa
