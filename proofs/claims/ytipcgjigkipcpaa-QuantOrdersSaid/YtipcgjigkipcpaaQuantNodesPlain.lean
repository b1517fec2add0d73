/-
  All nodes that a diagram comes to, one by one: in which order they are met, how many these are. No program in sight.
-/
import Derived.Test.YtipcgjigkipcpaaOrdMovePlain
set_option linter.unusedVariables false
set_option linter.unusedSimpArgs false
set_option linter.unnecessarySimpa false
namespace Go.Proofs.Ytipcgjigkipcpaa
open Go.ChangeShapes Go.WideShapes Go.ChangeAt Go.RowKit Go.Deep NodePlain
/-- Those met ahead, a diagram, those met behind it. -/
inductive Dfs (L : Nat → Nd) (n : Nat) : List Int → Int → List Int → Prop where
  | stop (K : List Int) (f : Int) : (f ∈ K ∨ getN L n f = none) → Dfs L n K f K
  | step (K K1 K2 : List Int) (f u lo hi : Int) : f ∉ K → getN L n f = some (u, lo, hi) → Dfs L n (K ++ [f]) lo K1 → Dfs L n K1 hi K2 → Dfs L n K f K2
theorem Dfs.one {L : Nat → Nd} {n : Nat} {K K1 : List Int} {f : Int} (h : Dfs L n K f K1) : ∀ K2, Dfs L n K f K2 → K1 = K2 := by
  induction h with
  | stop K f h =>
    intro K2 k
    cases k with
    | stop _ _ _ => rfl
    | step _ _ _ _ u lo hi h1 h2 _ _ =>
      rcases h with h | h
      · exact absurd h h1
      · rw [h] at h2; cases h2
  | step K K1 K2 f u lo hi h1 h2 _ _ ih1 ih2 =>
    intro K3 k
    cases k with
    | stop _ _ h =>
      rcases h with h | h
      · exact absurd h h1
      · rw [h] at h2; cases h2
    | step _ Q1 _ _ u' lo' hi' g1 g2 g3 g4 =>
      rw [h2] at g2
      simp only [Option.some.injEq, Prod.mk.injEq] at g2
      obtain ⟨_, rfl, rfl⟩ := g2
      have e := ih1 _ g3
      subst e
      exact ih2 _ g4
theorem Dfs.ext {V : Int} {L L' : Nat → Nd} {n n' : Nat} (e : Ext L n L' n') (g : NodePlain.Good V L n) {K K1 : List Int} {f : Int} (h : Dfs L n K f K1) : isN n f = true → Dfs L' n' K f K1 := by
  induction h with
  | stop K f h =>
    intro hf
    refine .stop K f (h.imp id fun h => ?_)
    rw [isN_iff] at hf
    unfold getN at h ⊢
    by_cases h2 : 2 ≤ f
    · rw [if_pos ⟨h2, hf.2⟩] at h; cases h
    · rw [if_neg (by omega)]
  | step K K1 K2 f u lo hi h1 h2 _ _ ih1 ih2 =>
    intro hf
    have hfi := isN_iff.1 hf
    have hget : getN L' n' f = some (u, lo, hi) := by
      unfold getN at h2 ⊢
      by_cases h3 : 2 ≤ f
      · rw [if_pos ⟨h3, hfi.2⟩] at h2
        rw [if_pos ⟨h3, by have := e.le; omega⟩, ← e.eq _ (by omega)]
        exact h2
      · rw [if_neg (by omega)] at h2; cases h2
    have hk : isN n lo = true ∧ isN n hi = true := by
      unfold getN at h2
      by_cases h3 : 2 ≤ f
      · rw [if_pos ⟨h3, hfi.2⟩] at h2
        have q := g.node (f - 2).toNat (by omega)
        simp only [Option.some.injEq] at h2
        rw [h2] at q
        exact ⟨isN_iff.2 ⟨q.2.2.1, by have := q.2.2.2.1; simp only [] at this; omega⟩, isN_iff.2 ⟨q.2.2.2.2.1, by have := q.2.2.2.2.2.1; simp only [] at this; omega⟩⟩
      · rw [if_neg (by omega)] at h2; cases h2
    exact .step K K1 K2 f u lo hi h1 hget (ih1 hk.1) (ih2 hk.2)
/-- A diagram has so many nodes. -/
def SizeN (L : Nat → Nd) (n : Nat) (f : Int) (s : Nat) : Prop := ∃ K, Dfs L n [] f K ∧ K.length = s
theorem SizeN.one {L : Nat → Nd} {n : Nat} {f : Int} {s t : Nat} (h : SizeN L n f s) (k : SizeN L n f t) : s = t := by
  obtain ⟨K, h1, rfl⟩ := h
  obtain ⟨Q, k1, rfl⟩ := k
  rw [h1.one _ k1]
theorem SizeN.ext {V : Int} {L L' : Nat → Nd} {n n' : Nat} {f : Int} {s : Nat} (h : SizeN L n f s) (e : Ext L n L' n') (g : NodePlain.Good V L n) (hf : isN n f = true) : SizeN L' n' f s := by
  obtain ⟨K, h1, h2⟩ := h
  exact ⟨K, h1.ext e g hf, h2⟩
end Go.Proofs.Ytipcgjigkipcpaa
