/-
  The document's example of a proof.
-/
import Derived.Test.YtahnedkdodjomaaProofSel
import Derived.Test.YtahnedkdodjomaaProofRef
set_option linter.unusedVariables false
set_option linter.unusedSimpArgs false
set_option linter.unnecessarySimpa false
namespace Go.Proofs.Ytahnedkdodjomaa
open Go.ChangeShapes Go.WideShapes Go.ChangeAt Go.RowKit Go.Deep SetPlain
def exProof : List Rl := [⟨2, 0, 0, 3, 0, 0⟩, ⟨1, 3, 2, 0, 0, 0⟩]
theorem ex_form {l : List Sp} {s : Sp} (h : mayB (3 : Nat) (2 : Nat) exProof l s = true) :
    (∃ c : Nat, s = ⟨0, 0, c, 0⟩ ∧ inL l 3 c = true ∧ (atF l 0 c).isSome = false) ∨ (s = ⟨1, 3, 2, 0⟩ ∧ (atF l 3 2).isSome = false) := by
  obtain ⟨i, r, c, m, hr, hR, rfl, hc, h3, h4⟩ := may_form h
  rw [may_at (by omega) (by omega) hr hR hc h3 h4, Bool.and_eq_true] at h
  obtain ⟨hp, hn⟩ := h
  match i, hr with
  | 0, hr =>
    simp only [exProof, List.getElem?_cons_zero, Option.some.injEq] at hr
    subst hr
    obtain rfl := h3 (by decide)
    simp [premM] at hp
    refine .inl ⟨c, rfl, hp, ?_⟩
    simpa using hn
  | 1, hr =>
    simp only [exProof, List.getElem?_cons_succ, List.getElem?_cons_zero, Option.some.injEq] at hr
    subst hr
    obtain rfl := h3 (by decide)
    simp [premM] at hp
    obtain rfl : c = 2 := by omega
    refine .inr ⟨rfl, ?_⟩
    simpa using hn
  | i + 2, hr => simp [exProof] at hr
theorem lives_plain {ok : Bool} {out : List Sp} (h : WhyAns 3 2 exProof 0 2 ok out) : ok = true ∧ out = [⟨1, 3, 2, 0⟩, ⟨0, 0, 2, 0⟩] := by
  obtain ⟨h1, _, _, h4⟩ := h.told (by omega) (by omega)
  have hok : ok = true := by
    refine (h4 0 2 rfl rfl).2 ?_
    have hf : exProof.filter (fun r => rightB (3 : Nat) (2 : Nat) r) = exProof := by decide
    rw [hf]
    have a1 : Der 2 exProof 3 2 := Der.mem (K := 2) ⟨1, 3, 2, 0, 0, 0⟩ (by simp [exProof]) rfl
    exact Der.incl (K := 2) ⟨2, 0, 0, 3, 0, 0⟩ 2 (by simp [exProof]) rfl a1
  have ht := h1 hok
  refine ⟨hok, ?_⟩
  obtain ⟨pos, _, good, last, _⟩ := ht
  match out, pos, good, last with
  | s0 :: rest, _, good, last =>
    have g0 := good 0 s0 rfl
    simp only [List.take_zero] at g0
    rcases ex_form g0 with ⟨c, _, hi, _⟩ | ⟨rfl, _⟩
    · cases hi
    match rest, good, last with
    | [], good, last =>
      have := (last ⟨1, 3, 2, 0⟩ rfl).1
      cases this
    | s1 :: rest, good, last =>
      have g1 := good 1 s1 rfl
      simp only [List.take_succ_cons, List.take_zero] at g1
      rcases ex_form g1 with ⟨c, rfl, hi, _⟩ | ⟨_, hn⟩
      · have hc : c = 2 := by
          unfold inL atF atF at hi
          simp at hi
          omega
        subst hc
        match rest, good with
        | [], _ => rfl
        | s2 :: rest, good =>
          exfalso
          have g2 := good 2 s2 rfl
          simp only [List.take_succ_cons, List.take_zero] at g2
          rcases ex_form g2 with ⟨c, _, hi, hn⟩ | ⟨_, hn⟩
          · have hc : c = 2 := by
              unfold inL atF atF atF at hi
              simp at hi
              omega
            subst hc
            exact absurd hn (by decide)
          · exact absurd hn (by decide)
      · exact absurd hn (by decide)
end Go.Proofs.Ytahnedkdodjomaa
