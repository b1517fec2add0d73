/-
  The law ProofChecks: for every input the call returns true, and each argument reads as it did. No condition.
-/
import Derived.Test.YtahnedkdodjomaaRows
import Derived.Test.YtahnedkdodjomaaKit
import Derived.ChangeMaps5
import Derived.Test.YtahnedkdodjomaaProofChecksWalk
set_option linter.unusedVariables false
set_option linter.unusedSimpArgs false
namespace Go.Proofs.Ytahnedkdodjomaa
open Go.ChangeShapes Go.WideShapes Go.ChangeAt Go.RowKit Go.Deep

namespace lawProofChecks
theorem own : ownKnob Try.prog.godebug = none := by kernel_rfl
theorem laidOut : laidOutB Try.prog = true := by kernel_rfl
set_option maxRecDepth 100000 in
theorem lifted (os : Os) (started : os.Started) (H : Type) (enc : TypeId × Value → H) :
    ReturnsInHanded {} Try.checked os 3 .any (Rows.proofChecksSpec.pre6 enc Try.prog Try.f3 Rows.proofChecksRow.domain false) (Rows.proofChecksSpec.post enc Try.prog Try.f3 false true false false) := by
  refine returnsInHanded_of_change (C := Try.checked) own started (by kernel_rfl) Try.func3
    (ChangeSpec.witness6 (enc := enc) (C := Try.checked) false ⟨#[], #[.agg #[.int .i64 0, .int .i64 0], .slice none 0 0, .slice none 0 0], []⟩ 8 (by kernel_rfl) (by kernel_rfl) (by kernel_rfl) (by kernel_rfl)) ?_
  intro W base args ds gs before hval0 hW hcnd _
  have hval : ∀ (j : Nat) t v, Try.f3.params[j]? = some t → args[j]? = some v → Value.okWide Try.prog W .any base t v := hval0
  have hW' := hW
  obtain ⟨p, q, hA0, hV, rfl, hfz, hnd⟩ := hW
  have hA : DataW.TrodAll enc Try.prog W 0 (fun _ => true) true Try.f3.params.toList args.toList ds p := hA0
  rw [Try.params3] at hA hval
  obtain ⟨v0, vs0, d0, ds0, p0, q0, hargs, rfl, rfl, h0, r0⟩ := trodAll_cons hA
  obtain ⟨v1, vs1, d1, ds1, p1, q1, rfl, rfl, rfl, h1, r1⟩ := trodAll_cons r0
  obtain ⟨v2, vs2, d2, ds2, p2, q2, rfl, rfl, rfl, h2, r2⟩ := trodAll_cons r1
  obtain ⟨rfl, rfl, rfl⟩ := trodAll_nil r2
  obtain rfl : args = #[v0, v1, v2] := by cases args; simp_all
  obtain ⟨rfl, rfl⟩ := trodVars_none hV
  refine law_contract (tb := 4) laidOut (by kernel_rfl) rfl Try.underlying4 rfl hW' ⟨rfl, rfl, rfl⟩ ?_
  clear hA0 hval0 hW' hcnd hfz hnd
  obtain ⟨f0, hf0⟩ := h0
  obtain ⟨c0, rfl, sz0, fit0⟩ := agg_of_trod (n := 9) (ls := [.int .i64, .int .i64]) (by first | exact .inr ⟨_, _, Try.underlying22⟩ | exact .inl ⟨_, Try.underlying22⟩) (by kernel_rfl) (by kernel_rfl) (hval 0 22 v0 rfl rfl) hf0
  obtain ⟨ao1, n1, cap1, rfl⟩ := okWide_slice Try.underlying23 (hval 1 23 v1 rfl rfl)
  obtain ⟨f1, hf1⟩ := h1
  obtain ⟨G1, row1⟩ := isRow_of_trod (n := 9) (ls := [.int .i64, .int .i64, .int .i64, .int .i64, .int .i64, .int .i64]) Try.underlying23 (by kernel_rfl) (by kernel_rfl) (by decide) (by simpa [Value.cells] using hf1)
  obtain ⟨ao2, n2, cap2, rfl⟩ := okWide_slice Try.underlying24 (hval 2 24 v2 rfl rfl)
  obtain ⟨f2, hf2⟩ := h2
  obtain ⟨G2, row2⟩ := isRow_of_trod (n := 9) (ls := [.int .i64, .int .i64, .int .i64, .int .i64]) Try.underlying24 (by kernel_rfl) (by kernel_rfl) (by decide) (by simpa [Value.cells] using hf2)
  have z2 : ao2 = none → cap2 = 0 := fun e => by
    subst e
    rcases open_slice Try.underlying24 (by simpa [Value.cells] using hf2) with ⟨q, _⟩ | ⟨a, len', cap', m, n', D, Pl, hcs, _⟩
    · simp only [List.cons.injEq, Value.slice.injEq, and_true] at q; exact q.2.2
    · simp at hcs
  exact proofChecks_core W c0 sz0 fit0 ao1 n1 cap1 G1 row1 ao2 n2 cap2 G2 row2 z2

theorem proved : Rows.ProofChecksSaid :=
  OpenClaim.holds_of_wide 3 Try.f3 rfl rfl rfl rfl rfl rfl rfl ⟨rfl, rfl, rfl, rfl, rfl⟩ rfl rfl rfl rfl rfl (by kernel_rfl) Try.func3 (by kernel_rfl)
    (of_decide_eq_true (by kernel_rfl)) (by unfold Func.isWrapper; rw [if_neg (by decide +kernel)]; exact ⟨rfl, rfl⟩)
    (fun os started H enc _ => lifted os started H enc)
end lawProofChecks
#print axioms lawProofChecks.proved
end Go.Proofs.Ytahnedkdodjomaa
