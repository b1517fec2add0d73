/-
  The law ProofAlone: for every input the call returns true, and each argument reads as it did. No condition.
-/
import Derived.Test.YtahnedkdodjomaaRows
import Derived.Test.YtahnedkdodjomaaKit
import Derived.Test.YtahnedkdodjomaaProofAloneWalk
set_option linter.unusedVariables false
set_option linter.unusedSimpArgs false
namespace Go.Proofs.Ytahnedkdodjomaa
open Go.ChangeShapes Go.WideShapes Go.ChangeAt Go.RowKit Go.Deep

namespace lawProofAlone
theorem own : ownKnob Try.prog.godebug = none := by kernel_rfl
theorem laidOut : laidOutB Try.prog = true := by kernel_rfl
set_option maxRecDepth 100000 in
theorem lifted (os : Os) (started : os.Started) (H : Type) (enc : TypeId × Value → H) :
    ReturnsInHanded {} Try.checked os 4 .any (Rows.proofAloneSpec.pre6 enc Try.prog Try.f4 Rows.proofAloneRow.domain false) (Rows.proofAloneSpec.post enc Try.prog Try.f4 false true false false) := by
  refine returnsInHanded_of_change (C := Try.checked) own started (by kernel_rfl) Try.func4
    (ChangeSpec.witness6 (enc := enc) (C := Try.checked) false ⟨#[], #[.agg #[.int .i64 0, .int .i64 0], .slice none 0 0, .agg #[.int .i64 0, .int .i64 0]], []⟩ 8 (by kernel_rfl) (by kernel_rfl) (by kernel_rfl) (by kernel_rfl)) ?_
  intro W base args ds gs before hval0 hW hcnd _
  have hval : ∀ (j : Nat) t v, Try.f4.params[j]? = some t → args[j]? = some v → Value.okWide Try.prog W .any base t v := hval0
  have hW' := hW
  obtain ⟨p, q, hA0, hV, rfl, hfz, hnd⟩ := hW
  have hA : DataW.TrodAll enc Try.prog W 0 (fun _ => true) true Try.f4.params.toList args.toList ds p := hA0
  rw [Try.params4] at hA hval
  obtain ⟨v0, vs0, d0, ds0, p0, q0, hargs, rfl, rfl, h0, r0⟩ := trodAll_cons hA
  obtain ⟨v1, vs1, d1, ds1, p1, q1, rfl, rfl, rfl, h1, r1⟩ := trodAll_cons r0
  obtain ⟨v2, vs2, d2, ds2, p2, q2, rfl, rfl, rfl, h2, r2⟩ := trodAll_cons r1
  obtain ⟨rfl, rfl, rfl⟩ := trodAll_nil r2
  obtain rfl : args = #[v0, v1, v2] := by cases args; simp_all
  obtain ⟨rfl, rfl⟩ := trodVars_none hV
  refine law_contract (tb := 4) laidOut (by kernel_rfl) rfl Try.underlying4 rfl hW' ⟨rfl, rfl, rfl⟩ ?_
  clear hA0 hval0 hW' hcnd hfz hnd
  obtain ⟨f0, hf0⟩ := h0
  obtain ⟨c0, rfl, sz0, fit0⟩ := agg_of_trod (n := 9) (ls := [.int .i64, .int .i64]) (by first | exact .inr ⟨_, _, Try.underlying22⟩ | exact .inl ⟨_, Try.underlying22⟩) (by kernel_rfl) (by kernel_rfl) (hval 0 22 v0 rfl rfl) hf0
  obtain ⟨ao1, n1, cap1, rfl⟩ := okWide_slice Try.underlying23 (hval 1 23 v1 rfl rfl)
  obtain ⟨f1, hf1⟩ := h1
  obtain ⟨G1, row1⟩ := isRow_of_trod (n := 9) (ls := [.int .i64, .int .i64, .int .i64, .int .i64, .int .i64, .int .i64]) Try.underlying23 (by kernel_rfl) (by kernel_rfl) (by decide) (by simpa [Value.cells] using hf1)
  obtain ⟨f2, hf2⟩ := h2
  obtain ⟨c2, rfl, sz2, fit2⟩ := agg_of_trod (n := 9) (ls := [.int .i64, .int .i64]) (by first | exact .inr ⟨_, _, Try.underlying22⟩ | exact .inl ⟨_, Try.underlying22⟩) (by kernel_rfl) (by kernel_rfl) (hval 2 22 v2 rfl rfl) hf2
  exact proofAlone_core W c0 sz0 fit0 ao1 n1 cap1 G1 row1 c2 sz2 fit2

theorem proved : Rows.ProofAloneSaid :=
  OpenClaim.holds_of_wide 4 Try.f4 rfl rfl rfl rfl rfl rfl rfl ⟨rfl, rfl, rfl, rfl, rfl⟩ rfl rfl rfl rfl rfl (by kernel_rfl) Try.func4 (by kernel_rfl)
    (of_decide_eq_true (by kernel_rfl)) (by unfold Func.isWrapper; rw [if_neg (by decide +kernel)]; exact ⟨rfl, rfl⟩)
    (fun os started H enc _ => lifted os started H enc)
end lawProofAlone
#print axioms lawProofAlone.proved
end Go.Proofs.Ytahnedkdodjomaa
