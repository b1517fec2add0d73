/-
  The law QuantTells: for every input the call returns true, and each argument reads as it did. No condition.
-/
import Derived.Test.YtfakjhcpaiaekaaRows
import Derived.Test.YtfakjhcpaiaekaaKit
import Derived.Lib.SmallJoins
import Derived.Test.YtfakjhcpaiaekaaQuantTellsWalk
set_option linter.unusedVariables false
set_option linter.unusedSimpArgs false
namespace Go.Proofs.Ytfakjhcpaiaekaa
open Go.ChangeShapes Go.WideShapes Go.ChangeAt Go.RowKit Go.Deep

namespace lawQuantTells
theorem own : ownKnob Try.prog.godebug = none := by kernel_rfl
theorem laidOut : laidOutB Try.prog = true := by kernel_rfl
set_option maxRecDepth 100000 in
theorem lifted (os : Os) (started : os.Started) (H : Type) (enc : TypeId × Value → H) :
    ReturnsInHanded {} Try.checked os 6 .any (Rows.quantTellsSpec.pre6 enc Try.prog Try.f6 Rows.quantTellsRow.domain false) (Rows.quantTellsSpec.post enc Try.prog Try.f6 false true false false) := by
  refine returnsInHanded_of_change (C := Try.checked) own started (by kernel_rfl) Try.func6
    (ChangeSpec.witness6 (enc := enc) (C := Try.checked) false ⟨#[], #[.slice none 0 0, .int .u64 0, .agg #[.int .i64 0, .slice none 0 0]], []⟩ 8 (by kernel_rfl) (by kernel_rfl) (by kernel_rfl) (by kernel_rfl)) ?_
  intro W base args ds gs before hval0 hW hcnd _
  have hval : ∀ (j : Nat) t v, Try.f6.params[j]? = some t → args[j]? = some v → Value.okWide Try.prog W .any base t v := hval0
  have hW' := hW
  obtain ⟨p, q, hA0, hV, rfl, hfz, hnd⟩ := hW
  have hA : DataW.TrodAll enc Try.prog W 0 (fun _ => true) true Try.f6.params.toList args.toList ds p := hA0
  rw [Try.params6] at hA hval
  obtain ⟨v0, vs0, d0, ds0, p0, q0, hargs, rfl, rfl, h0, r0⟩ := trodAll_cons hA
  obtain ⟨v1, vs1, d1, ds1, p1, q1, rfl, rfl, rfl, h1, r1⟩ := trodAll_cons r0
  obtain ⟨v2, vs2, d2, ds2, p2, q2, rfl, rfl, rfl, h2, r2⟩ := trodAll_cons r1
  obtain ⟨rfl, rfl, rfl⟩ := trodAll_nil r2
  obtain rfl : args = #[v0, v1, v2] := by cases args; simp_all
  obtain ⟨rfl, rfl⟩ := trodVars_none hV
  refine law_contract (tb := 4) laidOut (by kernel_rfl) rfl Try.underlying4 rfl hW' ⟨rfl, rfl, rfl⟩ ?_
  clear hA0 hval0 hW' hcnd hfz hnd
  obtain ⟨ao0, n0, cap0, rfl⟩ := okWide_slice Try.underlying23 (hval 0 23 v0 rfl rfl)
  obtain ⟨f0, hf0⟩ := h0
  obtain ⟨G0, row0⟩ := isRow_of_trod (n := 9) (ls := [.int .u64, .int .u64, .int .u64, .int .u64]) Try.underlying23 (by kernel_rfl) (by kernel_rfl) (by decide) (by simpa [Value.cells] using hf0)
  obtain ⟨a1, rfl, rfl, rfl, wa1⟩ := open_int Try.underlying22 (hval 1 22 v1 rfl rfl) h1
  have ba1 := bounds_u64 wa1
  obtain ⟨e0, e1, y0, y1, nf, rfl, rfl, rfl, g0, g1⟩ := Go.Joins.open_agg2 Try.underlying58 (by kernel_rfl) (by kernel_rfl) (hval 2 58 v2 rfl rfl) h2
  obtain ⟨a2, hv2, _, _⟩ := DataW.trod_int Try.underlying3 g0
  obtain rfl : e0 = .int .i64 a2 := by simpa using hv2
  obtain ⟨ao2, n2, cap2, hv3⟩ := Go.Joins.slice_form Try.underlying27 g1
  obtain rfl : e1 = .slice ao2 n2 cap2 := by simpa using hv3
  obtain ⟨G2, row2⟩ := isRow_of_trod (n := 9) (ls := [.int .i64]) Try.underlying27 (by kernel_rfl) (by kernel_rfl) (by decide) g1
  exact quantTells_walk W ao0 n0 cap0 G0 row0 a1 ba1.1 ba1.2 a2 ao2 n2 cap2 G2 row2

theorem proved : Rows.QuantTellsSaid :=
  OpenClaim.holds_of_wide 6 Try.f6 rfl rfl rfl rfl rfl rfl rfl ⟨rfl, rfl, rfl, rfl, rfl⟩ rfl rfl rfl rfl rfl (by kernel_rfl) Try.func6 (by kernel_rfl)
    (of_decide_eq_true (by kernel_rfl)) (by unfold Func.isWrapper; rw [if_neg (by decide +kernel)]; exact ⟨rfl, rfl⟩)
    (fun os started H enc _ => lifted os started H enc)
end lawQuantTells
#print axioms lawQuantTells.proved
end Go.Proofs.Ytfakjhcpaiaekaa
