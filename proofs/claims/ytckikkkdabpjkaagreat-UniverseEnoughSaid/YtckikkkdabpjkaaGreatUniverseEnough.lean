/-
 The law UniverseEnough: for every input the call returns true, and each argument reads as it did. No condition.
-/
import Derived.Test.YtckikkkdabpjkaaGreatRows
import Derived.Test.YtckikkkdabpjkaaGreatKit
import Derived.ChangeMaps5
import Derived.Test.YtckikkkdabpjkaaGreatME
import Derived.Test.YtckikkkdabpjkaaGreatUniverseEnoughWalk
set_option linter.unusedVariables false
set_option linter.unusedSimpArgs false
namespace Go.Proofs.YtckikkkdabpjkaaGreat
open Go.ChangeShapes Go.WideShapes Go.ChangeAt Go.RowKit Go.Deep

namespace lawUniverseEnough
theorem own : ownKnob Tryz.prog.godebug = none := by kernel_rfl
theorem laidOut : laidOutB Tryz.prog = true := by kernel_rfl
set_option maxRecDepth 100000 in
theorem lifted (os : Os) (started : os.Started) (H : Type) (enc : TypeId × Value → H) :
 ReturnsInHanded {} Tryz.checked os 8 .any (Rows.universeEnoughSpec.pre6 enc Tryz.prog Tryz.f8 Rows.universeEnoughRow.domain false) (Rows.universeEnoughSpec.post enc Tryz.prog Tryz.f8 false true false false) := by
 refine returnsInHanded_of_change (C := Tryz.checked) own started (by kernel_rfl) Tryz.func8
  (ChangeSpec.witness6 (enc := enc) (C := Tryz.checked) false ⟨#[], #[.agg #[.slice none 0 0, .slice none 0 0, .slice none 0 0, .slice none 0 0], .agg #[.int .i64 0, .string ⟨#[]⟩, .string ⟨#[]⟩, .string ⟨#[]⟩, .string ⟨#[]⟩, .slice none 0 0], .slice none 0 0], []⟩ 8 (by kernel_rfl) (by kernel_rfl) (by kernel_rfl) (by kernel_rfl)) ?_
 intro W base args ds gs before hval0 hW hcnd _
 have hval : ∀ (j : Nat) t v, Tryz.f8.params[j]? = some t → args[j]? = some v → Value.okWide Tryz.prog W .any base t v := hval0
 have hW' := hW
 obtain ⟨p, q, hA0, hV, rfl, hfz, hnd⟩ := hW
 have hA : DataW.TrodAll enc Tryz.prog W 0 (fun _ => true) true Tryz.f8.params.toList args.toList ds p := hA0
 rw [Tryz.params8] at hA hval
 obtain ⟨v0, vs0, d0, ds0, p0, q0, hargs, rfl, rfl, h0, r0⟩ := trodAll_cons hA
 obtain ⟨v1, vs1, d1, ds1, p1, q1, rfl, rfl, rfl, h1, r1⟩ := trodAll_cons r0
 obtain ⟨v2, vs2, d2, ds2, p2, q2, rfl, rfl, rfl, h2, r2⟩ := trodAll_cons r1
 obtain ⟨rfl, rfl, rfl⟩ := trodAll_nil r2
 obtain rfl : args = #[v0, v1, v2] := by cases args; simp_all
 obtain ⟨rfl, rfl⟩ := trodVars_none hV
 refine law_contract (tb := 4) laidOut (by kernel_rfl) rfl Tryz.underlying4 rfl hW' ⟨rfl, rfl, rfl⟩ ?_
 clear hA0 hval0 hW' hcnd hfz hnd
 obtain ⟨ao0, bo0, co0, jo0, an0, ac0, bn0, bc0, cn0, cc0, jn0, jc0, p0', rfl, pa0⟩ := pol_open (hval 0 26 v0 rfl rfl) h0
 obtain ⟨wo1, wn1, wc1, q1', rfl, qr1, ql1⟩ := qry_open (hval 1 31 v1 rfl rfl) h1
 obtain ⟨mo2, mn2, mc2, ml2, rfl, ms2⟩ := stms_open (hval 2 22 v2 rfl rfl) h2
 exact universeEnough_walk pa0 qr1 ql1 ms2

theorem proved : Rows.UniverseEnoughSaid :=
 OpenClaim.holds_of_wide 8 Tryz.f8 rfl rfl rfl rfl rfl rfl rfl ⟨rfl, rfl, rfl, rfl, rfl⟩ rfl rfl rfl rfl rfl (by kernel_rfl) Tryz.func8 (by kernel_rfl)
  (of_decide_eq_true (by kernel_rfl)) (by unfold Func.isWrapper; rw [if_neg (by decide +kernel)]; exact ⟨rfl, rfl⟩)
  (fun os started H enc _ => lifted os started H enc)
end lawUniverseEnough
#print axioms lawUniverseEnough.proved
end Go.Proofs.YtckikkkdabpjkaaGreat
