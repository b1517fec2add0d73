/-
  The law LiveOrders: for every input the call returns true, and each argument reads as it did. No condition.
-/
import Derived.Test.YtaabmkebbnkonaaDoorRows
import Derived.Test.YtaabmkebbnkonaaDoorKit
import Derived.Test.YtaabmkebbnkonaaDoorDoorTab
import Derived.Test.YtaabmkebbnkonaaDoorTie
import Derived.Test.YtaabmkebbnkonaaDoorCards
import Derived.SevenTiedAt
import Derived.ChangeMaps5
import Derived.Test.YtaabmkebbnkonaaDoorLiveOrdersWalk
set_option linter.unusedVariables false
set_option linter.unusedSimpArgs false
namespace Go.Proofs.YtaabmkebbnkonaaDoor
open Go.ChangeShapes Go.WideShapes Go.ChangeAt Go.RowKit Go.Deep

namespace lawLiveOrders
theorem own : ownKnob Tryd.prog.godebug = none := by kernel_rfl
theorem laidOut : laidOutB Tryd.prog = true := by kernel_rfl
set_option maxRecDepth 100000 in
theorem lifted (os : Os) (started : os.Started) (H : Type) (enc : TypeId × Value → H) :
    ReturnsInHanded {} Tryd.checked os 5 .any (fun w args => (Rows.liveOrdersSpec.pre enc Tryd.prog Tryd.f5 [] false w args ∧ laidMetH Tryd.prog [("math/bits.deBruijn64tab", Rows.laid_math_bits_deBruijn64tab)] w) ∧ sizedMet enc Tryd.prog Tryd.f5 (OpenSpec.ofChange Rows.liveOrdersSpec) false w args) (Rows.liveOrdersSpec.post enc Tryd.prog Tryd.f5 false true false false) := by
  refine returnsInHanded_of_change_and (C := Tryd.checked) (X := fun w _ => laidMetH Tryd.prog [("math/bits.deBruijn64tab", Rows.laid_math_bits_deBruijn64tab)] w) (fun _ _ _ hh h => h.of_heap hh) own started (by kernel_rfl) Tryd.func5
    (ChangeSpec.witness_shaped (enc := enc) (C := Tryd.checked) (os := os) (X := fun w _ => laidMetH Tryd.prog [("math/bits.deBruijn64tab", Rows.laid_math_bits_deBruijn64tab)] w) false (World.doorLaid Tryd.prog 400 os) #[.agg #[.int .i64 0, .int .i64 0], .slice none 0 0, .agg #[.int .i64 0, .int .i64 0, .int .i64 0, .int .i64 0, .int .i64 0, .int .i64 0]] 8 rfl (World.shaped_of_RefB (by kernel_rfl) (by kernel_rfl)) (by kernel_rfl) (by kernel_rfl) (by kernel_rfl) (door_met os _)) ?_
  intro W base args ds gs before hval0 hW hcnd _ hL _
  have hval : ∀ (j : Nat) t v, Tryd.f5.params[j]? = some t → args[j]? = some v → Value.okWide Tryd.prog W .any base t v := hval0
  have hW' := hW
  obtain ⟨p, q, hA0, hV, rfl, hfz, hnd⟩ := hW
  have hA : DataW.TrodAll enc Tryd.prog W 0 (fun _ => true) true Tryd.f5.params.toList args.toList ds p := hA0
  rw [Tryd.params5] at hA hval
  obtain ⟨v0, vs0, d0, ds0, p0, q0, hargs, rfl, rfl, h0, r0⟩ := trodAll_cons hA
  obtain ⟨v1, vs1, d1, ds1, p1, q1, rfl, rfl, rfl, h1, r1⟩ := trodAll_cons r0
  obtain ⟨v2, vs2, d2, ds2, p2, q2, rfl, rfl, rfl, h2, r2⟩ := trodAll_cons r1
  obtain ⟨rfl, rfl, rfl⟩ := trodAll_nil r2
  obtain rfl : args = #[v0, v1, v2] := by cases args; simp_all
  obtain ⟨rfl, rfl⟩ := trodVars_none hV
  refine law_contract (tb := 4) laidOut (by kernel_rfl) rfl Tryd.underlying4 rfl hW' ⟨rfl, rfl, rfl⟩ ?_
  clear hA0 hval0 hW' hcnd hfz hnd
  obtain ⟨f0, hf0⟩ := h0
  obtain ⟨c0, rfl, sz0, fit0⟩ := agg_of_trod (n := 9) (ls := [.int .i64, .int .i64]) (by first | exact .inr ⟨_, _, Tryd.underlying22⟩ | exact .inl ⟨_, Tryd.underlying22⟩) (by kernel_rfl) (by kernel_rfl) (hval 0 22 v0 rfl rfl) hf0
  obtain ⟨ao1, n1, cap1, rfl⟩ := okWide_slice Tryd.underlying38 (hval 1 38 v1 rfl rfl)
  obtain ⟨f1, hf1⟩ := h1
  obtain ⟨G1, row1⟩ := isRow_of_trod (n := 9) (ls := [.int .i64, .int .i64, .int .i64, .int .i64, .int .i64, .int .i64]) Tryd.underlying38 (by kernel_rfl) (by kernel_rfl) (by decide) (by simpa [Value.cells] using hf1)
  obtain ⟨f2, hf2⟩ := h2
  obtain ⟨c2, rfl, sz2, fit2⟩ := agg_of_trod (n := 9) (ls := [.int .i64, .int .i64, .int .i64, .int .i64, .int .i64, .int .i64]) (by first | exact .inr ⟨_, _, Tryd.underlying29⟩ | exact .inl ⟨_, Tryd.underlying29⟩) (by kernel_rfl) (by kernel_rfl) (hval 2 29 v2 rfl rfl) hf2
  exact liveOrders_core W c0 sz0 fit0 ao1 n1 cap1 G1 row1 c2 sz2 fit2 (tab_of_laid hL)

theorem proved : Rows.LiveOrdersSaid :=
  OpenClaim.holds_of_wide 5 Tryd.f5 rfl rfl rfl rfl rfl rfl rfl ⟨rfl, rfl, rfl, rfl, rfl⟩ rfl rfl rfl rfl rfl (by kernel_rfl) Tryd.func5 (by kernel_rfl)
    (of_decide_eq_true (by kernel_rfl)) (by unfold Func.isWrapper; rw [if_neg (by decide +kernel)]; exact ⟨rfl, rfl⟩)
    (fun os started H enc _ => lifted os started H enc)
theorem card : Rows.LiveOrdersCardSaid :=
  Claim7.holds_tied_plain_at .later [] [.data] true (true, "47d3ad5d173aea0c0a4c70e74882fc617caaf2363aad9981aa3b5e4a96e57a23") false
    proved (fun _ h => by cases h) (by kernel_rfl) (fun _ h => by cases h) liveOrders_row_tie rfl ⟨rfl, rfl⟩ (by kernel_rfl) rfl
    (fun f fn hf hfn => by
      obtain rfl : f = 5 := Option.some.inj ((show Tryd.prog.funcNamed "crupper/crupperlaw43.LiveOrders" = some 5 by kernel_rfl).symm.trans hf) |>.symm
      obtain rfl : fn = Tryd.f5 := (Option.some.inj (Tryd.func5.symm.trans hfn)).symm
      exact ⟨by kernel_rfl, fun j t ht => by
        rw [Tryd.params5] at ht
        have hm : t ∈ [22, 38, 29] := by simpa using Array.mem_of_getElem? ht
        have hall : ([22, 38, 29].all fun u => !Tryd.prog.wantsStandIn u) = true := by kernel_rfl
        exact (show Tryd.prog.wantsStandIn t = false by simpa using List.all_eq_true.1 hall t hm)⟩)
    (by kernel_rfl)
end lawLiveOrders
#print axioms lawLiveOrders.card
end Go.Proofs.YtaabmkebbnkonaaDoor
