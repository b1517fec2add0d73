/-
  A map of numbers, as a function.
-/
import Derived.Test.YtloidoekmicloaaNodeTab
import Derived.Maps.OwnSet
import Derived.Maps.OwnOps
import Derived.Maps.Views
set_option linter.unusedVariables false
set_option linter.unusedSimpArgs false
set_option linter.unnecessarySimpa false
namespace Go.Proofs.Ytloidoekmicloaa
open Go.ChangeShapes Go.WideShapes Go.ChangeAt Go.RowKit Go.Deep
theorem mi_keyed : Go.Maps.Keyed Try.prog 3 := Go.Maps.int_keyed Try.underlying3
theorem mi_wf {a : Int} (h0 : -9223372036854775808 ≤ a) (h1 : a ≤ 9223372036854775807) : (Lit.int .i64 a).wf = true := by
  simp only [Lit.wf, IntKind.min, IntKind.max, IntKind.signed, IntKind.bits, Bool.and_eq_true, decide_eq_true_eq, if_true]
  omega
theorem mi_key {a : Int} (h0 : -9223372036854775808 ≤ a) (h1 : a ≤ 9223372036854775807) : keyOf Try.prog 3 (.int .i64 a) = some (.int .i64 a) := Go.Maps.keyOf_int_mk Try.underlying3 (mi_wf h0 h1)
theorem mi_zero (w : World) : (zeroValue 3).run Try.prog w = .ok (.int .i64 0) w := by kernel_rfl
def setK (K : Int → Option Int) (x y : Int) : Int → Option Int := fun k => if k = x then some y else K k
/-- The map reads as the function says. -/
def IMap (W : World) (mb n : Nat) (K : Int → Option Int) : Prop := ∃ D : DataW Unit, W.ownsMap Try.prog 3 (plainElem (H := Unit) Try.prog 3) mb n D ∧
  ∀ x : Int, Go.Maps.has D (.int .i64 x) = (K x).isSome ∧ D.atKey (.int .i64 x) (.lit (.int .i64 0)) = .lit (.int .i64 ((K x).getD 0))
section
variable {W W' : World} {mb n : Nat} {K : Int → Option Int}
theorem IMap.keeps {S : Nat → Prop} (h : IMap W mb n K) (hk : Keeps S W W') (hs : ¬ S mb) : IMap W' mb n K := by
  obtain ⟨D, h1, h2⟩ := h
  obtain ⟨es, clock, hb, r⟩ := h1
  exact ⟨D, ⟨es, clock, (hk.block mb (lt_of_heap hb) hs).trans hb, r⟩, h2⟩
theorem IMap.lt (h : IMap W mb n K) : mb < W.heap.size := by
  obtain ⟨D, h1, h2⟩ := h
  exact h1.lt
theorem IMap.zero (W : World) : IMap (W.alloc (.map #[] 0)) W.heap.size 0 (fun _ => none) := ⟨_, World.ownsMap_made _ _ _ _, fun a => ⟨rfl, by simp [DataW.atKey]⟩⟩
theorem IMap.ne (h : IMap W mb n K) {x : Nat} {c : Array Value} {t : TypeId} {f : Nat × Nat} (hx : W.heap[x]? = some (.cells c t f)) : mb ≠ x := fun e => by
  subst e
  obtain ⟨D, ⟨es, clock, hb, _⟩, _⟩ := h
  rw [hb] at hx
  cases hx
theorem IMap.put {D : DataW Unit} {x y : Int} (hD : ∀ x : Int, Go.Maps.has D (.int .i64 x) = (K x).isSome ∧ D.atKey (.int .i64 x) (.lit (.int .i64 0)) = .lit (.int .i64 ((K x).getD 0))) (hM : Go.Maps.IsMap D)
    (ho : W'.ownsMap Try.prog 3 (plainElem (H := Unit) Try.prog 3) mb n (D.put (.int .i64 x) (.lit (.int .i64 y)))) : IMap W' mb n (setK K x y) := by
  refine ⟨_, ho, fun a => ?_⟩
  unfold setK
  by_cases e : a = x
  · subst e
    have hkl : WideAt.IsKeyLit (.int .i64 a) := trivial
    rw [Go.Maps.has_put_same hM hkl, Go.Maps.atKey_put_same hM hkl, if_pos rfl]
    exact ⟨rfl, rfl⟩
  · have hne : Lit.int .i64 a ≠ .int .i64 x := fun h => e (by cases h; rfl)
    rw [Go.Maps.has_put_other hne, Go.Maps.atKey_put_other hne, if_neg e]
    exact hD a
theorem IMap.congr {K' : Int → Option Int} (h : IMap W mb n K) (e : ∀ x, K x = K' x) : IMap W mb n K' := by
  have : K = K' := funext e
  rw [← this]; exact h
end
end Go.Proofs.Ytloidoekmicloaa
