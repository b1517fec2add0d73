/-
  Diagrams by variables in another order, and back: where they are true, how much is made. No program in sight.
-/
import Derived.Test.YtipcgjigkipcpaaMG
import Derived.Test.YtipcgjigkipcpaaOrdPlain
import Derived.Test.YtipcgjigkipcpaaOrdRows
set_option linter.unusedVariables false
set_option linter.unusedSimpArgs false
set_option linter.unnecessarySimpa false
namespace Go.Proofs.Ytipcgjigkipcpaa
open Go.ChangeShapes Go.WideShapes Go.ChangeAt Go.RowKit Go.Deep NodePlain
theorem getD_ord {k : Nat} {l : List Int} (h : ordB k l = true) {v : Nat} (hv : v < k) : ∃ y : Nat, y < k ∧ l[v]? = some (y : Int) ∧ (l.getD v 0).toNat = y := by
  obtain ⟨y, hy, e⟩ := ord_get h hv
  exact ⟨y, hy, e, by rw [List.getD_eq_getElem?_getD, e]; simp⟩
theorem bitsL_test {k : Nat} {l : List Int} (h : ordB k l = true) (X : Nat) {v : Nat} (hv : v < k) : ∀ i, i ≤ k → (bitsL X l i).testBit (l.getD v 0).toNat = (decide (v < i) && X.testBit v)
  | 0, _ => by simp [bitsL]
  | i + 1, hi => by
    obtain ⟨y, hy, ey, hg⟩ := getD_ord h hv
    obtain ⟨z, hz, ez, hz2⟩ := getD_ord h (show i < k by omega)
    have r := bitsL_test h X hv i (by omega)
    rw [hg] at r ⊢
    unfold bitsL
    rw [hz2, Nat.testBit_or, r]
    by_cases e : v = i
    · subst e
      rw [ey] at ez
      simp only [Option.some.injEq] at ez
      obtain rfl : y = z := by omega
      cases hb : X.testBit v <;> simp [hb, Nat.testBit_two_pow_self]
    · have hyz : y ≠ z := fun e2 => by
        subst e2
        exact e (nodup_get (ordB_iff.1 h).2.2.2.2 ey ez)
      have h2 : (if X.testBit i = true then 2 ^ z else 0).testBit y = false := by
        split
        · exact Nat.testBit_two_pow_of_ne (fun e => hyz e.symm)
        · simp
      rw [h2, Bool.or_false]
      have : decide (v < i + 1) = decide (v < i) := decide_eq_decide.2 (by omega)
      rw [this]
section
variable {V : Int} {L : Nat → Nd} {n : Nat} {k : Nat} {l : List Int}
theorem ev_upto (g : NodePlain.Good V L n) (hV : V = (k : Int)) {f : Int} (hf : isN n f = true) {b1 b2 : Nat → Bool} (hb : ∀ x : Nat, x < k → b1 x = b2 x) : ev L b1 f = ev L b2 f := by
  rw [isN_iff] at hf
  exact ev_below g (b1 := b1) (b2 := b2) (fun x hx => hb x (by omega)) (n + 2) f (by omega) (by omega)
theorem moved_bits (g : NodePlain.Good V L n) (hV : V = (k : Int)) (ho : ordB k l = true) {f : Int} (hf : isN n f = true) (X : Nat) :
    ev L (fun v => (bitsL X l k).testBit (l.getD v 0).toNat) f = ev L X.testBit f :=
  ev_upto g hV hf fun x hx => by rw [bitsL_test ho X hx k (Nat.le_refl _), decide_eq_true hx, Bool.true_and]
theorem back_getD {F : Nat → Int} (ho : ordB k l = true) (u : Undoes l F k) {v : Nat} (hv : v < k) : ((((List.range k).map F).getD (l.getD v 0).toNat 0)).toNat = v := by
  obtain ⟨y, hy, ey, hg⟩ := getD_ord ho hv
  rw [hg, List.getD_eq_getElem?_getD, List.getElem?_map, List.getElem?_range hy]
  show (F y).toNat = v
  rw [u v y hv ey]; simp
theorem moved_back {F : Nat → Int} (g : NodePlain.Good V L n) (hV : V = (k : Int)) (ho : ordB k l = true) (u : Undoes l F k) {f : Int} (hf : isN n f = true) (β : Nat → Bool) :
    ev L (fun v => β (((List.range k).map F).getD (l.getD v 0).toNat 0).toNat) f = ev L β f :=
  ev_upto g hV hf fun x hx => by rw [back_getD ho u hx]
theorem back_ord {F : Nat → Int} (ho : ordB k l = true) (u : Undoes l F k) : ordB k ((List.range k).map F) = true := by
  have h0 := ordB_iff.1 ho
  have key : ∀ y, y < k → ∃ j : Nat, j < k ∧ F y = (j : Int) ∧ l[j]? = some (y : Int) := fun y hy => by
    obtain ⟨j, hj, e⟩ := ord_onto ho hy
    exact ⟨j, hj, u j y hj e, e⟩
  refine ordB_iff.2 ⟨h0.1, h0.2.1, by simp, fun x hx => ?_, ?_⟩
  · obtain ⟨y, hy, rfl⟩ := List.mem_map.1 hx
    obtain ⟨j, hj, e, _⟩ := key y (List.mem_range.1 hy)
    omega
  · refine List.pairwise_iff_getElem.2 fun a b ha hb hab => ?_
    rw [List.length_map, List.length_range] at ha hb
    rw [List.getElem_map, List.getElem_map, List.getElem_range, List.getElem_range]
    intro e
    obtain ⟨j, hj, e1, q1⟩ := key a ha
    obtain ⟨i, hi, e2, q2⟩ := key b hb
    have : j = i := by omega
    subst this
    rw [q1] at q2
    simp only [Option.some.injEq] at q2
    omega
theorem costs6 {V v : Int} (hV : V ≤ 6) (hv : 0 ≤ v) : 2 ^ V.toNat * costN V v ≤ 4032 ∧ costN V v ≤ 63 := by
  have h2 : costN V v ≤ 63 := by
    unfold costN
    have : 2 ^ (V - v).toNat ≤ 2 ^ 6 := Nat.pow_le_pow_right (by omega) (by omega)
    omega
  have h1 : 2 ^ V.toNat ≤ 64 := Nat.le_trans (Nat.pow_le_pow_right (by omega) (show V.toNat ≤ 6 by omega)) (by decide)
  exact ⟨Nat.le_trans (Nat.mul_le_mul h1 h2) (by decide), h2⟩
end
end Go.Proofs.Ytipcgjigkipcpaa
