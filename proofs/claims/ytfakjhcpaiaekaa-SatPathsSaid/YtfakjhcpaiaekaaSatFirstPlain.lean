/-
  The first numbers at which a function is true, found from the top variable down. No program in sight.
-/
import Derived.Test.YtfakjhcpaiaekaaQuantState
import Derived.Test.YtfakjhcpaiaekaaMK
import Derived.Test.YtfakjhcpaiaekaaSatPathPlain
set_option linter.unusedVariables false
set_option linter.unusedSimpArgs false
set_option linter.unnecessarySimpa false
namespace Go.Proofs.Ytfakjhcpaiaekaa
open NodePlain SatPlain
/-- Of the numbers that start with q above w bits: a function that says the same, and hangs on these bits alone. -/
structure FirstI (k : Nat) (S E : (Nat → Bool) → Bool) (w q : Nat) : Prop where
  eq : ∀ b, b / 2 ^ w = q → S (Nat.testBit b) = E (Nat.testBit b)
  free : ∀ x : Nat, w ≤ x → x < k → ∀ β so, E (putB β (x : Int) so) = E β
theorem FirstI.start {k : Nat} {S : (Nat → Bool) → Bool} : FirstI k S S k 0 := ⟨fun _ _ => rfl, fun x h1 h2 => by omega⟩
theorem FirstI.half {k : Nat} {S E : (Nat → Bool) → Bool} {w q : Nat} (h : FirstI k S E (w + 1) q) (so : Bool) : FirstI k S (fun β => E (putB β (w : Int) so)) w (2 * q + so.toNat) := by
  refine ⟨fun b hb => ?_, fun x h1 h2 β s => ?_⟩
  · have h3 : b / 2 ^ (w + 1) = q := by
      rw [div_half, hb]
      cases so <;> simp <;> omega
    have h4 : Nat.testBit b w = so := by
      rw [bit_div, hb]
      cases so
      · exact decide_eq_false (by simp)
      · exact decide_eq_true (by show (2 * q + 1) % 2 = 1; omega)
    rw [h.eq b h3]
    show _ = E (putB (Nat.testBit b) (w : Int) so)
    rw [← h4, putB_own]
  · show E (putB (putB β (x : Int) s) (w : Int) so) = E (putB β (w : Int) so)
    by_cases e : x = w
    · subst e
      rw [putB_twice]
    · rw [putB_comm β (by omega), h.free x (by omega) h2]
theorem FirstI.zero {k : Nat} {S E : (Nat → Bool) → Bool} {w q : Nat} (h : FirstI k S E w q) (hE : ∀ β, E β = false) : onL S (2 ^ w * q) (2 ^ w) = [] := by
  unfold onL
  rw [List.filter_eq_nil_iff]
  intro b hb
  rw [List.mem_range'_1] at hb
  have hp : 0 < 2 ^ w := Nat.two_pow_pos w
  have hd : b / 2 ^ w = q := by
    obtain ⟨h1, h2⟩ := hb
    obtain ⟨r, rfl⟩ : ∃ r, b = 2 ^ w * q + r := ⟨b - 2 ^ w * q, by omega⟩
    rw [Nat.mul_add_div hp, Nat.div_eq_of_lt (by omega), Nat.add_zero]
  rw [h.eq b hd, hE]
  decide
theorem FirstI.one {k : Nat} {S E : (Nat → Bool) → Bool} {q : Nat} (h : FirstI k S E 0 q) (hE : ∀ β, E β = true) : onL S (2 ^ 0 * q) (2 ^ 0) = [q] := by
  unfold onL
  rw [Nat.pow_zero, Nat.one_mul]
  have : S (Nat.testBit q) = true := by rw [h.eq q (by rw [Nat.pow_zero, Nat.div_one]), hE]
  simp [List.range', this]
/-- What hangs on no variable, and is not never true, is always true. -/
theorem const_one {k : Nat} {st : St} {f : Int} {E : (Nat → Bool) → Bool} (g : NodePlain.Good (k : Int) st.L st.n) (hf : Num st f E) (h0 : f ≠ 0) (hfree : ∀ x : Nat, x < k → ∀ β so, E (putB β (x : Int) so) = E β) : ∀ β, E β = true := by
  intro β
  rcases hg : getN st.L st.n f with _ | ⟨u, lo, hi⟩
  · have hl := none_low hf.is hg
    have hi := isN_iff.1 hf.is
    obtain rfl : f = 1 := by omega
    rw [← hf.ev β, ev_low _ _ 1 (by omega)]
    rfl
  · obtain ⟨a1, a2, a3, a4, a5, a6, a7, a8, a9⟩ := node_parts g hf.is hg
    obtain ⟨v, rfl⟩ := Int.eq_ofNat_of_zero_le a2
    have hvk : v < k := by
      have := var_le (V := (k : Int)) g lo
      omega
    refine absurd (once_bits g k rfl a4 a5 (fun j _ => ?_)) a8
    have e0 := half_put g hf.is hg false (Nat.testBit j)
    have e1 := half_put g hf.is hg true (Nat.testBit j)
    rw [if_neg (by decide)] at e0
    rw [if_pos rfl] at e1
    rw [← e0, ← e1, hf.ev, hf.ev, hfree v hvk, hfree v hvk]
/-- Both stretches. -/
theorem first_two (S : (Nat → Bool) → Bool) (l : List Nat) (n w q : Nat) : (((l ++ onL S (2 ^ w * (2 * q)) (2 ^ w)).take n) ++ onL S (2 ^ w * (2 * q + 1)) (2 ^ w)).take n = (l ++ onL S (2 ^ (w + 1) * q) (2 ^ (w + 1))).take n := by
  have e1 : 2 ^ (w + 1) = 2 ^ w + 2 ^ w := by rw [Nat.pow_succ]; omega
  have e2 : 2 ^ (w + 1) * q = 2 ^ w * (2 * q) := by rw [Nat.pow_succ, Nat.mul_assoc]
  have e3 : 2 ^ w * (2 * q + 1) = 2 ^ w * (2 * q) + 2 ^ w := by rw [Nat.mul_add, Nat.mul_one]
  rw [e2, e1, take_on, e3]
end Go.Proofs.Ytfakjhcpaiaekaa
