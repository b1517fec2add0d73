/-
  One way through a diagram to where it is true: what is told of each variable. No program in sight.
-/
import Derived.Test.YtfakjhcpaiaekaaBestPlain
import Derived.Test.YtfakjhcpaiaekaaMK
set_option linter.unusedVariables false
set_option linter.unusedSimpArgs false
set_option linter.unnecessarySimpa false
namespace Go.Proofs.Ytfakjhcpaiaekaa
open NodePlain SatPlain
/-- A number, one bit settled. -/
def putN (b v : Nat) (so : Bool) : Nat := if so then b ||| 2 ^ v else (b ||| 2 ^ v) ^^^ 2 ^ v
theorem putN_bit (b v : Nat) (so : Bool) : Nat.testBit (putN b v so) = setB (Nat.testBit b) v so := by
  funext x
  unfold putN setB
  cases so
  · rw [if_neg (by decide), Nat.testBit_xor, Nat.testBit_or, Nat.testBit_two_pow]
    by_cases h : x = v
    · rw [if_pos h, decide_eq_true h.symm]; simp
    · rw [if_neg h, decide_eq_false (fun e => h e.symm)]; simp
  · rw [if_pos rfl, Nat.testBit_or, Nat.testBit_two_pow]
    by_cases h : x = v
    · rw [if_pos h, decide_eq_true h.symm]; simp
    · rw [if_neg h, decide_eq_false (fun e => h e.symm)]; simp
theorem putN_lt {b v k : Nat} (hb : b < 2 ^ k) (hv : v < k) (so : Bool) : putN b v so < 2 ^ k := by
  have h2 : 2 ^ v < 2 ^ k := Nat.pow_lt_pow_right (by decide) hv
  unfold putN
  cases so
  · rw [if_neg (by decide)]
    exact Nat.xor_lt_two_pow (Nat.or_lt_two_pow hb h2) h2
  · rw [if_pos rfl]
    exact Nat.or_lt_two_pow hb h2
section
variable {k : Nat} {L : Nat → Nd} {n : Nat}
theorem some_bit (g : NodePlain.Good (k : Int) L n) {x y : Int} (hx : isN n x = true) (hy : isN n y = true) (h : x ≠ y) : ∃ j, j < 2 ^ k ∧ ev L (Nat.testBit j) x ≠ ev L (Nat.testBit j) y := by
  refine Classical.byContradiction fun hn => h (once_bits g k rfl hx hy (fun j hj => ?_))
  exact Classical.byContradiction fun e => hn ⟨j, hj, e⟩
/-- One step of the way. -/
def wayS (L : Nat → Nd) (n v : Nat) (x : Int) : Int := match getN L n x with
  | none => x
  | some (u, lo, hi) => if u = (v : Int) then (if lo = 0 then hi else lo) else x
/-- Where the way stands behind the variables below one. -/
def wayAt (L : Nat → Nd) (n : Nat) (f : Int) : Nat → Int
  | 0 => f
  | v + 1 => wayS L n v (wayAt L n f v)
/-- What is told of a variable. -/
def wayV (L : Nat → Nd) (n v : Nat) (x : Int) : Int := match getN L n x with
  | none => -1
  | some (u, lo, hi) => if u = (v : Int) then (if lo = 0 then 1 else 0) else -1
/-- Where a way may stand. -/
structure WayOk (k : Nat) (L : Nat → Nd) (n v : Nat) (x : Int) : Prop where
  is : isN n x = true
  ne : x ≠ 0
  le : (v : Int) ≤ varN (k : Int) L n x
theorem WayOk.step (g : NodePlain.Good (k : Int) L n) {v : Nat} {x : Int} (h : WayOk k L n v x) (hv : v < k) : WayOk k L n (v + 1) (wayS L n v x) := by
  obtain ⟨i1, i2, i3⟩ := h
  unfold wayS
  rcases h : getN L n x with _ | ⟨u, lo, hi⟩
  · refine ⟨i1, i2, ?_⟩
    have hl := none_low i1 h
    show ((v + 1 : Nat) : Int) ≤ varN (k : Int) L n x
    unfold varN
    rw [if_neg (by omega)]
    omega
  · obtain ⟨a1, a2, a3, a4, a5, a6, a7, a8, _⟩ := node_parts g i1 h
    show WayOk k L n (v + 1) (if u = (v : Int) then (if lo = 0 then hi else lo) else x)
    by_cases hu : u = (v : Int)
    · rw [if_pos hu]
      by_cases hl : lo = 0
      · rw [if_pos hl]
        exact ⟨a5, fun e => a8 (by rw [hl, e]), by omega⟩
      · rw [if_neg hl]
        exact ⟨a4, hl, by omega⟩
    · rw [if_neg hu]
      exact ⟨i1, i2, by omega⟩
theorem way_ok (g : NodePlain.Good (k : Int) L n) {f : Int} (hf : isN n f = true) (h0 : f ≠ 0) : ∀ v : Nat, v ≤ k → WayOk k L n v (wayAt L n f v)
  | 0, _ => ⟨hf, h0, by have := var_pos (V := (k : Int)) (by omega) g f; show (0 : Int) ≤ varN (k : Int) L n f; exact this⟩
  | v + 1, hv => (way_ok g hf h0 v (by omega)).step g (by omega)
theorem setB_put (β : Nat → Bool) (v : Nat) (so : Bool) : setB β v so = putB β (v : Int) so := by
  funext x
  unfold setB putB
  by_cases h : x = v
  · rw [if_pos h, if_pos (by omega)]
  · rw [if_neg h, if_neg (by omega)]
/-- What the law asks of each variable, told of a function in which those ahead are settled. -/
structure Choice (k : Nat) (S : (Nat → Bool) → Bool) (v : Nat) (so : Int) : Prop where
  /-- both halves alike: either -/
  same : (∀ b, b < 2 ^ k → S (Nat.testBit (putN b v false)) = S (Nat.testBit (putN b v true))) ↔ so = -1
  /-- else the lower half where it is anywhere true -/
  low : so ≠ -1 → ((∃ b, b < 2 ^ k ∧ S (Nat.testBit (putN b v false)) = true) ↔ so = 0)
  one : so = -1 ∨ so = 0 ∨ so = 1
  some : ∃ b, b < 2 ^ k ∧ S (Nat.testBit b) = true
/-- A function of which one variable is settled, or none. -/
def settle (S : (Nat → Bool) → Bool) (v : Nat) (so : Int) : (Nat → Bool) → Bool := fun β => if so = -1 then S β else S (setB β v (decide (so = 1)))
theorem way_some (g : NodePlain.Good (k : Int) L n) {x : Int} (hx : isN n x = true) (h0 : x ≠ 0) : ∃ b, b < 2 ^ k ∧ ev L (Nat.testBit b) x = true := by
  have hz : isN n 0 = true := isN_iff.2 ⟨by omega, by omega⟩
  obtain ⟨j, hj, e⟩ := some_bit g hx hz h0
  refine ⟨j, hj, ?_⟩
  rw [ev_low L _ 0 (by omega)] at e
  simpa using e
theorem WayOk.free (g : NodePlain.Good (k : Int) L n) {v : Nat} {x : Int} (hx : isN n x = true) (h : (v : Int) < varN (k : Int) L n x) (β : Nat → Bool) (so : Bool) : ev L (setB β v so) x = ev L β x := by
  rw [setB_put]; exact ev_above g hx h β
theorem way_choice (g : NodePlain.Good (k : Int) L n) {v : Nat} {x : Int} (h : WayOk k L n v x) (hv : v < k) : Choice k (fun β => ev L β x) v (wayV L n v x) ∧ ∀ β, settle (fun β => ev L β x) v (wayV L n v x) β = ev L β (wayS L n v x) := by
  obtain ⟨i1, i2, i3⟩ := h
  have hs := way_some g i1 i2
  have above : (v : Int) < varN (k : Int) L n x → Choice k (fun β => ev L β x) v (-1) ∧ ∀ β, settle (fun β => ev L β x) v (-1) β = ev L β x := fun hv2 =>
    ⟨⟨⟨fun _ => rfl, fun _ b _ => by show ev L _ x = ev L _ x; rw [putN_bit, putN_bit, WayOk.free g i1 hv2, WayOk.free g i1 hv2]⟩, fun e => absurd rfl e, .inl rfl, hs⟩, fun β => by unfold settle; rw [if_pos rfl]⟩
  unfold wayV wayS
  rcases hg : getN L n x with _ | ⟨u, lo, hi⟩
  · refine above ?_
    have hl := none_low i1 hg
    unfold varN
    rw [if_neg (by omega)]
    omega
  · obtain ⟨a1, a2, a3, a4, a5, a6, a7, a8, a9⟩ := node_parts g i1 hg
    show Choice k (fun β => ev L β x) v (if u = (v : Int) then (if lo = 0 then 1 else 0) else -1) ∧ ∀ β, settle (fun β => ev L β x) v (if u = (v : Int) then (if lo = 0 then 1 else 0) else -1) β = ev L β (if u = (v : Int) then (if lo = 0 then hi else lo) else x)
    by_cases hu : u = (v : Int)
    · rw [if_pos hu, if_pos hu]
      have hf : ∀ β, ev L (setB β v false) x = ev L β lo := fun β => by
        have := half_put g i1 hg false β
        rw [if_neg (by decide), hu] at this
        rw [setB_put]; exact this
      have ht : ∀ β, ev L (setB β v true) x = ev L β hi := fun β => by
        have := half_put g i1 hg true β
        rw [if_pos rfl, hu] at this
        rw [setB_put]; exact this
      have hne : ¬ ∀ b, b < 2 ^ k → ev L (Nat.testBit (putN b v false)) x = ev L (Nat.testBit (putN b v true)) x := fun hh => by
        obtain ⟨j, hj, e⟩ := some_bit g a4 a5 a8
        have := hh j hj
        rw [putN_bit, putN_bit, hf, ht] at this
        exact e this
      by_cases hl : lo = 0
      · rw [if_pos hl, if_pos hl]
        refine ⟨⟨⟨fun hh => absurd hh hne, fun e => absurd e (by decide)⟩, fun _ => ⟨fun ⟨b, hb, e⟩ => ?_, fun e => absurd e (by decide)⟩, .inr (.inr rfl), hs⟩, fun β => ?_⟩
        · have e2 : ev L (Nat.testBit (putN b v false)) x = true := e
          rw [putN_bit, hf, hl, ev_low L _ 0 (by omega)] at e2
          exact absurd e2 (by decide)
        · unfold settle
          rw [if_neg (by decide)]
          exact ht β
      · rw [if_neg hl, if_neg hl]
        refine ⟨⟨⟨fun hh => absurd hh hne, fun e => absurd e (by decide)⟩, fun _ => ⟨fun _ => rfl, fun _ => ?_⟩, .inr (.inl rfl), hs⟩, fun β => ?_⟩
        · obtain ⟨b, hb, e⟩ := way_some g a4 hl
          exact ⟨b, hb, by show ev L _ x = true; rw [putN_bit, hf]; exact e⟩
        · unfold settle
          rw [if_neg (by decide)]
          exact hf β
    · rw [if_neg hu, if_neg hu]
      exact above (by omega)
/-- A variable ahead of the node's own: nothing happens. -/
theorem way_stay (g : NodePlain.Good (k : Int) L n) {v : Nat} {x : Int} (hx : isN n x = true) (h : (v : Int) < varN (k : Int) L n x) : wayS L n v x = x ∧ wayV L n v x = -1 := by
  unfold wayS wayV
  rcases hg : getN L n x with _ | ⟨u, lo, hi⟩
  · exact ⟨rfl, rfl⟩
  · have a3 := (node_parts g hx hg).2.2.1
    have hu : ¬ u = (v : Int) := by omega
    show (if u = (v : Int) then (if lo = 0 then hi else lo) else x) = x ∧ (if u = (v : Int) then (if lo = 0 then (1 : Int) else 0) else -1) = -1
    rw [if_neg hu, if_neg hu]
    exact ⟨rfl, rfl⟩
theorem way_reach (g : NodePlain.Good (k : Int) L n) {f x : Int} (hx : isN n x = true) {v : Nat} (hv : wayAt L n f v = x) : ∀ m : Nat, v ≤ m → (m : Int) ≤ varN (k : Int) L n x → wayAt L n f m = x
  | 0, h, _ => by obtain rfl : v = 0 := by omega
                  exact hv
  | m + 1, h, hm => by
    by_cases e : v = m + 1
    · rw [← e]; exact hv
    · show wayS L n m (wayAt L n f m) = x
      rw [way_reach g hx hv m (by omega) (by omega)]
      exact (way_stay g hx (by omega)).1
/-- Where the program stands on the way. -/
structure PathI (k : Nat) (L : Nat → Nd) (n : Nat) (f : Int) (v : Nat) (x : Int) (out : Nat → Int) : Prop where
  at_ : wayAt L n f v = x
  ok : WayOk k L n v x
  lo : ∀ y, y < v → out y = wayV L n y (wayAt L n f y)
  hi : ∀ y, v ≤ y → out y = -1
  le : v ≤ k
theorem PathI.start (g : NodePlain.Good (k : Int) L n) {f : Int} (hf : isN n f = true) (h0 : f ≠ 0) : PathI k L n f 0 f (fun _ => -1) :=
  ⟨rfl, way_ok g hf h0 0 (Nat.zero_le _), fun y hy => absurd hy (Nat.not_lt_zero _), fun _ _ => rfl, Nat.zero_le _⟩
theorem PathI.step (g : NodePlain.Good (k : Int) L n) {f x : Int} {v : Nat} {out : Nat → Int} (h : PathI k L n f v x out) {u : Nat} {lo hi : Int} (hg : getN L n x = some ((u : Int), lo, hi)) :
    u < k ∧ v ≤ u ∧ PathI k L n f (u + 1) (if lo = 0 then hi else lo) (fun y => if y = u then (if lo = 0 then 1 else 0) else out y) := by
  obtain ⟨h1, h2, h3, h4, h5⟩ := h
  obtain ⟨a1, a2, a3, a4, a5, a6, a7, a8, _⟩ := node_parts g h2.is hg
  have hle := h2.le
  have huk : u < k := by
    have := var_le (V := (k : Int)) g lo
    omega
  have hat : wayAt L n f u = x := way_reach g h2.is h1 u (by omega) (by omega)
  have hs : wayS L n u x = if lo = 0 then hi else lo := by
    unfold wayS; rw [hg]
    show (if (u : Int) = (u : Int) then _ else _) = _
    rw [if_pos rfl]
  have hv : wayV L n u x = if lo = 0 then 1 else 0 := by
    unfold wayV; rw [hg]
    show (if (u : Int) = (u : Int) then _ else _) = _
    rw [if_pos rfl]
  refine ⟨huk, by omega, ⟨?_, ?_, fun y hy => ?_, fun y hy => ?_, by omega⟩⟩
  · show wayS L n u (wayAt L n f u) = _
    rw [hat, hs]
  · rw [← hs]
    exact WayOk.step g ⟨h2.is, h2.ne, by omega⟩ huk
  · show (if y = u then _ else out y) = _
    by_cases e : y = u
    · rw [if_pos e, e, hat, hv]
    · rw [if_neg e]
      by_cases e2 : y < v
      · exact h3 y e2
      · rw [h4 y (by omega), way_reach g h2.is h1 y (by omega) (by omega), (way_stay g h2.is (by omega)).2]
  · show (if y = u then _ else out y) = _
    rw [if_neg (by omega)]
    exact h4 y (by omega)
theorem PathI.done (g : NodePlain.Good (k : Int) L n) {f x : Int} {v : Nat} {out : Nat → Int} (h : PathI k L n f v x out) (hg : getN L n x = none) : x = 1 ∧ ∀ y, y < k → out y = wayV L n y (wayAt L n f y) := by
  obtain ⟨h1, h2, h3, h4, h5⟩ := h
  have hl := none_low h2.is hg
  have hx := isN_iff.1 h2.is
  have hne := h2.ne
  refine ⟨by omega, fun y hy => ?_⟩
  by_cases e : y < v
  · exact h3 y e
  · have hvx : varN (k : Int) L n x = (k : Int) := by unfold varN; rw [if_neg (by omega)]
    rw [h4 y (by omega), way_reach g h2.is h1 y (by omega) (by omega), (way_stay g h2.is (by omega)).2]
end
end Go.Proofs.Ytfakjhcpaiaekaa
