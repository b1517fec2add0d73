/-
  A slice of pairs of numbers that came in.
-/
import Derived.Test.YtmljmpjpdgijlaaDoorKit
set_option linter.unusedVariables false
set_option linter.unusedSimpArgs false
namespace Go.Proofs.YtmljmpjpdgijlaaDoor
open Go.ChangeShapes Go.WideShapes Go.ChangeAt Go.RowKit Go.Deep

theorem IsRow.pairs {w : World} {ao : Option Addr} {n cap : Nat} {G : Nat → Nat → Value} (R : IsRow w [.int .i64, .int .i64] ao n cap G) :
    ∃ A : Nat → Int × Int, (∀ i, i < n → (-9223372036854775808 ≤ (A i).1 ∧ (A i).1 ≤ 9223372036854775807) ∧ (-9223372036854775808 ≤ (A i).2 ∧ (A i).2 ≤ 9223372036854775807)) ∧ (0 < n → ∃ b off, ao = some ⟨b, off, none⟩ ∧ b < w.heap.size ∧ ∀ i, i < n → w.cell? ⟨b, off + i * 2, none⟩ = some (.int .i64 (A i).1) ∧
      w.cell? ⟨b, off + i * 2 + 1, none⟩ = some (.int .i64 (A i).2)) := by
  have key : ∀ i, i < n → ∃ p : Int × Int, G i 0 = .int .i64 p.1 ∧ G i 1 = .int .i64 p.2 ∧ (-9223372036854775808 ≤ p.1 ∧ p.1 ≤ 9223372036854775807) ∧ (-9223372036854775808 ≤ p.2 ∧ p.2 ≤ 9223372036854775807) := fun i hi => by
    obtain ⟨z0, h0, w0⟩ := R.ok i 0 _ hi rfl
    obtain ⟨z1, h1, w1⟩ := R.ok i 1 _ hi rfl
    exact ⟨(z0, z1), h0, h1, bounds_i64 w0, bounds_i64 w1⟩
  obtain ⟨f, hf⟩ := choose_lt key
  refine ⟨f, fun i hi => (hf i hi).2.2, fun h0 => ?_⟩
  obtain ⟨b, off, h1, h2, h3⟩ := R.at_ h0
  refine ⟨b, off, h1, h2, fun i hi => ?_⟩
  obtain ⟨g0, g1, _⟩ := hf i hi
  rw [← g0, ← g1]
  exact ⟨h3 i 0 hi (by decide), h3 i 1 hi (by decide)⟩
end Go.Proofs.YtmljmpjpdgijlaaDoor
