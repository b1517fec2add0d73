/-
  The first so many numbers of a row.
-/
import Derived.Test.YtloidoekmicloaaOrdRight
set_option linter.unusedVariables false
set_option linter.unusedSimpArgs false
namespace Go.Proofs.Ytloidoekmicloaa
open Go.ChangeShapes Go.WideShapes Go.ChangeAt Go.RowKit Go.Deep NodePlain
/-- The first so many numbers of a row. -/
theorem IsRow.intsTo {w : World} {ao : Option Addr} {n cap : Nat} {G : Nat → Nat → Value} (R : IsRow w [.int .i64] ao n cap G) {m : Nat} (hm : m ≤ n) : ∃ l : List Int, l.length = m ∧ ReadsI w (.slice ao m cap) l := by
  have key : ∀ i, i < n → ∃ x : Int, G i 0 = .int .i64 x := fun i hi => by
    obtain ⟨z, h, _⟩ := R.ok i 0 _ hi rfl
    exact ⟨z, h⟩
  obtain ⟨f, hf⟩ := choose_lt key
  refine ⟨(List.range m).map f, by simp, ao, cap, by simp, by have := R.le; simp; omega, fun h0 => ?_⟩
  have h0' : 0 < m := by simpa using h0
  obtain ⟨b, off, h1, h2, h3⟩ := R.at_ (show 0 < n by omega)
  refine ⟨b, off, h1, h2, fun j x hj => ?_⟩
  rw [List.getElem?_map] at hj
  rcases Nat.lt_or_ge j m with hl | hl
  · rw [List.getElem?_range hl] at hj
    simp only [Option.map_some, Option.some.injEq] at hj
    subst hj
    rw [← hf j (by omega)]
    have q := h3 j 0 (by omega) (by decide)
    simpa using q
  · rw [List.getElem?_eq_none (by simpa using hl)] at hj; cases hj
end Go.Proofs.Ytloidoekmicloaa
