/-
  A slice of rules that came in.
-/
import Derived.Test.YtckjgefpelnkoaaDoorSemEv
set_option linter.unusedVariables false
set_option linter.unusedSimpArgs false
namespace Go.Proofs.YtckjgefpelnkoaaDoor
open Go.ChangeShapes Go.WideShapes Go.ChangeAt Go.RowKit Go.Deep
def I64 (x : Int) : Prop := -9223372036854775808 ≤ x ∧ x ≤ 9223372036854775807
def Rl.Fits (r : Rl) : Prop := I64 r.kind ∧ I64 r.head ∧ I64 r.who ∧ I64 r.a ∧ I64 r.b ∧ I64 r.via
/-- The rules of a slice that came in. -/
theorem IsRow.rules {w : World} {ao : Option Addr} {n cap : Nat} {G : Nat → Nat → Value} (R : IsRow w [.int .i64, .int .i64, .int .i64, .int .i64, .int .i64, .int .i64] ao n cap G) :
    ∃ rs : List Rl, rs.length = n ∧ RuleRow w ao rs ∧ ∀ r, r ∈ rs → r.Fits := by
  have key : ∀ i, i < n → ∃ r : Rl, (G i 0 = .int .i64 r.kind ∧ G i 1 = .int .i64 r.head ∧ G i 2 = .int .i64 r.who ∧ G i 3 = .int .i64 r.a ∧ G i 4 = .int .i64 r.b ∧ G i 5 = .int .i64 r.via) ∧ r.Fits := fun i hi => by
    obtain ⟨z0, h0, w0⟩ := R.ok i 0 _ hi rfl
    obtain ⟨z1, h1, w1⟩ := R.ok i 1 _ hi rfl
    obtain ⟨z2, h2, w2⟩ := R.ok i 2 _ hi rfl
    obtain ⟨z3, h3, w3⟩ := R.ok i 3 _ hi rfl
    obtain ⟨z4, h4, w4⟩ := R.ok i 4 _ hi rfl
    obtain ⟨z5, h5, w5⟩ := R.ok i 5 _ hi rfl
    exact ⟨⟨z0, z1, z2, z3, z4, z5⟩, ⟨h0, h1, h2, h3, h4, h5⟩, bounds_i64 w0, bounds_i64 w1, bounds_i64 w2, bounds_i64 w3, bounds_i64 w4, bounds_i64 w5⟩
  have : Inhabited Rl := ⟨⟨0, 0, 0, 0, 0, 0⟩⟩
  obtain ⟨f, hf⟩ := choose_lt key
  refine ⟨(List.range n).map f, by simp, fun h0 => ?_, fun r hr => ?_⟩
  · obtain ⟨b, off, h1, h2, h3⟩ := R.at_ (by simpa using h0)
    refine ⟨b, off, h1, h2, fun i r hr => ?_⟩
    have hi : i < n := by
      rcases Nat.lt_or_ge i n with h | h
      · exact h
      · rw [List.getElem?_eq_none (by simpa using h)] at hr; cases hr
    obtain ⟨⟨g0, g1, g2, g3, g4, g5⟩, _⟩ := hf i hi
    simp [hi] at hr
    subst hr
    rw [← g0, ← g1, ← g2, ← g3, ← g4, ← g5]
    exact ⟨h3 i 0 hi (by decide), h3 i 1 hi (by decide), h3 i 2 hi (by decide), h3 i 3 hi (by decide), h3 i 4 hi (by decide), h3 i 5 hi (by decide)⟩
  · obtain ⟨i, hi, rfl⟩ := List.mem_map.1 hr
    exact (hf i (List.mem_range.1 hi)).2
theorem dims_of_fits {c : Array Value} (hs : c.size = 2) (hf : Fits [.int .i64, .int .i64] 0 c.toList) : ∃ x y : Int, c = #[.int .i64 x, .int .i64 y] := by
  obtain ⟨l⟩ := c
  match l, hs with
  | [a, b], _ =>
    obtain ⟨u, hu, x, rfl, hx⟩ := hf 0 _ rfl
    obtain ⟨v, hv, y, rfl, hy⟩ := hf 1 _ rfl
    simp at hu hv
    subst hu
    subst hv
    exact ⟨x, y, rfl⟩
end Go.Proofs.YtckjgefpelnkoaaDoor
