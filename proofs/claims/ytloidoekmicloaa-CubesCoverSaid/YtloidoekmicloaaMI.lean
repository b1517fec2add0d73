/-
  A row of ops, as plain ones.
-/
import Derived.Test.YtloidoekmicloaaItePlayWalk
set_option linter.unusedVariables false
set_option linter.unusedSimpArgs false
namespace Go.Proofs.Ytloidoekmicloaa
open Go.ChangeShapes Go.WideShapes Go.ChangeAt Go.RowKit Go.Deep NodePlain
theorem IsRow.ops {w : World} {ao : Option Addr} {n cap : Nat} {G : Nat → Nat → Value} (R : IsRow w [.int .u64, .int .u64, .int .u64, .int .u64] ao n cap G) : ∃ os : List OpR, os.length = n ∧ OpRow w ao os := by
  have key : ∀ i, i < n → ∃ p : OpR, (G i 0 = .int .u64 p.kind ∧ G i 1 = .int .u64 p.a ∧ G i 2 = .int .u64 p.b ∧ G i 3 = .int .u64 p.c) ∧ p.kind < 18446744073709551616 ∧ p.a < 18446744073709551616 ∧ p.b < 18446744073709551616 ∧ p.c < 18446744073709551616 := fun i hi => by
    obtain ⟨z0, h0, w0⟩ := R.ok i 0 _ hi rfl
    obtain ⟨z1, h1, w1⟩ := R.ok i 1 _ hi rfl
    obtain ⟨z2, h2, w2⟩ := R.ok i 2 _ hi rfl
    obtain ⟨z3, h3, w3⟩ := R.ok i 3 _ hi rfl
    have b0 := bounds_u64 w0
    have b1 := bounds_u64 w1
    have b2 := bounds_u64 w2
    have b3 := bounds_u64 w3
    refine ⟨⟨z0.toNat, z1.toNat, z2.toNat, z3.toNat⟩, ⟨?_, ?_, ?_, ?_⟩, ?_, ?_, ?_, ?_⟩
    · rw [h0]; show Value.int .u64 z0 = .int .u64 (z0.toNat : Int); rw [Int.toNat_of_nonneg b0.1]
    · rw [h1]; show Value.int .u64 z1 = .int .u64 (z1.toNat : Int); rw [Int.toNat_of_nonneg b1.1]
    · rw [h2]; show Value.int .u64 z2 = .int .u64 (z2.toNat : Int); rw [Int.toNat_of_nonneg b2.1]
    · rw [h3]; show Value.int .u64 z3 = .int .u64 (z3.toNat : Int); rw [Int.toNat_of_nonneg b3.1]
    · show z0.toNat < _; omega
    · show z1.toNat < _; omega
    · show z2.toNat < _; omega
    · show z3.toNat < _; omega
  haveI : Inhabited OpR := ⟨⟨0, 0, 0, 0⟩⟩
  obtain ⟨f, hf⟩ := choose_lt key
  refine ⟨(List.range n).map f, by simp, fun h0 => ?_⟩
  have hn : 0 < n := by simpa using h0
  obtain ⟨b, off, h1, h2, h3⟩ := R.at_ hn
  refine ⟨b, off, h1, h2, fun i r hr => ?_⟩
  rw [List.getElem?_map] at hr
  have hi : i < n := by
    rcases Nat.lt_or_ge i n with h | h
    · exact h
    · rw [List.getElem?_eq_none (by simpa using h)] at hr; cases hr
  rw [List.getElem?_range hi] at hr
  simp only [Option.map_some, Option.some.injEq] at hr
  subst hr
  obtain ⟨⟨g0, g1, g2, g3⟩, q⟩ := hf i hi
  refine ⟨q, ?_⟩
  rw [← g0, ← g1, ← g2, ← g3]
  exact ⟨h3 i 0 hi (by decide), h3 i 1 hi (by decide), h3 i 2 hi (by decide), h3 i 3 hi (by decide)⟩
end Go.Proofs.Ytloidoekmicloaa
