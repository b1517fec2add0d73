/-
  Walks through the functions of layer 34 (drill) that DrillBelow reaches.
-/
import Derived.Test.YtcdfpnlaklaafaaGreatProg
import Derived.WalkKit
import Derived.WalkSpells
import Derived.WalkLawsBesides
set_option linter.unusedVariables false
set_option linter.unusedSimpArgs false
set_option linter.unnecessarySimpa false
namespace Go.Proofs.YtcdfpnlaklaafaaGreat
open Go.RowKit

/-- The next state. -/
def lcg (x : Int) : Int := IntKind.u64.wrap (IntKind.u64.wrap (x * 6364136223846793005) + 1442695040888963407)
/-- What is told of a state. -/
def told (x : Int) : Int := x / 8589934592

set_option maxHeartbeats 400000 in
theorem drillNew_any (s : Int) (w : World) :
    Calls Tryz.prog 5 #[.int .u64 s] w fun e w' => e = .returned (.pointer (some ⟨w.heap.size, 0, none⟩)) ∧ w' = w.alloc (.cells #[.int .u64 s] 67) := by
  go_enter Tryz.func5, Tryz.ntmps5
  go_wp2
  go_ret
  exact ⟨rfl, rfl⟩

set_option maxHeartbeats 400000 in
theorem drillNext_any (b : Nat) (x : Int) (w : World) (h0 : w.cell? ⟨b, 0, none⟩ = some (.int .u64 x)) (f0 : w.frozen? ⟨b, 0, none⟩ = false) :
    Calls Tryz.prog 8 #[.pointer (some ⟨b, 0, none⟩)] w fun e w' => e = .returned (.int .u64 (told (lcg x))) ∧ w' = w.setCell ⟨b, 0, none⟩ (.int .u64 (lcg x)) := by
  go_enter Tryz.func8, Tryz.ntmps8
  go_wp2
  go_ret
  exact ⟨rfl, rfl⟩

theorem u64_range (x : Int) : 0 ≤ IntKind.u64.wrap x ∧ IntKind.u64.wrap x ≤ 18446744073709551615 := by
  simp [IntKind.wrap, IntKind.bits, IntKind.signed]; omega
theorem lcg_range (x : Int) : 0 ≤ told (lcg x) ∧ told (lcg x) ≤ 2147483647 := by
  have h := u64_range (IntKind.u64.wrap (x * 6364136223846793005) + 1442695040888963407)
  unfold told lcg; omega

set_option maxHeartbeats 400000 in
theorem drillBelow_any (b : Nat) (x n : Int) (hn1 : 1 ≤ n) (hn2 : n ≤ 9223372036854775807) (w : World) (h0 : w.cell? ⟨b, 0, none⟩ = some (.int .u64 x)) (f0 : w.frozen? ⟨b, 0, none⟩ = false) :
    Calls Tryz.prog 10 #[.pointer (some ⟨b, 0, none⟩), .int .i64 n] w fun e w' => e = .returned (.int .i64 (told (lcg x) % n)) ∧ w' = w.setCell ⟨b, 0, none⟩ (.int .u64 (lcg x)) := by
  have hr := lcg_range x
  obtain ⟨hr1, hr2⟩ := hr
  have h3 := Int.emod_nonneg (told (lcg x)) (b := n) (by omega)
  have h4 := Int.emod_lt_of_pos (told (lcg x)) (b := n) (by omega)
  go_enter Tryz.func10, Tryz.ntmps10
  go_wp2_with (go_at_call 8; refine (drillNext_any _ _ _ (by assumption) (by assumption)).mono ?_; rintro e w' ⟨rfl, rfl⟩)
  go_ret
  exact ⟨rfl, rfl⟩

set_option maxHeartbeats 400000 in
theorem drillBelow_none (b : Nat) (n : Int) (hn1 : n < 1) (w : World) :
    Calls Tryz.prog 10 #[.pointer (some ⟨b, 0, none⟩), .int .i64 n] w fun e w' => e = .returned (.int .i64 0) ∧ w' = w := by
  go_enter Tryz.func10, Tryz.ntmps10
  go_wp2
  go_ret
  exact ⟨rfl, rfl⟩

set_option maxHeartbeats 400000 in
theorem lives34_any (w : World) :
    Calls Tryz.prog 21 #[] w fun e w' => e = .returned (.bool true) ∧ Below w.heap.size w w' := by
  have h0 : (w.alloc (.cells #[.int .u64 0] 67)).cell? ⟨w.heap.size, 0, none⟩ = some (.int .u64 0) := by simp
  have f0 : (w.alloc (.cells #[.int .u64 0] 67)).frozen? ⟨w.heap.size, 0, none⟩ = false := by simp
  have e0 : told (lcg 0) = 167951807 := by decide +kernel
  go_enter Tryz.func21, Tryz.ntmps21
  go_wp2_with (first | (go_at_call 5; refine (drillNew_any _ _).mono ?_; rintro e w' ⟨rfl, rfl⟩) | (go_at_call 8; refine (drillNext_any _ _ _ (by assumption) (by assumption)).mono ?_; rintro e w' ⟨rfl, rfl⟩))
  go_ret
  exact ⟨rfl, (Below.refl _ _).alloc (Nat.le_refl _) _⟩

theorem i64_and7 (n : Int) : bits .and .i64 n 7 = n % 8 := by
  have h7 : (BitVec.ofInt 64 7).toNat = 2 ^ 3 - 1 := by decide
  have key : (BitVec.ofInt 64 n &&& BitVec.ofInt 64 7).toNat = (n % ((2 ^ 64 : Nat) : Int)).toNat % 2 ^ 3 := by
    rw [BitVec.toNat_and, BitVec.toNat_ofInt, h7, Nat.and_two_pow_sub_one_eq_mod]
  show IntKind.i64.wrap ((BitVec.ofInt 64 n &&& BitVec.ofInt 64 7).toNat : Nat) = n % 8
  rw [key, IntKind.wrap_i64]
  omega

end Go.Proofs.YtcdfpnlaklaafaaGreat
