/-
  Walks through the functions of layer 34 (drill) that DrillBelow reaches.
-/
import Derived.Test.YtmljmpjpdgijlaaProg
import Derived.WalkKit
import Derived.WalkSpells
import Derived.WalkLawsBesides
namespace Go.Proofs.Ytmljmpjpdgijlaa
open Go.RowKit

/-- The next state. -/
def lcg (x : Int) : Int := IntKind.u64.wrap (IntKind.u64.wrap (x * 6364136223846793005) + 1442695040888963407)
/-- What is told of a state. -/
def told (x : Int) : Int := x / 8589934592

set_option maxHeartbeats 400000 in
theorem drillNew_any (s : Int) (w : World) :
    Calls Try.prog 11 #[.int .u64 s] w fun e w' => e = .returned (.pointer (some ⟨w.heap.size, 0, none⟩)) ∧ w' = w.alloc (.cells #[.int .u64 s] 86) := by
  go_enter Try.func11, Try.ntmps11
  go_wp2
  go_ret
  exact ⟨rfl, rfl⟩

set_option maxHeartbeats 400000 in
theorem drillNext_any (b : Nat) (x : Int) (w : World) (h0 : w.cell? ⟨b, 0, none⟩ = some (.int .u64 x)) (f0 : w.frozen? ⟨b, 0, none⟩ = false) :
    Calls Try.prog 52 #[.pointer (some ⟨b, 0, none⟩)] w fun e w' => e = .returned (.int .u64 (told (lcg x))) ∧ w' = w.setCell ⟨b, 0, none⟩ (.int .u64 (lcg x)) := by
  go_enter Try.func52, Try.ntmps52
  go_wp2
  go_ret
  exact ⟨rfl, rfl⟩

theorem u64_range (x : Int) : 0 ≤ IntKind.u64.wrap x ∧ IntKind.u64.wrap x ≤ 18446744073709551615 := by
  simp [IntKind.wrap, IntKind.bits, IntKind.signed]; omega
theorem lcg_range (x : Int) : 0 ≤ told (lcg x) ∧ told (lcg x) ≤ 2147483647 := by
  have h := u64_range (IntKind.u64.wrap (x * 6364136223846793005) + 1442695040888963407)
  unfold told lcg; omega

set_option maxHeartbeats 400000 in
theorem drillBelow_any (b : Nat) (x n : Int) (hn1 : 1 ≤ n) (hn2 : n ≤ 9223372036854775807) (w : World) (h0 : w.cell? ⟨b, 0, none⟩ = some (.int .u64 x)) (f0 : w.frozen? ⟨b, 0, none⟩ = false) :
    Calls Try.prog 12 #[.pointer (some ⟨b, 0, none⟩), .int .i64 n] w fun e w' => e = .returned (.int .i64 (told (lcg x) % n)) ∧ w' = w.setCell ⟨b, 0, none⟩ (.int .u64 (lcg x)) := by
  have hr := lcg_range x
  obtain ⟨hr1, hr2⟩ := hr
  have h3 := Int.emod_nonneg (told (lcg x)) (b := n) (by omega)
  have h4 := Int.emod_lt_of_pos (told (lcg x)) (b := n) (by omega)
  go_enter Try.func12, Try.ntmps12
  go_wp2_with (go_at_call 52; refine (drillNext_any _ _ _ (by assumption) (by assumption)).mono ?_; rintro e w' ⟨rfl, rfl⟩)
  go_ret
  exact ⟨rfl, rfl⟩

set_option maxHeartbeats 400000 in
theorem drillBelow_none (b : Nat) (n : Int) (hn1 : n < 1) (w : World) :
    Calls Try.prog 12 #[.pointer (some ⟨b, 0, none⟩), .int .i64 n] w fun e w' => e = .returned (.int .i64 0) ∧ w' = w := by
  go_enter Try.func12, Try.ntmps12
  go_wp2
  go_ret
  exact ⟨rfl, rfl⟩

set_option maxHeartbeats 400000 in
theorem lives34_any (w : World) :
    Calls Try.prog 13 #[] w fun e w' => e = .returned (.bool true) ∧ Below w.heap.size w w' := by
  have h0 : (w.alloc (.cells #[.int .u64 0] 86)).cell? ⟨w.heap.size, 0, none⟩ = some (.int .u64 0) := by simp
  have f0 : (w.alloc (.cells #[.int .u64 0] 86)).frozen? ⟨w.heap.size, 0, none⟩ = false := by simp
  have e0 : told (lcg 0) = 167951807 := by decide +kernel
  go_enter Try.func13, Try.ntmps13
  go_wp2_with (first | (go_at_call 11; refine (drillNew_any _ _).mono ?_; rintro e w' ⟨rfl, rfl⟩) | (go_at_call 52; refine (drillNext_any _ _ _ (by assumption) (by assumption)).mono ?_; rintro e w' ⟨rfl, rfl⟩))
  go_ret
  exact ⟨rfl, (Below.refl _ _).alloc (Nat.le_refl _) _⟩

theorem i64_and7 (n : Int) : bits .and .i64 n 7 = n % 8 := by
  have h7 : (BitVec.ofInt 64 7).toNat = 2 ^ 3 - 1 := by decide
  have key : (BitVec.ofInt 64 n &&& BitVec.ofInt 64 7).toNat = (n % ((2 ^ 64 : Nat) : Int)).toNat % 2 ^ 3 := by
    rw [BitVec.toNat_and, BitVec.toNat_ofInt, h7, Nat.and_two_pow_sub_one_eq_mod]
  show IntKind.i64.wrap ((BitVec.ofInt 64 n &&& BitVec.ofInt 64 7).toNat : Nat) = n % 8
  rw [key, IntKind.wrap_i64]
  omega

set_option maxRecDepth 10000 in
set_option maxHeartbeats 1000000 in
theorem drillBelow_law (s n : Int) (hn0 : -9223372036854775808 ≤ n) (hn1 : n ≤ 9223372036854775807) (w : World) :
    Calls Try.prog 3 #[.int .u64 s, .int .i64 n] w fun e w' => e = .returned (.bool true) ∧ Below w.heap.size w w' := by
  obtain ⟨m, h7, h8, h9⟩ : ∃ m, bits .and .i64 n 7 = m ∧ 0 ≤ m ∧ m ≤ 7 := ⟨_, i64_and7 n, by omega, by omega⟩
  go_enter Try.func3, Try.ntmps3
  go_wp2_with (first | (go_at_call 11; refine (drillNew_any _ _).mono ?_; rintro e w' ⟨rfl, rfl⟩))
  go_loopw [15] (fun i wr => ∃ (k : Nat) (x : Int), k ≤ 600 ∧ i = .int .i64 k ∧ wr = w.alloc (.cells #[.int .u64 x] 86)) (fun i _ => 600 - (intOf i).toNat)
  case atStart => exact ⟨0, s, by omega, rfl, rfl⟩
  case round =>
    obtain ⟨k, x, hk, rfl, rfl⟩ := hrel
    have h0 : (w.alloc (.cells #[.int .u64 x] 86)).cell? ⟨w.heap.size, 0, none⟩ = some (.int .u64 x) := by simp
    have f0 : (w.alloc (.cells #[.int .u64 x] 86)).frozen? ⟨w.heap.size, 0, none⟩ = false := by simp
    clear h7
    by_cases hlt : k < 600
    · have h5 := Int.emod_nonneg (told (lcg x)) (b := 2 + m % 5) (by omega)
      have h6 := Int.emod_lt_of_pos (told (lcg x)) (b := 2 + m % 5) (by omega)
      go_wp2_with (first | (go_at_call 12; refine (drillBelow_any _ _ _ (by omega) (by omega) _ (by assumption) (by assumption)).mono ?_; rintro e w' ⟨rfl, rfl⟩))
      go_roundw
      case rel => exact ⟨k + 1, lcg x, by omega, by go_num, rfl⟩
      case measure => simp [intOf]; omega
    · clear h0 f0
      have h0 : ((w.alloc (.cells #[.int .u64 x] 86)).alloc (.cells #[.int .u64 s] 86)).cell? ⟨w.heap.size + 1, 0, none⟩ = some (.int .u64 s) := by simp
      have f0 : ((w.alloc (.cells #[.int .u64 x] 86)).alloc (.cells #[.int .u64 s] 86)).frozen? ⟨w.heap.size + 1, 0, none⟩ = false := by simp
      by_cases hn : n < 1
      · go_wp2_with (first | (go_at_call 11; refine (drillNew_any _ _).mono ?_; rintro e w' ⟨rfl, rfl⟩) | (go_at_call 12; refine (drillBelow_none _ _ hn _).mono ?_; rintro e w' ⟨rfl, rfl⟩) | (go_at_call 13; refine (lives34_any _).mono ?_; rintro e w' ⟨rfl, hb⟩))
        go_ret
        exact ⟨rfl, (((Below.refl _ _).alloc (Nat.le_refl _) _).alloc (by simp) _).trans (hb.mono (by simp; omega))⟩
      · have h5 := Int.emod_nonneg (told (lcg s)) (b := n) (by omega)
        have h6 := Int.emod_lt_of_pos (told (lcg s)) (b := n) (by omega)
        have hn' : 1 ≤ n := by omega
        go_wp2_with (first | (go_at_call 11; refine (drillNew_any _ _).mono ?_; rintro e w' ⟨rfl, rfl⟩) | (go_at_call 12; refine (drillBelow_any _ _ _ hn' hn1 _ h0 f0).mono ?_; rintro e w' ⟨rfl, rfl⟩) | (go_at_call 13; refine (lives34_any _).mono ?_; rintro e w' ⟨rfl, hb⟩))
        go_ret
        exact ⟨rfl, (((Below.refl _ _).alloc (Nat.le_refl _) _).alloc (by simp) _).trans (hb.mono (by simp; omega))⟩

theorem drillBelow_walk (s : Int) (_ : 0 ≤ s) (_ : s ≤ 18446744073709551615) (n : Int) (hn0 : -9223372036854775808 ≤ n) (hn1 : n ≤ 9223372036854775807) (w : World) :
    Calls Try.prog 3 #[.int .u64 s, .int .i64 n] w fun e w' => e = .returned (.bool true) ∧ Below w.heap.size w w' :=
  drillBelow_law s n hn0 hn1 w
end Go.Proofs.Ytmljmpjpdgijlaa
