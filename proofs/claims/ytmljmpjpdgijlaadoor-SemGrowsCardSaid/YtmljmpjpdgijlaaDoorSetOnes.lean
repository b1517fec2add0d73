/-
  How many bits a word has: the library's way walked.
-/
import Derived.Test.YtmljmpjpdgijlaaDoorKit
import Derived.Test.YtmljmpjpdgijlaaDoorProg
import Derived.Test.YtmljmpjpdgijlaaDoorSetPlain
import Derived.WalkLawsBesides
import Derived.Laws.BitsAllLaws
import Derived.Lib.Hide
set_option linter.unusedVariables false
set_option linter.unusedSimpArgs false
set_option linter.unnecessarySimpa false
namespace Go.Proofs.YtmljmpjpdgijlaaDoor
open Go.RowKit Go.Deep SetPlain

theorem and_low (a : Nat) (ha : a < 9223372036854775808) : bits .and .i64 (a : Int) 127 = ((a &&& 127 : Nat) : Int) := by
  have e : ∀ n : Nat, n < 9223372036854775808 → (BitVec.ofInt 64 (n : Int)).toNat = n := fun n hn => by
    rw [BitVec.ofInt_natCast, BitVec.toNat_ofNat]
    exact Nat.mod_eq_of_lt (by omega)
  have hle : a &&& 127 ≤ 127 := Nat.and_le_right
  show IntKind.i64.wrap ((BitVec.ofInt 64 (a : Int) &&& BitVec.ofInt 64 ((127 : Nat) : Int)).toNat : Int) = _
  rw [BitVec.toNat_and, e a ha, e 127 (by decide), IntKind.wrap_i64]
  omega

set_option maxRecDepth 100000 in
set_option maxHeartbeats 800000 in
theorem ones_any (x : Nat) (hx : x < 18446744073709551616) (w : World) :
    Calls Tryd.prog 36 #[.int .u64 x] w fun e w' => e = .returned (.int .i64 (cnt (fun j => x.testBit j) 64 : Nat)) ∧ w = w' := by
  have hres := swar_cnt x hx
  unfold swar at hres
  simp only [] at hres
  have Hres := Lib.hid hres
  clear hres
  have k2 := fun (a b : Nat) (ha : a < 18446744073709551616) (hb : b < 18446744073709551616) => u64_and_nat a b ha hb
  have l1 : x / 2 &&& 6148914691236517205 ≤ 6148914691236517205 := Nat.and_le_right
  have l2 : x &&& 6148914691236517205 ≤ 6148914691236517205 := Nat.and_le_right
  have r1 : Hid (bits .and .u64 ((x : Int) / 2) 6148914691236517205 = ((x / 2 &&& 6148914691236517205 : Nat) : Int)) := k2 (x / 2) 6148914691236517205 (by omega) (by decide)
  have r2 : Hid (bits .and .u64 (x : Int) 6148914691236517205 = ((x &&& 6148914691236517205 : Nat) : Int)) := k2 x 6148914691236517205 hx (by decide)
  generalize x / 2 &&& 6148914691236517205 = a1 at Hres l1 r1
  generalize x &&& 6148914691236517205 = b1 at Hres l2 r2
  have r3 : Hid (IntKind.u64.wrap ((a1 : Int) + (b1 : Int)) = ((a1 + b1 : Nat) : Int)) := (IntWalk.u64_in _ (by omega)).trans (by omega)
  have l3 : a1 + b1 ≤ 12297829382473034410 := by omega
  generalize a1 + b1 = x1 at Hres r3 l3
  have l4 : x1 / 4 &&& 3689348814741910323 ≤ 3689348814741910323 := Nat.and_le_right
  have l5 : x1 &&& 3689348814741910323 ≤ 3689348814741910323 := Nat.and_le_right
  have r4 : Hid (bits .and .u64 ((x1 : Int) / 4) 3689348814741910323 = ((x1 / 4 &&& 3689348814741910323 : Nat) : Int)) := k2 (x1 / 4) 3689348814741910323 (by omega) (by decide)
  have r5 : Hid (bits .and .u64 (x1 : Int) 3689348814741910323 = ((x1 &&& 3689348814741910323 : Nat) : Int)) := k2 x1 3689348814741910323 (by omega) (by decide)
  generalize x1 / 4 &&& 3689348814741910323 = a2 at Hres l4 r4
  generalize x1 &&& 3689348814741910323 = b2 at Hres l5 r5
  have r6 : Hid (IntKind.u64.wrap ((a2 : Int) + (b2 : Int)) = ((a2 + b2 : Nat) : Int)) := (IntWalk.u64_in _ (by omega)).trans (by omega)
  have l6 : a2 + b2 ≤ 7378697629483820646 := by omega
  generalize a2 + b2 = x2 at Hres r6 l6
  have r7 : Hid (IntKind.u64.wrap ((x2 : Int) / 16 + (x2 : Int)) = ((x2 / 16 + x2 : Nat) : Int)) := (IntWalk.u64_in _ (by omega)).trans (by omega)
  have l7 : x2 / 16 + x2 < 18446744073709551616 := by omega
  generalize x2 / 16 + x2 = y3 at Hres r7 l7
  have l8 : y3 &&& 1085102592571150095 ≤ 1085102592571150095 := Nat.and_le_right
  have r8 : Hid (bits .and .u64 (y3 : Int) 1085102592571150095 = ((y3 &&& 1085102592571150095 : Nat) : Int)) := k2 y3 1085102592571150095 l7 (by decide)
  generalize y3 &&& 1085102592571150095 = x3 at Hres r8 l8
  have r9 : Hid (IntKind.u64.wrap ((x3 : Int) + (x3 : Int) / 256) = ((x3 + x3 / 256 : Nat) : Int)) := (IntWalk.u64_in _ (by omega)).trans (by omega)
  have l9 : x3 + x3 / 256 ≤ 1090000000000000000 := by omega
  generalize x3 + x3 / 256 = x4 at Hres r9 l9
  have r10 : Hid (IntKind.u64.wrap ((x4 : Int) + (x4 : Int) / 65536) = ((x4 + x4 / 65536 : Nat) : Int)) := (IntWalk.u64_in _ (by omega)).trans (by omega)
  have l10 : x4 + x4 / 65536 ≤ 1091000000000000000 := by omega
  generalize x4 + x4 / 65536 = x5 at Hres r10 l10
  have r11 : Hid (IntKind.u64.wrap ((x5 : Int) + (x5 : Int) / 4294967296) = ((x5 + x5 / 4294967296 : Nat) : Int)) := (IntWalk.u64_in _ (by omega)).trans (by omega)
  have l11 : x5 + x5 / 4294967296 ≤ 1092000000000000000 := by omega
  generalize x5 + x5 / 4294967296 = x6 at Hres r11 l11
  have r12 : Hid (IntKind.i64.wrap (x6 : Int) = (x6 : Int)) := IntWalk.i64_in _ (by omega)
  have r12' : Hid (wrap64 (x6 : Int) = (x6 : Int)) := IntWalk.wrap64_in _ (by omega)
  have r13 : Hid (bits .and .i64 (x6 : Int) 127 = ((x6 &&& 127 : Nat) : Int)) := and_low x6 (by omega)
  generalize x6 &&& 127 = x7 at r13 Hres
  rw [← Hres.out]
  have q1 := r1.out; have q2 := r2.out; have q3 := r3.out; have q4 := r4.out; have q5 := r5.out; have q6 := r6.out; have q7 := r7.out; have q8 := r8.out; have q9 := r9.out; have q10 := r10.out; have q11 := r11.out; have q12 := r12.out; have q12' := r12'.out; have q13 := r13.out
  clear r1 r2 r3 r4 r5 r6 r7 r8 r9 r10 r11 r12 r12' r13
  clear Hres k2 l1 l2 l3 l4 l5 l6 l7 l8 l9 l10 l11 hx
  go_enter Tryd.func36, Tryd.ntmps36
  go_wp2
  go_ret
  exact ⟨rfl, rfl⟩
end Go.Proofs.YtmljmpjpdgijlaaDoor
