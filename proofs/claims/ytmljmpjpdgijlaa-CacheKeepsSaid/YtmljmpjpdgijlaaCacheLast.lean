/-
  The walk of 'last' of the law CacheKeeps.
-/
import Derived.Test.YtmljmpjpdgijlaaCacheSpec
import Derived.Deep.DeepCutAuto
import Derived.ChangeKeysEq
namespace Go.Proofs.Ytmljmpjpdgijlaa
open Go.RowKit Go.Deep

theorem intInfo : (Try.prog.info? 3).map (fun i => (i.zero, i.size, i.bytes)) = some (some (.int .i64 0), 1, 8) := by kernel_rfl
theorem intCells : Try.prog.cellsOf 3 = 1 := by kernel_rfl

set_option maxRecDepth 10000 in
set_option maxHeartbeats 800000 in
theorem arr4_eqIn (a0 a1 a2 a3 k0 k1 k2 k3 : Int) (w : World) :
    (Op.equalIn 10000 39 (.agg #[.int .i64 a0, .int .i64 a1, .int .i64 a2, .int .i64 a3]) (.agg #[.int .i64 k0, .int .i64 k1, .int .i64 k2, .int .i64 k3])).run Try.prog w = .ok (decide ((a0, a1, a2, a3) = (k0, k1, k2, k3))) w := by
  obtain ⟨i0, hi, _, _, _⟩ := info_parts intInfo
  rw [run_equalIn_array w 9999 _ _ Try.underlying39 hi, intCells]
  by_cases h0 : a0 = k0
  · subst h0
    by_cases h1 : a1 = k1
    · subst h1
      by_cases h2 : a2 = k2
      · subst h2
        by_cases h3 : a3 = k3
        · subst h3
          simp [Op.eqItems, List.range, List.range.loop, go_sem]
        · have h3' : (a3 == k3) = false := by simpa using h3
          simp [Op.eqItems, List.range, List.range.loop, go_sem, h3', h3]
      · have h3' : (a2 == k2) = false := by simpa using h2
        simp [Op.eqItems, List.range, List.range.loop, go_sem, h3', h2]
    · have h3' : (a1 == k1) = false := by simpa using h1
      simp [Op.eqItems, List.range, List.range.loop, go_sem, h3', h1]
  · have h3' : (a0 == k0) = false := by simpa using h0
    simp [Op.eqItems, List.range, List.range.loop, go_sem, h3', h0]
theorem arr4_eql (a0 a1 a2 a3 k0 k1 k2 k3 : Int) (w : World) :
    (binOp .eql 39 (.agg #[.int .i64 a0, .int .i64 a1, .int .i64 a2, .int .i64 a3]) (.agg #[.int .i64 k0, .int .i64 k1, .int .i64 k2, .int .i64 k3])).run Try.prog w = .ok (.bool (decide ((a0, a1, a2, a3) = (k0, k1, k2, k3)))) w := by
  rw [run_eql_struct, arr4_eqIn]; rfl

/-- The answer that was put last for a key, among the first n. -/
def lastTo (A : Nat → CKey × Int) (key : CKey) : Nat → Option Int
  | 0 => none
  | n + 1 => if (A n).1 = key then some (A n).2 else lastTo A key n

/-- Row cells of what was put: five an element. -/
def PutRow (w : World) (g n : Nat) (A : Nat → CKey × Int) : Prop :=
  ∀ j, j < n → w.cell? ⟨g, j * 5, none⟩ = some (.int .i64 (A j).1.1) ∧ w.cell? ⟨g, j * 5 + 1, none⟩ = some (.int .i64 (A j).1.2.1) ∧ w.cell? ⟨g, j * 5 + 2, none⟩ = some (.int .i64 (A j).1.2.2.1) ∧
    w.cell? ⟨g, j * 5 + 3, none⟩ = some (.int .i64 (A j).1.2.2.2) ∧ w.cell? ⟨g, j * 5 + 4, none⟩ = some (.int .i64 (A j).2)

def LastPost (A : Nat → CKey × Int) (key : CKey) (n : Nat) (w : World) (e : Ending) (w' : World) : Prop :=
  e = .returned (.tuple #[.int .i64 ((lastTo A key n).getD 0), .bool (lastTo A key n).isSome]) ∧ Below w.heap.size w w'

set_option maxRecDepth 10000 in
set_option maxHeartbeats 1600000 in
theorem last_any (ao : Option Addr) (n cap : Nat) (k0 k1 k2 k3 : Int) (A : Nat → CKey × Int) (w : World) (hn : n ≤ 100) (hao : 0 < n → ∃ g, ao = some ⟨g, 0, none⟩ ∧ g < w.heap.size ∧ PutRow w g n A) :
    Calls Try.prog 19 #[.slice ao n cap, .agg #[.int .i64 k0, .int .i64 k1, .int .i64 k2, .int .i64 k3]] w (LastPost A (k0, k1, k2, k3) n w) := by
  have HA := Lib.hid hao; clear hao
  go_enter Try.func19, Try.ntmps19
  go_wp2_with fail
  go_loopw [10] (fun i wr => ∃ k : Nat, k ≤ n ∧ i = .int .i64 k ∧ lastTo A (k0, k1, k2, k3) n = lastTo A (k0, k1, k2, k3) (n - k) ∧ Below (w.heap.size + 1) (w.alloc (.cells #[.int .i64 k0, .int .i64 k1, .int .i64 k2, .int .i64 k3] 39)) wr) (fun i _ => n - (intOf i).toNat)
  case atStart => exact ⟨0, Nat.zero_le _, rfl, rfl, Below.refl _ _⟩
  case round =>
    obtain ⟨k, hk, rfl, hL, hb⟩ := hrel
    by_cases hlt : k < n
    · obtain ⟨g, rfl, hg, hrow⟩ := HA.out (by omega)
      obtain ⟨j, hj⟩ : ∃ j, j = n - 1 - k := ⟨_, rfl⟩
      have hc := fun o => hb.cell (p := ⟨g, o, none⟩) (by simp; omega)
      have hc' : ∀ o, wr.cell? ⟨g, o, none⟩ = w.cell? ⟨g, o, none⟩ := fun o => (hc o).trans (by simp [go_sem, World.cell?_alloc_past, hg])
      obtain ⟨r0, r1, r2, r3, r4⟩ := hrow j (by omega)
      rw [← hc'] at r0 r1 r2 r3 r4
      clear hc hc'
      have hkc := fun o => hb.cell (p := ⟨w.heap.size, o, none⟩) (by simp)
      have q0 : wr.cell? ⟨w.heap.size, 0, none⟩ = some (.int .i64 k0) := (hkc 0).trans (by simp)
      have q1 : wr.cell? ⟨w.heap.size, 1, none⟩ = some (.int .i64 k1) := (hkc 1).trans (by simp)
      have q2 : wr.cell? ⟨w.heap.size, 2, none⟩ = some (.int .i64 k2) := (hkc 2).trans (by simp)
      have q3 : wr.cell? ⟨w.heap.size, 3, none⟩ = some (.int .i64 k3) := (hkc 3).trans (by simp)
      have hzz : w.heap.size + 1 ≤ wr.heap.size := by have := hb.size; simpa using this
      have hzy : w.heap.size < wr.heap.size := by omega
      clear hkc
      have hk1 : n - k = j + 1 := by omega
      have hk2 : n - (k + 1) = j := by omega
      have hidx : (n : Int) - 1 - (k : Int) = (j : Int) := by omega
      have hjn : (j : Int) < (n : Int) := by omega
      rw [hk1] at hL
      clear hk1 hrow
      obtain ⟨⟨⟨a0, a1, a2, a3⟩, x⟩, hAj⟩ : ∃ p, p = A j := ⟨_, rfl⟩
      rw [← hAj] at r0 r1 r2 r3 r4
      simp only [] at r0 r1 r2 r3 r4
      have heq := fun W => arr4_eql a0 a1 a2 a3 k0 k1 k2 k3 W
      by_cases hm : (a0, a1, a2, a3) = (k0, k1, k2, k3)
      · have hL' : lastTo A (k0, k1, k2, k3) n = some x := by rw [hL, lastTo, ← hAj, if_pos hm]
        rw [decide_eq_true hm] at heq
        have HL := Lib.hid hL'
        clear hL hL' hAj hm hj
        go_wp2
        go_ret2
        exact ⟨by rw [HL.out]; rfl, (((Below.refl _ _).alloc (Nat.le_refl _) _).trans (hb.mono (by simp))).alloc (by omega) _⟩
      · have hL' : lastTo A (k0, k1, k2, k3) n = lastTo A (k0, k1, k2, k3) (n - (k + 1)) := by rw [hL, lastTo, ← hAj, if_neg hm, hk2]
        rw [decide_eq_false hm] at heq
        have HL := Lib.hid hL'
        clear hL hL' hAj hm hj hk2
        go_wp2
        go_roundw
        case rel => exact ⟨k + 1, by omega, by go_num, HL.out, hb.alloc hzz _⟩
        case measure => simp [intOf]; omega
    · obtain rfl : k = n := by omega
      rw [Nat.sub_self] at hL
      have HL := Lib.hid hL; clear hL
      go_wp2
      go_ret2
      exact ⟨by rw [HL.out]; rfl, (((Below.refl _ _).alloc (Nat.le_refl _) _).trans (hb.mono (by simp)))⟩
end Go.Proofs.Ytmljmpjpdgijlaa
