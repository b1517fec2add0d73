/-
  Does a rule look at a role? The walk.
-/
import Derived.Test.YtaabmkebbnkonaaDoorLiveMem
import Derived.Deep.QuietTactic
import Derived.BigQuiet
set_option linter.unusedVariables false
set_option linter.unusedSimpArgs false
set_option linter.unnecessarySimpa false
namespace Go.Proofs.YtaabmkebbnkonaaDoor
open Go.ChangeShapes Go.WideShapes Go.ChangeAt Go.RowKit Go.Deep SetPlain
section
variable {W : World} {lb : Nat} {K h : Nat}
set_option maxRecDepth 100000
set_option maxHeartbeats 3200000
theorem looks_1 (hlb : lb < W.heap.size) (hk0 : W.cell? ⟨lb, 3, none⟩ = some (.int .i64 K)) (head who ra rb via : Int)  :
    Calls Tryd.prog 41 #[.pointer (some ⟨lb, 0, none⟩), .agg #[.int .i64 1, .int .i64 head, .int .i64 who, .int .i64 ra, .int .i64 rb, .int .i64 via], .int .i64 h] W fun e W' => e = .returned (.bool false) ∧ Hid (Keeps (fun _ => False) W W') := by
  have hal := (MapKept.heap_alloc W (.cells #[.int .i64 1, .int .i64 head, .int .i64 who, .int .i64 ra, .int .i64 rb, .int .i64 via] 29)).1
  have k0 : Keeps (fun _ => False) W (W.alloc (.cells #[.int .i64 1, .int .i64 head, .int .i64 who, .int .i64 ra, .int .i64 rb, .int .i64 via] 29)) := (Keeps.refl _ _).alloc _
  have hkk := (k0.cell (p := ⟨lb, 3, none⟩) hlb (fun x => x)).trans hk0
  obtain ⟨w1, hw1⟩ : ∃ w1, (W.alloc (.cells #[.int .i64 1, .int .i64 head, .int .i64 who, .int .i64 ra, .int .i64 rb, .int .i64 via] 29)) = w1 := ⟨_, rfl⟩
  rw [hw1] at hal k0 hkk
  have c0 : w1.cell? ⟨W.heap.size, 0, none⟩ = some (.int .i64 1) := by rw [cell_of_heap hal]; rfl
  have c3 : w1.cell? ⟨W.heap.size, 3, none⟩ = some (.int .i64 ra) := by rw [cell_of_heap hal]; rfl
  have c4 : w1.cell? ⟨W.heap.size, 4, none⟩ = some (.int .i64 rb) := by rw [cell_of_heap hal]; rfl
  have c5 : w1.cell? ⟨W.heap.size, 5, none⟩ = some (.int .i64 via) := by rw [cell_of_heap hal]; rfl
  have HK := Lib.hid k0
  clear hal k0 hk0
  go_enter Tryd.func41, Tryd.ntmps41
  go_upto_region 1 with fail
  (try simp only [hw1])
  clear hw1
  go_wp2_with fail
  go_ret
  exact ⟨rfl, HK⟩
theorem looks_2 (hlb : lb < W.heap.size) (hk0 : W.cell? ⟨lb, 3, none⟩ = some (.int .i64 K)) (head who ra rb via : Int) (e : ra = h) :
    Calls Tryd.prog 41 #[.pointer (some ⟨lb, 0, none⟩), .agg #[.int .i64 2, .int .i64 head, .int .i64 who, .int .i64 ra, .int .i64 rb, .int .i64 via], .int .i64 h] W fun e W' => e = .returned (.bool true) ∧ Hid (Keeps (fun _ => False) W W') := by
  have hal := (MapKept.heap_alloc W (.cells #[.int .i64 2, .int .i64 head, .int .i64 who, .int .i64 ra, .int .i64 rb, .int .i64 via] 29)).1
  have k0 : Keeps (fun _ => False) W (W.alloc (.cells #[.int .i64 2, .int .i64 head, .int .i64 who, .int .i64 ra, .int .i64 rb, .int .i64 via] 29)) := (Keeps.refl _ _).alloc _
  have hkk := (k0.cell (p := ⟨lb, 3, none⟩) hlb (fun x => x)).trans hk0
  obtain ⟨w1, hw1⟩ : ∃ w1, (W.alloc (.cells #[.int .i64 2, .int .i64 head, .int .i64 who, .int .i64 ra, .int .i64 rb, .int .i64 via] 29)) = w1 := ⟨_, rfl⟩
  rw [hw1] at hal k0 hkk
  have c0 : w1.cell? ⟨W.heap.size, 0, none⟩ = some (.int .i64 2) := by rw [cell_of_heap hal]; rfl
  have c3 : w1.cell? ⟨W.heap.size, 3, none⟩ = some (.int .i64 ra) := by rw [cell_of_heap hal]; rfl
  have c4 : w1.cell? ⟨W.heap.size, 4, none⟩ = some (.int .i64 rb) := by rw [cell_of_heap hal]; rfl
  have c5 : w1.cell? ⟨W.heap.size, 5, none⟩ = some (.int .i64 via) := by rw [cell_of_heap hal]; rfl
  have HK := Lib.hid k0
  subst e
  clear hal k0 hk0
  go_enter Tryd.func41, Tryd.ntmps41
  go_upto_region 1 with fail
  (try simp only [hw1])
  clear hw1
  go_wp2_with fail
  go_ret
  exact ⟨rfl, HK⟩
theorem looks_2n (hlb : lb < W.heap.size) (hk0 : W.cell? ⟨lb, 3, none⟩ = some (.int .i64 K)) (head who ra rb via : Int) (x1 : (ra == (h : Int)) = false) (y1 : decide (ra = (h : Int)) = false) :
    Calls Tryd.prog 41 #[.pointer (some ⟨lb, 0, none⟩), .agg #[.int .i64 2, .int .i64 head, .int .i64 who, .int .i64 ra, .int .i64 rb, .int .i64 via], .int .i64 h] W fun e W' => e = .returned (.bool false) ∧ Hid (Keeps (fun _ => False) W W') := by
  have hal := (MapKept.heap_alloc W (.cells #[.int .i64 2, .int .i64 head, .int .i64 who, .int .i64 ra, .int .i64 rb, .int .i64 via] 29)).1
  have k0 : Keeps (fun _ => False) W (W.alloc (.cells #[.int .i64 2, .int .i64 head, .int .i64 who, .int .i64 ra, .int .i64 rb, .int .i64 via] 29)) := (Keeps.refl _ _).alloc _
  have hkk := (k0.cell (p := ⟨lb, 3, none⟩) hlb (fun x => x)).trans hk0
  obtain ⟨w1, hw1⟩ : ∃ w1, (W.alloc (.cells #[.int .i64 2, .int .i64 head, .int .i64 who, .int .i64 ra, .int .i64 rb, .int .i64 via] 29)) = w1 := ⟨_, rfl⟩
  rw [hw1] at hal k0 hkk
  have c0 : w1.cell? ⟨W.heap.size, 0, none⟩ = some (.int .i64 2) := by rw [cell_of_heap hal]; rfl
  have c3 : w1.cell? ⟨W.heap.size, 3, none⟩ = some (.int .i64 ra) := by rw [cell_of_heap hal]; rfl
  have c4 : w1.cell? ⟨W.heap.size, 4, none⟩ = some (.int .i64 rb) := by rw [cell_of_heap hal]; rfl
  have c5 : w1.cell? ⟨W.heap.size, 5, none⟩ = some (.int .i64 via) := by rw [cell_of_heap hal]; rfl
  have HK := Lib.hid k0
  clear hal k0 hk0
  go_enter Tryd.func41, Tryd.ntmps41
  go_upto_region 1 with fail
  (try simp only [hw1])
  clear hw1
  go_wp2_with fail
  go_ret
  exact ⟨rfl, HK⟩
theorem looks_4a (hlb : lb < W.heap.size) (hk0 : W.cell? ⟨lb, 3, none⟩ = some (.int .i64 K)) (head who ra rb via : Int) (e : ra = h) :
    Calls Tryd.prog 41 #[.pointer (some ⟨lb, 0, none⟩), .agg #[.int .i64 4, .int .i64 head, .int .i64 who, .int .i64 ra, .int .i64 rb, .int .i64 via], .int .i64 h] W fun e W' => e = .returned (.bool true) ∧ Hid (Keeps (fun _ => False) W W') := by
  have hal := (MapKept.heap_alloc W (.cells #[.int .i64 4, .int .i64 head, .int .i64 who, .int .i64 ra, .int .i64 rb, .int .i64 via] 29)).1
  have k0 : Keeps (fun _ => False) W (W.alloc (.cells #[.int .i64 4, .int .i64 head, .int .i64 who, .int .i64 ra, .int .i64 rb, .int .i64 via] 29)) := (Keeps.refl _ _).alloc _
  have hkk := (k0.cell (p := ⟨lb, 3, none⟩) hlb (fun x => x)).trans hk0
  obtain ⟨w1, hw1⟩ : ∃ w1, (W.alloc (.cells #[.int .i64 4, .int .i64 head, .int .i64 who, .int .i64 ra, .int .i64 rb, .int .i64 via] 29)) = w1 := ⟨_, rfl⟩
  rw [hw1] at hal k0 hkk
  have c0 : w1.cell? ⟨W.heap.size, 0, none⟩ = some (.int .i64 4) := by rw [cell_of_heap hal]; rfl
  have c3 : w1.cell? ⟨W.heap.size, 3, none⟩ = some (.int .i64 ra) := by rw [cell_of_heap hal]; rfl
  have c4 : w1.cell? ⟨W.heap.size, 4, none⟩ = some (.int .i64 rb) := by rw [cell_of_heap hal]; rfl
  have c5 : w1.cell? ⟨W.heap.size, 5, none⟩ = some (.int .i64 via) := by rw [cell_of_heap hal]; rfl
  have HK := Lib.hid k0
  subst e
  clear hal k0 hk0
  go_enter Tryd.func41, Tryd.ntmps41
  go_upto_region 1 with fail
  (try simp only [hw1])
  clear hw1
  go_wp2_with fail
  go_ret
  exact ⟨rfl, HK⟩
theorem looks_4b (hlb : lb < W.heap.size) (hk0 : W.cell? ⟨lb, 3, none⟩ = some (.int .i64 K)) (head who ra rb via : Int) (x1 : (ra == (h : Int)) = false) (y1 : decide (ra = (h : Int)) = false) (e : rb = h) :
    Calls Tryd.prog 41 #[.pointer (some ⟨lb, 0, none⟩), .agg #[.int .i64 4, .int .i64 head, .int .i64 who, .int .i64 ra, .int .i64 rb, .int .i64 via], .int .i64 h] W fun e W' => e = .returned (.bool true) ∧ Hid (Keeps (fun _ => False) W W') := by
  have hal := (MapKept.heap_alloc W (.cells #[.int .i64 4, .int .i64 head, .int .i64 who, .int .i64 ra, .int .i64 rb, .int .i64 via] 29)).1
  have k0 : Keeps (fun _ => False) W (W.alloc (.cells #[.int .i64 4, .int .i64 head, .int .i64 who, .int .i64 ra, .int .i64 rb, .int .i64 via] 29)) := (Keeps.refl _ _).alloc _
  have hkk := (k0.cell (p := ⟨lb, 3, none⟩) hlb (fun x => x)).trans hk0
  obtain ⟨w1, hw1⟩ : ∃ w1, (W.alloc (.cells #[.int .i64 4, .int .i64 head, .int .i64 who, .int .i64 ra, .int .i64 rb, .int .i64 via] 29)) = w1 := ⟨_, rfl⟩
  rw [hw1] at hal k0 hkk
  have c0 : w1.cell? ⟨W.heap.size, 0, none⟩ = some (.int .i64 4) := by rw [cell_of_heap hal]; rfl
  have c3 : w1.cell? ⟨W.heap.size, 3, none⟩ = some (.int .i64 ra) := by rw [cell_of_heap hal]; rfl
  have c4 : w1.cell? ⟨W.heap.size, 4, none⟩ = some (.int .i64 rb) := by rw [cell_of_heap hal]; rfl
  have c5 : w1.cell? ⟨W.heap.size, 5, none⟩ = some (.int .i64 via) := by rw [cell_of_heap hal]; rfl
  have HK := Lib.hid k0
  subst e
  clear hal k0 hk0
  go_enter Tryd.func41, Tryd.ntmps41
  go_upto_region 1 with fail
  (try simp only [hw1])
  clear hw1
  go_wp2_with fail
  go_ret
  exact ⟨rfl, HK⟩
theorem looks_4n (hlb : lb < W.heap.size) (hk0 : W.cell? ⟨lb, 3, none⟩ = some (.int .i64 K)) (head who ra rb via : Int) (x1 : (ra == (h : Int)) = false) (y1 : decide (ra = (h : Int)) = false) (x2 : (rb == (h : Int)) = false) (y2 : decide (rb = (h : Int)) = false) :
    Calls Tryd.prog 41 #[.pointer (some ⟨lb, 0, none⟩), .agg #[.int .i64 4, .int .i64 head, .int .i64 who, .int .i64 ra, .int .i64 rb, .int .i64 via], .int .i64 h] W fun e W' => e = .returned (.bool false) ∧ Hid (Keeps (fun _ => False) W W') := by
  have hal := (MapKept.heap_alloc W (.cells #[.int .i64 4, .int .i64 head, .int .i64 who, .int .i64 ra, .int .i64 rb, .int .i64 via] 29)).1
  have k0 : Keeps (fun _ => False) W (W.alloc (.cells #[.int .i64 4, .int .i64 head, .int .i64 who, .int .i64 ra, .int .i64 rb, .int .i64 via] 29)) := (Keeps.refl _ _).alloc _
  have hkk := (k0.cell (p := ⟨lb, 3, none⟩) hlb (fun x => x)).trans hk0
  obtain ⟨w1, hw1⟩ : ∃ w1, (W.alloc (.cells #[.int .i64 4, .int .i64 head, .int .i64 who, .int .i64 ra, .int .i64 rb, .int .i64 via] 29)) = w1 := ⟨_, rfl⟩
  rw [hw1] at hal k0 hkk
  have c0 : w1.cell? ⟨W.heap.size, 0, none⟩ = some (.int .i64 4) := by rw [cell_of_heap hal]; rfl
  have c3 : w1.cell? ⟨W.heap.size, 3, none⟩ = some (.int .i64 ra) := by rw [cell_of_heap hal]; rfl
  have c4 : w1.cell? ⟨W.heap.size, 4, none⟩ = some (.int .i64 rb) := by rw [cell_of_heap hal]; rfl
  have c5 : w1.cell? ⟨W.heap.size, 5, none⟩ = some (.int .i64 via) := by rw [cell_of_heap hal]; rfl
  have HK := Lib.hid k0
  clear hal k0 hk0
  go_enter Tryd.func41, Tryd.ntmps41
  go_upto_region 1 with fail
  (try simp only [hw1])
  clear hw1
  go_wp2_with fail
  go_ret
  exact ⟨rfl, HK⟩
theorem looks_3a (hlb : lb < W.heap.size) (hk0 : W.cell? ⟨lb, 3, none⟩ = some (.int .i64 K)) (head who ra rb via : Int) (e : ra = h) :
    Calls Tryd.prog 41 #[.pointer (some ⟨lb, 0, none⟩), .agg #[.int .i64 3, .int .i64 head, .int .i64 who, .int .i64 ra, .int .i64 rb, .int .i64 via], .int .i64 h] W fun e W' => e = .returned (.bool true) ∧ Hid (Keeps (fun _ => False) W W') := by
  have hal := (MapKept.heap_alloc W (.cells #[.int .i64 3, .int .i64 head, .int .i64 who, .int .i64 ra, .int .i64 rb, .int .i64 via] 29)).1
  have k0 : Keeps (fun _ => False) W (W.alloc (.cells #[.int .i64 3, .int .i64 head, .int .i64 who, .int .i64 ra, .int .i64 rb, .int .i64 via] 29)) := (Keeps.refl _ _).alloc _
  have hkk := (k0.cell (p := ⟨lb, 3, none⟩) hlb (fun x => x)).trans hk0
  obtain ⟨w1, hw1⟩ : ∃ w1, (W.alloc (.cells #[.int .i64 3, .int .i64 head, .int .i64 who, .int .i64 ra, .int .i64 rb, .int .i64 via] 29)) = w1 := ⟨_, rfl⟩
  rw [hw1] at hal k0 hkk
  have c0 : w1.cell? ⟨W.heap.size, 0, none⟩ = some (.int .i64 3) := by rw [cell_of_heap hal]; rfl
  have c3 : w1.cell? ⟨W.heap.size, 3, none⟩ = some (.int .i64 ra) := by rw [cell_of_heap hal]; rfl
  have c4 : w1.cell? ⟨W.heap.size, 4, none⟩ = some (.int .i64 rb) := by rw [cell_of_heap hal]; rfl
  have c5 : w1.cell? ⟨W.heap.size, 5, none⟩ = some (.int .i64 via) := by rw [cell_of_heap hal]; rfl
  have HK := Lib.hid k0
  subst e
  clear hal k0 hk0
  go_enter Tryd.func41, Tryd.ntmps41
  go_upto_region 1 with fail
  (try simp only [hw1])
  clear hw1
  go_upto_region 7 with fail
  go_quiet (fail)
  go_wp2_with fail
  go_ret
  exact ⟨rfl, HK.out.drewN nq⟩
theorem looks_3b (hlb : lb < W.heap.size) (hk0 : W.cell? ⟨lb, 3, none⟩ = some (.int .i64 K)) (head who ra rb via : Int) (x1 : (ra == (h : Int)) = false) (y1 : decide (ra = (h : Int)) = false) (hK : 0 < K) (hK64 : K ≤ 64) (e : ((h % K : Nat) : Int) = via) :
    Calls Tryd.prog 41 #[.pointer (some ⟨lb, 0, none⟩), .agg #[.int .i64 3, .int .i64 head, .int .i64 who, .int .i64 ra, .int .i64 rb, .int .i64 via], .int .i64 h] W fun e W' => e = .returned (.bool true) ∧ Hid (Keeps (fun _ => False) W W') := by
  have hal := (MapKept.heap_alloc W (.cells #[.int .i64 3, .int .i64 head, .int .i64 who, .int .i64 ra, .int .i64 rb, .int .i64 via] 29)).1
  have k0 : Keeps (fun _ => False) W (W.alloc (.cells #[.int .i64 3, .int .i64 head, .int .i64 who, .int .i64 ra, .int .i64 rb, .int .i64 via] 29)) := (Keeps.refl _ _).alloc _
  have hkk := (k0.cell (p := ⟨lb, 3, none⟩) hlb (fun x => x)).trans hk0
  obtain ⟨w1, hw1⟩ : ∃ w1, (W.alloc (.cells #[.int .i64 3, .int .i64 head, .int .i64 who, .int .i64 ra, .int .i64 rb, .int .i64 via] 29)) = w1 := ⟨_, rfl⟩
  rw [hw1] at hal k0 hkk
  have c0 : w1.cell? ⟨W.heap.size, 0, none⟩ = some (.int .i64 3) := by rw [cell_of_heap hal]; rfl
  have c3 : w1.cell? ⟨W.heap.size, 3, none⟩ = some (.int .i64 ra) := by rw [cell_of_heap hal]; rfl
  have c4 : w1.cell? ⟨W.heap.size, 4, none⟩ = some (.int .i64 rb) := by rw [cell_of_heap hal]; rfl
  have c5 : w1.cell? ⟨W.heap.size, 5, none⟩ = some (.int .i64 via) := by rw [cell_of_heap hal]; rfl
  have HK := Lib.hid k0
  have hKn : ((K : Int) == 0) = false := beq_eq_false_iff_ne.2 (by omega)
  have hKd : decide ((K : Int) = 0) = false := decide_eq_false (by omega)
  have hK1 : ((K : Int) == -1) = false := beq_eq_false_iff_ne.2 (by omega)
  obtain ⟨md, hmd⟩ : ∃ md : Nat, h % K = md := ⟨_, rfl⟩
  have hm : Int.tmod (h : Int) (K : Int) = (md : Int) := by rw [← hmd]; rfl
  have hvm : via = (md : Int) := by omega
  subst hvm
  clear hal k0 hk0
  go_enter Tryd.func41, Tryd.ntmps41
  go_upto_region 1 with fail
  (try simp only [hw1])
  clear hw1
  go_upto_region 7 with fail
  go_quiet (fail)
  go_wp2_with fail
  go_ret
  exact ⟨rfl, HK.out.drewN nq⟩
theorem looks_3n (hlb : lb < W.heap.size) (hk0 : W.cell? ⟨lb, 3, none⟩ = some (.int .i64 K)) (head who ra rb via : Int) (x1 : (ra == (h : Int)) = false) (y1 : decide (ra = (h : Int)) = false) (hK : 0 < K) (hK64 : K ≤ 64) (e1 : (((h % K : Nat) : Int) == via) = false) (e2 : decide (((h % K : Nat) : Int) = via) = false) :
    Calls Tryd.prog 41 #[.pointer (some ⟨lb, 0, none⟩), .agg #[.int .i64 3, .int .i64 head, .int .i64 who, .int .i64 ra, .int .i64 rb, .int .i64 via], .int .i64 h] W fun e W' => e = .returned (.bool false) ∧ Hid (Keeps (fun _ => False) W W') := by
  have hal := (MapKept.heap_alloc W (.cells #[.int .i64 3, .int .i64 head, .int .i64 who, .int .i64 ra, .int .i64 rb, .int .i64 via] 29)).1
  have k0 : Keeps (fun _ => False) W (W.alloc (.cells #[.int .i64 3, .int .i64 head, .int .i64 who, .int .i64 ra, .int .i64 rb, .int .i64 via] 29)) := (Keeps.refl _ _).alloc _
  have hkk := (k0.cell (p := ⟨lb, 3, none⟩) hlb (fun x => x)).trans hk0
  obtain ⟨w1, hw1⟩ : ∃ w1, (W.alloc (.cells #[.int .i64 3, .int .i64 head, .int .i64 who, .int .i64 ra, .int .i64 rb, .int .i64 via] 29)) = w1 := ⟨_, rfl⟩
  rw [hw1] at hal k0 hkk
  have c0 : w1.cell? ⟨W.heap.size, 0, none⟩ = some (.int .i64 3) := by rw [cell_of_heap hal]; rfl
  have c3 : w1.cell? ⟨W.heap.size, 3, none⟩ = some (.int .i64 ra) := by rw [cell_of_heap hal]; rfl
  have c4 : w1.cell? ⟨W.heap.size, 4, none⟩ = some (.int .i64 rb) := by rw [cell_of_heap hal]; rfl
  have c5 : w1.cell? ⟨W.heap.size, 5, none⟩ = some (.int .i64 via) := by rw [cell_of_heap hal]; rfl
  have HK := Lib.hid k0
  have hKn : ((K : Int) == 0) = false := beq_eq_false_iff_ne.2 (by omega)
  have hKd : decide ((K : Int) = 0) = false := decide_eq_false (by omega)
  have hK1 : ((K : Int) == -1) = false := beq_eq_false_iff_ne.2 (by omega)
  obtain ⟨md, hmd⟩ : ∃ md : Nat, h % K = md := ⟨_, rfl⟩
  have hm : Int.tmod (h : Int) (K : Int) = (md : Int) := by rw [← hmd]; rfl
  rw [hmd] at e1 e2
  clear hal k0 hk0
  go_enter Tryd.func41, Tryd.ntmps41
  go_upto_region 1 with fail
  (try simp only [hw1])
  clear hw1
  go_upto_region 7 with fail
  go_quiet (fail)
  go_wp2_with fail
  go_ret
  exact ⟨rfl, HK.out.drewN nq⟩
theorem looks_spec {z fb bw : Nat} {rb : Nat → Nat} {P : Nat} {v : Value} {In : Nat → Nat → Bool} {tot : Nat} {rs : List Rl} (hL : LvMem z W lb fb bw rb P K v In tot rs) {r : Rl} (hR : rightB P K r = true) (h : Nat) :
    Calls Tryd.prog 41 #[.pointer (some ⟨lb, 0, none⟩), .agg #[.int .i64 r.kind, .int .i64 r.head, .int .i64 r.who, .int .i64 r.a, .int .i64 r.b, .int .i64 r.via], .int .i64 h] W fun e W' => e = .returned (.bool (looksB K r h)) ∧ Hid (Keeps (fun _ => False) W W') := by
  have hlb := lt_of_heap hL.obj
  obtain ⟨_, _, _, hk0⟩ := hL.cells
  have hK64 := hL.hK
  obtain ⟨_, hk⟩ := right_iff hR
  obtain ⟨kind, head, who, ra, rb0, via⟩ := r
  simp only [] at hk ⊢
  unfold looksB
  simp only []
  rcases hk with ⟨rfl, _⟩ | ⟨rfl, _⟩ | ⟨rfl, _, _, v0, v1⟩ | ⟨rfl, _⟩
  · rw [if_neg (by decide), if_neg (by decide), if_neg (by decide)]
    exact looks_1 hlb hk0 head who ra rb0 via
  · rw [if_pos rfl]
    by_cases e : ra = h
    · rw [decide_eq_true e]
      exact looks_2 hlb hk0 head who ra rb0 via e
    · rw [decide_eq_false e]
      exact looks_2n hlb hk0 head who ra rb0 via (beq_eq_false_iff_ne.2 e) (decide_eq_false e)
  · rw [if_neg (by decide), if_neg (by decide), if_pos rfl]
    by_cases e : ra = h
    · rw [decide_eq_true e, Bool.true_or]
      exact looks_3a hlb hk0 head who ra rb0 via e
    · rw [decide_eq_false e, Bool.false_or]
      by_cases e2 : ((h % K : Nat) : Int) = via
      · rw [decide_eq_true e2]
        exact looks_3b hlb hk0 head who ra rb0 via (beq_eq_false_iff_ne.2 e) (decide_eq_false e) (by omega) hK64 e2
      · rw [decide_eq_false e2]
        exact looks_3n hlb hk0 head who ra rb0 via (beq_eq_false_iff_ne.2 e) (decide_eq_false e) (by omega) hK64 (beq_eq_false_iff_ne.2 e2) (decide_eq_false e2)
  · rw [if_neg (by decide), if_pos rfl]
    by_cases e : ra = h
    · rw [decide_eq_true e, Bool.true_or]
      exact looks_4a hlb hk0 head who ra rb0 via e
    · rw [decide_eq_false e, Bool.false_or]
      by_cases e2 : rb0 = h
      · rw [decide_eq_true e2]
        exact looks_4b hlb hk0 head who ra rb0 via (beq_eq_false_iff_ne.2 e) (decide_eq_false e) e2
      · rw [decide_eq_false e2]
        exact looks_4n hlb hk0 head who ra rb0 via (beq_eq_false_iff_ne.2 e) (decide_eq_false e) (beq_eq_false_iff_ne.2 e2) (decide_eq_false e2)
end
end Go.Proofs.YtaabmkebbnkonaaDoor
