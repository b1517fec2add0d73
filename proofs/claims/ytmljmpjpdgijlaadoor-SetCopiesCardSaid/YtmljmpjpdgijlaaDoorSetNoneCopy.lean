/-
  The copy of a family that there isn't.
-/
import Derived.Test.YtmljmpjpdgijlaaDoorSetCopiesPlain
set_option linter.unusedVariables false
set_option linter.unusedSimpArgs false
set_option linter.unnecessarySimpa false
namespace Go.Proofs.YtmljmpjpdgijlaaDoor
open Go.ChangeShapes Go.WideShapes Go.ChangeAt Go.RowKit Go.Deep SetPlain
set_option maxRecDepth 100000
theorem rows_none (p : Option Addr) (hp : p = none) (w : World) : Calls Tryd.prog 22 #[.pointer p] w fun e w' => e = .returned (.int .i64 0) ∧ w = w' := by
  subst hp
  exact none_rows w
theorem rows_cell (p : Option Addr) (b R : Nat) (hp : p = some ⟨b, 0, none⟩) (w : World) (h : w.cell? ⟨b, 0, none⟩ = some (.int .i64 R)) : Calls Tryd.prog 22 #[.pointer p] w fun e w' => e = .returned (.int .i64 R) ∧ w = w' := by
  subst hp
  go_enter Tryd.func22, Tryd.ntmps22
  go_wp2
  go_ret
  exact ⟨rfl, rfl⟩
set_option maxHeartbeats 1600000 in
theorem none_copy (w : World) : Calls Tryd.prog 25 #[.pointer none] w fun e w' => ∃ b, e = .returned (.pointer (some ⟨b, 0, none⟩)) ∧ w'.cell? ⟨b, 0, none⟩ = some (.int .i64 (0 : Nat)) ∧ Below w.heap.size w w' := by
  have HA := Lib.hid (none_rows w)
  have HC := Lib.hid (none_cols w)
  have HN := Lib.hid (fnew_spec 0 0 0 0 (by unfold Within; omega) (by unfold Within; omega) w)
  go_enter Tryd.func25, Tryd.ntmps25
  go_wp2_with fail
  refine HA.out.mono ?_
  rintro e w' ⟨rfl, rfl⟩
  go_wp2_with fail
  refine HC.out.mono ?_
  rintro e w' ⟨rfl, rfl⟩
  go_wp2_with fail
  refine HN.out.mono ?_
  rintro e w1 ⟨rfl, m1, hb1⟩
  have x3 : w1.cell? ⟨w.heap.size, 3, none⟩ = some (.int .i64 (0 : Nat)) := by rw [cell_of_heap m1.obj]; rfl
  have x0 : w1.cell? ⟨w.heap.size, 0, none⟩ = some (.int .i64 (0 : Nat)) := by rw [cell_of_heap m1.obj]; rfl
  have f3 := free_of_heap m1.obj 3
  have lz := lt_of_heap m1.obj
  have hb2 : Below w.heap.size w (w1.drew.setCell ⟨w.heap.size, 3, none⟩ (.int .i64 (0 : Nat))) := hb1.drew.setCell (by simp) _
  have x0' : (w1.drew.setCell ⟨w.heap.size, 3, none⟩ (.int .i64 (0 : Nat))).cell? ⟨w.heap.size, 0, none⟩ = some (.int .i64 (0 : Nat)) := by
    have o1 := heap_set (w := w1.drew) m1.obj 3 (.int .i64 (0 : Nat))
    rw [cell_of_heap o1]; rfl
  have HB := Lib.hid hb2
  have HX := Lib.hid x0'
  clear HA HC HN m1 hb1 hb2 x0'
  go_wp2_with fail
  refine (none_rows _).mono ?_
  rintro e w' ⟨rfl, rfl⟩
  go_wp2_with fail
  refine wp_loop_rounds 1 ?_
  rw [rounds_succ]
  go_upto_region 7 with fail
  go_region_held3 (fun _ => True) (trivial) (first | (go_at_call 13; refine (none_total _).mono ?_; rintro e w' ⟨rfl, rfl⟩))
  go_wp2_with fail
  go_ret
  exact ⟨_, rfl, HX.out, HB.out⟩
end Go.Proofs.YtmljmpjpdgijlaaDoor
