/-
  The closure by which statements are sorted.
-/
import Derived.Test.YtcdfpnlaklaafaaGreatMD
set_option linter.unusedVariables false
set_option linter.unusedSimpArgs false
set_option linter.unnecessarySimpa false
namespace Go.Proofs.YtcdfpnlaklaafaaGreat
open Go.ChangeShapes Go.WideShapes Go.ChangeAt Go.RowKit Go.Deep
section
variable {W : World}
set_option maxRecDepth 100000
set_option maxHeartbeats 3200000
theorem sclos_grw (a b : Stm) : Calls Tryz.prog 65 #[stmV a, stmV b] W fun e W' => e = .returned (.int .i64 (cmpO stmLt a b)) ∧ Hid (Grw W W') := by
  have HO : Hid (∀ W : World, Calls Tryz.prog 66 #[stmV a, stmV b] W fun e W' => e = .returned (.int .i64 (cmpO stmLt a b)) ∧ Hid (Grw W W')) := fun W => sOrder_grw a b
  obtain ⟨c, hc⟩ : ∃ c, cmpO stmLt a b = c := ⟨_, rfl⟩
  rw [hc] at HO ⊢
  clear hc
  obtain ⟨⟨xh1, xh2⟩, xk, xo, ⟨xa1, xa2⟩, ⟨xb1, xb2⟩, xi⟩ := a
  obtain ⟨⟨yh1, yh2⟩, yk, yo, ⟨ya1, ya2⟩, ⟨yb1, yb2⟩, yi⟩ := b
  have HK : Hid (∀ o o2 : Obj, Grw W ((W.alloc o).alloc o2)) := fun o o2 => ((Grw.refl _).alloc _).alloc _
  unfold stmV at *
  go_enter Tryz.func65, Tryz.ntmps65
  go_wp2_with fail
  refine (HO.out _).mono ?_
  rintro e w1 ⟨rfl, h1⟩
  have HE : Hid (Grw W w1) := (HK.out _ _).trans h1.out
  clear HO HK h1
  go_wp2_with fail
  go_ret
  exact ⟨rfl, HE⟩
theorem rclos_grw (a b : Rol) : Calls Tryz.prog 70 #[rolV2 a, rolV2 b] W fun e W' => e = .returned (.int .i64 (cmpO rolLt a b)) ∧ Hid (Grw W W') := by
  have H1 : Hid (∀ W : World, Calls Tryz.prog 48 #[rolV2 a, rolV2 b] W fun e W' => e = .returned (.bool (decide (rolLt a b))) ∧ Hid (Grw W W')) := fun W => sless_grw a b
  have H2 : Hid (∀ W : World, Calls Tryz.prog 48 #[rolV2 b, rolV2 a] W fun e W' => e = .returned (.bool (decide (rolLt b a))) ∧ Hid (Grw W W')) := fun W => sless_grw b a
  obtain ⟨a1, a2⟩ := a
  obtain ⟨b1, b2⟩ := b
  obtain ⟨WA, hWA⟩ : ∃ WA, W.alloc (.cells #[.string ⟨a1.toArray⟩, .string ⟨a2.toArray⟩] 40) = WA := ⟨_, rfl⟩
  have hal := (MapKept.heap_alloc W (.cells #[.string ⟨a1.toArray⟩, .string ⟨a2.toArray⟩] 40)).1
  have hkA : Grw W WA := by rw [← hWA]; exact (Grw.refl _).alloc _
  rw [hWA] at hal
  obtain ⟨WB, hWB⟩ : ∃ WB, WA.alloc (.cells #[.string ⟨b1.toArray⟩, .string ⟨b2.toArray⟩] 40) = WB := ⟨_, rfl⟩
  have hal2 := (MapKept.heap_alloc WA (.cells #[.string ⟨b1.toArray⟩, .string ⟨b2.toArray⟩] 40)).1
  have hkB : Grw WA WB := by rw [← hWB]; exact (Grw.refl _).alloc _
  rw [hWB] at hal2
  have halB := (hkB.block _ (lt_of_heap hal) (fun x => x)).trans hal
  have HA := Lib.hid halB
  have HB := Lib.hid hal2
  have HKB : Hid (Grw W WB) := hkA.trans hkB
  have c0 := cell_of_heap halB 0
  have c1 := cell_of_heap halB 1
  have d0 := cell_of_heap hal2 0
  have d1 := cell_of_heap hal2 1
  simp only [List.getElem?_toArray, List.getElem?_cons_zero, List.getElem?_cons_succ] at c0 c1 d0 d1
  clear hal halB hal2 hkA hkB
  by_cases h1 : rolLt (a1, a2) (b1, b2)
  · have hc : cmpO rolLt (a1, a2) (b1, b2) = -1 := if_pos h1
    rw [hc]
    rw [decide_eq_true h1] at H1
    clear hc h1 H2
    unfold rolV2 at *
    go_enter Tryz.func70, Tryz.ntmps70
    go_wp2_with fail
    refine (H1.out _).mono ?_
    rintro e w1 ⟨rfl, k1⟩
    have HE : Hid (Grw W w1) := HKB.out.trans k1.out
    clear H1 k1 HKB hWA hWB c0 c1 d0 d1 HA HB
    go_wp2_with fail
    go_ret
    exact ⟨rfl, HE⟩
  · rw [decide_eq_false h1] at H1
    obtain ⟨r, hr⟩ : ∃ r, decide (rolLt (b1, b2) (a1, a2)) = r := ⟨_, rfl⟩
    have hc : cmpO rolLt (a1, a2) (b1, b2) = if r = true then 1 else 0 := by
      rw [← hr]
      show (if _ then _ else _) = _
      rw [if_neg h1]
      simp
    rw [hc]
    rw [hr] at H2
    clear hc h1 hr
    unfold rolV2 at *
    cases r
    all_goals
      go_enter Tryz.func70, Tryz.ntmps70
      go_wp2_with fail
      refine (H1.out _).mono ?_
      rintro e w1 ⟨rfl, k1⟩
      have HK1 : Hid (Grw W w1) := HKB.out.trans k1.out
      have hA1 := (k1.out.block _ (lt_of_heap HA.out) (fun x => x)).trans HA.out
      have hB1 := (k1.out.block _ (lt_of_heap HB.out) (fun x => x)).trans HB.out
      clear H1 k1 HKB hWA hWB c0 c1 d0 d1
      have c0 := cell_of_heap hA1 0
      have c1 := cell_of_heap hA1 1
      have d0 := cell_of_heap hB1 0
      have d1 := cell_of_heap hB1 1
      simp only [List.getElem?_toArray, List.getElem?_cons_zero, List.getElem?_cons_succ] at c0 c1 d0 d1
      clear hA1 hB1 HA HB
      go_wp2_with fail
      refine (H2.out _).mono ?_
      rintro e w2 ⟨rfl, k2⟩
      have HE : Hid (Grw W w2) := HK1.out.trans k2.out
      clear H2 k2 HK1 c0 c1 d0 d1
      go_wp2_with fail
      go_ret
      exact ⟨rfl, HE⟩
end
end Go.Proofs.YtcdfpnlaklaafaaGreat
