/-
  The program's order of statements.
-/
import Derived.Test.YtcdfpnlaklaafaaGreatStmNorm
set_option linter.unusedVariables false
set_option linter.unusedSimpArgs false
set_option linter.unnecessarySimpa false
namespace Go.Proofs.YtcdfpnlaklaafaaGreat
open Go.ChangeShapes Go.WideShapes Go.ChangeAt Go.RowKit Go.Deep
theorem orI_cons (x : Int) (l : List Int) : orI (x :: l) = if x = 0 then orI l else x := rfl
theorem orI_one (x : Int) : orI [x] = x := by
  rw [orI_cons]
  split
  · rename_i h; exact h.symm
  · rfl
theorem compareI (x y : Int) : Lib.compareInt x y = cmpO intLt x y := by
  unfold Lib.compareInt cmpO intLt
  rfl
theorem orderS (a b : Stm) : orI [cmpO rolLt a.1 b.1, cmpO intLt a.2.1 b.2.1, cmpO (fun x y : Str => x < y) a.2.2.1 b.2.2.1, cmpO rolLt a.2.2.2.1 b.2.2.2.1, cmpO rolLt a.2.2.2.2.1 b.2.2.2.2.1, cmpO (fun x y : Str => x < y) a.2.2.2.2.2 b.2.2.2.2.2] = cmpO stmLt a b := by
  rw [show cmpO stmLt a b = _ from cmpO_lex rolO a b, orI_cons]
  congr 1
  rw [show cmpO st2 a.2 b.2 = _ from cmpO_lex intO a.2 b.2, orI_cons]
  congr 1
  rw [show cmpO st3 a.2.2 b.2.2 = _ from cmpO_lex strO a.2.2 b.2.2, orI_cons]
  congr 1
  rw [show cmpO st4 a.2.2.2 b.2.2.2 = _ from cmpO_lex rolO a.2.2.2 b.2.2.2, orI_cons]
  congr 1
  rw [show cmpO st5 a.2.2.2.2 b.2.2.2.2 = _ from cmpO_lex rolO a.2.2.2.2 b.2.2.2.2, orI_cons, orI_one]
section
variable {W : World}
set_option maxRecDepth 100000
set_option maxHeartbeats 6400000
theorem sOrder_grw (a b : Stm) : Calls Tryz.prog 66 #[stmV a, stmV b] W fun e W' => e = .returned (.int .i64 (cmpO stmLt a b)) ∧ Hid (Grw W W') := by
  rw [← orderS]
  obtain ⟨⟨xh1, xh2⟩, xk, xo, ⟨xa1, xa2⟩, ⟨xb1, xb2⟩, xi⟩ := a
  obtain ⟨⟨yh1, yh2⟩, yk, yo, ⟨ya1, ya2⟩, ⟨yb1, yb2⟩, yi⟩ := b
  simp only
  have H1 : Hid (∀ W : World, Calls Tryz.prog 60 #[(Value.agg #[Value.string ⟨xh1.toArray⟩, Value.string ⟨xh2.toArray⟩]), (Value.agg #[Value.string ⟨yh1.toArray⟩, Value.string ⟨yh2.toArray⟩])] W fun e W' => e = .returned (.int .i64 (cmpO rolLt (xh1, xh2) (yh1, yh2))) ∧ Hid (Grw W W')) := fun W => sorder_grw (xh1, xh2) (yh1, yh2)
  have H4 : Hid (∀ W : World, Calls Tryz.prog 60 #[(Value.agg #[Value.string ⟨xa1.toArray⟩, Value.string ⟨xa2.toArray⟩]), (Value.agg #[Value.string ⟨ya1.toArray⟩, Value.string ⟨ya2.toArray⟩])] W fun e W' => e = .returned (.int .i64 (cmpO rolLt (xa1, xa2) (ya1, ya2))) ∧ Hid (Grw W W')) := fun W => sorder_grw (xa1, xa2) (ya1, ya2)
  have H5 : Hid (∀ W : World, Calls Tryz.prog 60 #[(Value.agg #[Value.string ⟨xb1.toArray⟩, Value.string ⟨xb2.toArray⟩]), (Value.agg #[Value.string ⟨yb1.toArray⟩, Value.string ⟨yb2.toArray⟩])] W fun e W' => e = .returned (.int .i64 (cmpO rolLt (xb1, xb2) (yb1, yb2))) ∧ Hid (Grw W W')) := fun W => sorder_grw (xb1, xb2) (yb1, yb2)
  have H3 : Hid (∀ W : World, Calls Tryz.prog 74 #[.string ⟨xo.toArray⟩, .string ⟨yo.toArray⟩] W fun e W' => e = .returned (.int .i64 (cmpO (fun x y : Str => x < y) xo yo)) ∧ W = W') := fun W => strcmp_spec xo yo
  have H6 : Hid (∀ W : World, Calls Tryz.prog 74 #[.string ⟨xi.toArray⟩, .string ⟨yi.toArray⟩] W fun e W' => e = .returned (.int .i64 (cmpO (fun x y : Str => x < y) xi yi)) ∧ W = W') := fun W => strcmp_spec xi yi
  have H2 : Hid (∀ W : World, Calls Tryz.prog 87 #[.int .i64 xk, .int .i64 yk] W fun e W' => e = .returned (.int .i64 (cmpO intLt xk yk)) ∧ W = W') := fun W => (shelfcmp_Compare_int xk yk W).mono fun e W' h => ⟨by rw [h.1, compareI], h.2.symm⟩
  obtain ⟨z1, hz1⟩ : ∃ z, cmpO rolLt (xh1, xh2) (yh1, yh2) = z := ⟨_, rfl⟩
  rw [hz1] at H1 ⊢
  clear hz1
  obtain ⟨z2, hz2⟩ : ∃ z, cmpO intLt xk yk = z := ⟨_, rfl⟩
  rw [hz2] at H2 ⊢
  clear hz2
  obtain ⟨z3, hz3⟩ : ∃ z, cmpO (fun x y : Str => x < y) xo yo = z := ⟨_, rfl⟩
  rw [hz3] at H3 ⊢
  clear hz3
  obtain ⟨z4, hz4⟩ : ∃ z, cmpO rolLt (xa1, xa2) (ya1, ya2) = z := ⟨_, rfl⟩
  rw [hz4] at H4 ⊢
  clear hz4
  obtain ⟨z5, hz5⟩ : ∃ z, cmpO rolLt (xb1, xb2) (yb1, yb2) = z := ⟨_, rfl⟩
  rw [hz5] at H5 ⊢
  clear hz5
  obtain ⟨z6, hz6⟩ : ∃ z, cmpO (fun x y : Str => x < y) xi yi = z := ⟨_, rfl⟩
  rw [hz6] at H6 ⊢
  clear hz6
  have HOR : Hid (∀ (W : World) (g : Nat), W.cell? ⟨g, 0, none⟩ = some (.int .i64 z1) → W.cell? ⟨g, 1, none⟩ = some (.int .i64 z2) → W.cell? ⟨g, 2, none⟩ = some (.int .i64 z3) → W.cell? ⟨g, 3, none⟩ = some (.int .i64 z4) → W.cell? ⟨g, 4, none⟩ = some (.int .i64 z5) → W.cell? ⟨g, 5, none⟩ = some (.int .i64 z6) → Calls Tryz.prog 73 #[.slice (some ⟨g, 0, none⟩) 6 6] W fun e W' => e = .returned (.int .i64 (orI [z1, z2, z3, z4, z5, z6])) ∧ W = W') := fun W g q0 q1 q2 q3 q4 q5 => cmpor_spec (n := 6) rfl (by omega) (fun j z hj => by
    match j, hj with
    | 0, hj => simp at hj; subst hj; exact q0
    | 1, hj => simp at hj; subst hj; exact q1
    | 2, hj => simp at hj; subst hj; exact q2
    | 3, hj => simp at hj; subst hj; exact q3
    | 4, hj => simp at hj; subst hj; exact q4
    | 5, hj => simp at hj; subst hj; exact q5
    | j + 6, hj => simp at hj)
  obtain ⟨r, hr⟩ : ∃ r, orI [z1, z2, z3, z4, z5, z6] = r := ⟨_, rfl⟩
  rw [hr] at HOR ⊢
  clear hr
  obtain ⟨WA, hWA⟩ : ∃ WA, W.alloc (.cells #[.int .i64 xk, .string ⟨xh1.toArray⟩, .string ⟨xh2.toArray⟩, .string ⟨xo.toArray⟩, .string ⟨xa1.toArray⟩, .string ⟨xa2.toArray⟩, .string ⟨xb1.toArray⟩, .string ⟨xb2.toArray⟩, .string ⟨xi.toArray⟩] 44) = WA := ⟨_, rfl⟩
  have hal := (MapKept.heap_alloc W (.cells #[.int .i64 xk, .string ⟨xh1.toArray⟩, .string ⟨xh2.toArray⟩, .string ⟨xo.toArray⟩, .string ⟨xa1.toArray⟩, .string ⟨xa2.toArray⟩, .string ⟨xb1.toArray⟩, .string ⟨xb2.toArray⟩, .string ⟨xi.toArray⟩] 44)).1
  have hkA : Grw W WA := by rw [← hWA]; exact (Grw.refl _).alloc _
  rw [hWA] at hal
  obtain ⟨WB, hWB⟩ : ∃ WB, WA.alloc (.cells #[.int .i64 yk, .string ⟨yh1.toArray⟩, .string ⟨yh2.toArray⟩, .string ⟨yo.toArray⟩, .string ⟨ya1.toArray⟩, .string ⟨ya2.toArray⟩, .string ⟨yb1.toArray⟩, .string ⟨yb2.toArray⟩, .string ⟨yi.toArray⟩] 44) = WB := ⟨_, rfl⟩
  have hal2 := (MapKept.heap_alloc WA (.cells #[.int .i64 yk, .string ⟨yh1.toArray⟩, .string ⟨yh2.toArray⟩, .string ⟨yo.toArray⟩, .string ⟨ya1.toArray⟩, .string ⟨ya2.toArray⟩, .string ⟨yb1.toArray⟩, .string ⟨yb2.toArray⟩, .string ⟨yi.toArray⟩] 44)).1
  have hkB : Grw WA WB := by rw [← hWB]; exact (Grw.refl _).alloc _
  rw [hWB] at hal2
  have halB := (hkB.block _ (lt_of_heap hal) (fun x => x)).trans hal
  obtain ⟨p0, p1, p2, p3, p4, p5, p6, p7, p8⟩ := cells9 halB
  obtain ⟨q0, q1, q2, q3, q4, q5, q6, q7, q8⟩ := cells9 hal2
  have HB0 : Hid (WB.cell? ⟨W.heap.size, 0, none⟩ = some (.int .i64 xk) ∧ WB.cell? ⟨W.heap.size, 1, none⟩ = some (.string ⟨xh1.toArray⟩) ∧ WB.cell? ⟨W.heap.size, 2, none⟩ = some (.string ⟨xh2.toArray⟩) ∧ WB.cell? ⟨W.heap.size, 3, none⟩ = some (.string ⟨xo.toArray⟩) ∧ WB.cell? ⟨W.heap.size, 4, none⟩ = some (.string ⟨xa1.toArray⟩) ∧ WB.cell? ⟨W.heap.size, 5, none⟩ = some (.string ⟨xa2.toArray⟩) ∧ WB.cell? ⟨W.heap.size, 6, none⟩ = some (.string ⟨xb1.toArray⟩) ∧ WB.cell? ⟨W.heap.size, 7, none⟩ = some (.string ⟨xb2.toArray⟩) ∧ WB.cell? ⟨W.heap.size, 8, none⟩ = some (.string ⟨xi.toArray⟩) ∧ WB.cell? ⟨WA.heap.size, 0, none⟩ = some (.int .i64 yk) ∧ WB.cell? ⟨WA.heap.size, 1, none⟩ = some (.string ⟨yh1.toArray⟩) ∧ WB.cell? ⟨WA.heap.size, 2, none⟩ = some (.string ⟨yh2.toArray⟩) ∧ WB.cell? ⟨WA.heap.size, 3, none⟩ = some (.string ⟨yo.toArray⟩) ∧ WB.cell? ⟨WA.heap.size, 4, none⟩ = some (.string ⟨ya1.toArray⟩) ∧ WB.cell? ⟨WA.heap.size, 5, none⟩ = some (.string ⟨ya2.toArray⟩) ∧ WB.cell? ⟨WA.heap.size, 6, none⟩ = some (.string ⟨yb1.toArray⟩) ∧ WB.cell? ⟨WA.heap.size, 7, none⟩ = some (.string ⟨yb2.toArray⟩) ∧ WB.cell? ⟨WA.heap.size, 8, none⟩ = some (.string ⟨yi.toArray⟩) ∧ Hid (Grw W WB ∧ W.heap.size < WB.heap.size ∧ WA.heap.size < WB.heap.size)) := ⟨p0, p1, p2, p3, p4, p5, p6, p7, p8, q0, q1, q2, q3, q4, q5, q6, q7, q8, hkA.trans hkB, lt_of_heap halB, lt_of_heap hal2⟩
  have KS : Hid (∀ W' W'' : World, (W'.cell? ⟨W.heap.size, 0, none⟩ = some (.int .i64 xk) ∧ W'.cell? ⟨W.heap.size, 1, none⟩ = some (.string ⟨xh1.toArray⟩) ∧ W'.cell? ⟨W.heap.size, 2, none⟩ = some (.string ⟨xh2.toArray⟩) ∧ W'.cell? ⟨W.heap.size, 3, none⟩ = some (.string ⟨xo.toArray⟩) ∧ W'.cell? ⟨W.heap.size, 4, none⟩ = some (.string ⟨xa1.toArray⟩) ∧ W'.cell? ⟨W.heap.size, 5, none⟩ = some (.string ⟨xa2.toArray⟩) ∧ W'.cell? ⟨W.heap.size, 6, none⟩ = some (.string ⟨xb1.toArray⟩) ∧ W'.cell? ⟨W.heap.size, 7, none⟩ = some (.string ⟨xb2.toArray⟩) ∧ W'.cell? ⟨W.heap.size, 8, none⟩ = some (.string ⟨xi.toArray⟩) ∧ W'.cell? ⟨WA.heap.size, 0, none⟩ = some (.int .i64 yk) ∧ W'.cell? ⟨WA.heap.size, 1, none⟩ = some (.string ⟨yh1.toArray⟩) ∧ W'.cell? ⟨WA.heap.size, 2, none⟩ = some (.string ⟨yh2.toArray⟩) ∧ W'.cell? ⟨WA.heap.size, 3, none⟩ = some (.string ⟨yo.toArray⟩) ∧ W'.cell? ⟨WA.heap.size, 4, none⟩ = some (.string ⟨ya1.toArray⟩) ∧ W'.cell? ⟨WA.heap.size, 5, none⟩ = some (.string ⟨ya2.toArray⟩) ∧ W'.cell? ⟨WA.heap.size, 6, none⟩ = some (.string ⟨yb1.toArray⟩) ∧ W'.cell? ⟨WA.heap.size, 7, none⟩ = some (.string ⟨yb2.toArray⟩) ∧ W'.cell? ⟨WA.heap.size, 8, none⟩ = some (.string ⟨yi.toArray⟩) ∧ Hid (Grw W W' ∧ W.heap.size < W'.heap.size ∧ WA.heap.size < W'.heap.size)) → Grw W' W'' → (W''.cell? ⟨W.heap.size, 0, none⟩ = some (.int .i64 xk) ∧ W''.cell? ⟨W.heap.size, 1, none⟩ = some (.string ⟨xh1.toArray⟩) ∧ W''.cell? ⟨W.heap.size, 2, none⟩ = some (.string ⟨xh2.toArray⟩) ∧ W''.cell? ⟨W.heap.size, 3, none⟩ = some (.string ⟨xo.toArray⟩) ∧ W''.cell? ⟨W.heap.size, 4, none⟩ = some (.string ⟨xa1.toArray⟩) ∧ W''.cell? ⟨W.heap.size, 5, none⟩ = some (.string ⟨xa2.toArray⟩) ∧ W''.cell? ⟨W.heap.size, 6, none⟩ = some (.string ⟨xb1.toArray⟩) ∧ W''.cell? ⟨W.heap.size, 7, none⟩ = some (.string ⟨xb2.toArray⟩) ∧ W''.cell? ⟨W.heap.size, 8, none⟩ = some (.string ⟨xi.toArray⟩) ∧ W''.cell? ⟨WA.heap.size, 0, none⟩ = some (.int .i64 yk) ∧ W''.cell? ⟨WA.heap.size, 1, none⟩ = some (.string ⟨yh1.toArray⟩) ∧ W''.cell? ⟨WA.heap.size, 2, none⟩ = some (.string ⟨yh2.toArray⟩) ∧ W''.cell? ⟨WA.heap.size, 3, none⟩ = some (.string ⟨yo.toArray⟩) ∧ W''.cell? ⟨WA.heap.size, 4, none⟩ = some (.string ⟨ya1.toArray⟩) ∧ W''.cell? ⟨WA.heap.size, 5, none⟩ = some (.string ⟨ya2.toArray⟩) ∧ W''.cell? ⟨WA.heap.size, 6, none⟩ = some (.string ⟨yb1.toArray⟩) ∧ W''.cell? ⟨WA.heap.size, 7, none⟩ = some (.string ⟨yb2.toArray⟩) ∧ W''.cell? ⟨WA.heap.size, 8, none⟩ = some (.string ⟨yi.toArray⟩) ∧ Hid (Grw W W'' ∧ W.heap.size < W''.heap.size ∧ WA.heap.size < W''.heap.size))) := fun W' W'' h hk => by
    have hh := Hid.out (h.2.2.2.2.2.2.2.2.2.2.2.2.2.2.2.2.2.2)
    exact ⟨(hk.cell (p := ⟨W.heap.size, 0, none⟩) hh.2.1 (fun x => x)).trans h.1, (hk.cell (p := ⟨W.heap.size, 1, none⟩) hh.2.1 (fun x => x)).trans h.2.1, (hk.cell (p := ⟨W.heap.size, 2, none⟩) hh.2.1 (fun x => x)).trans h.2.2.1, (hk.cell (p := ⟨W.heap.size, 3, none⟩) hh.2.1 (fun x => x)).trans h.2.2.2.1, (hk.cell (p := ⟨W.heap.size, 4, none⟩) hh.2.1 (fun x => x)).trans h.2.2.2.2.1, (hk.cell (p := ⟨W.heap.size, 5, none⟩) hh.2.1 (fun x => x)).trans h.2.2.2.2.2.1, (hk.cell (p := ⟨W.heap.size, 6, none⟩) hh.2.1 (fun x => x)).trans h.2.2.2.2.2.2.1, (hk.cell (p := ⟨W.heap.size, 7, none⟩) hh.2.1 (fun x => x)).trans h.2.2.2.2.2.2.2.1, (hk.cell (p := ⟨W.heap.size, 8, none⟩) hh.2.1 (fun x => x)).trans h.2.2.2.2.2.2.2.2.1, (hk.cell (p := ⟨WA.heap.size, 0, none⟩) hh.2.2 (fun x => x)).trans h.2.2.2.2.2.2.2.2.2.1, (hk.cell (p := ⟨WA.heap.size, 1, none⟩) hh.2.2 (fun x => x)).trans h.2.2.2.2.2.2.2.2.2.2.1, (hk.cell (p := ⟨WA.heap.size, 2, none⟩) hh.2.2 (fun x => x)).trans h.2.2.2.2.2.2.2.2.2.2.2.1, (hk.cell (p := ⟨WA.heap.size, 3, none⟩) hh.2.2 (fun x => x)).trans h.2.2.2.2.2.2.2.2.2.2.2.2.1, (hk.cell (p := ⟨WA.heap.size, 4, none⟩) hh.2.2 (fun x => x)).trans h.2.2.2.2.2.2.2.2.2.2.2.2.2.1, (hk.cell (p := ⟨WA.heap.size, 5, none⟩) hh.2.2 (fun x => x)).trans h.2.2.2.2.2.2.2.2.2.2.2.2.2.2.1, (hk.cell (p := ⟨WA.heap.size, 6, none⟩) hh.2.2 (fun x => x)).trans h.2.2.2.2.2.2.2.2.2.2.2.2.2.2.2.1, (hk.cell (p := ⟨WA.heap.size, 7, none⟩) hh.2.2 (fun x => x)).trans h.2.2.2.2.2.2.2.2.2.2.2.2.2.2.2.2.1, (hk.cell (p := ⟨WA.heap.size, 8, none⟩) hh.2.2 (fun x => x)).trans h.2.2.2.2.2.2.2.2.2.2.2.2.2.2.2.2.2.1, hh.1.trans hk, Nat.lt_of_lt_of_le hh.2.1 hk.size, Nat.lt_of_lt_of_le hh.2.2 hk.size⟩
  clear hal halB hal2 hkA hkB
  unfold stmV
  go_enter Tryz.func66, Tryz.ntmps66
  go_upto_region 1 with fail
  clear hWA hWB
  go_region_held3 (fun w' => w'.cell? ⟨W.heap.size, 0, none⟩ = some (.int .i64 xk) ∧ w'.cell? ⟨W.heap.size, 1, none⟩ = some (.string ⟨xh1.toArray⟩) ∧ w'.cell? ⟨W.heap.size, 2, none⟩ = some (.string ⟨xh2.toArray⟩) ∧ w'.cell? ⟨W.heap.size, 3, none⟩ = some (.string ⟨xo.toArray⟩) ∧ w'.cell? ⟨W.heap.size, 4, none⟩ = some (.string ⟨xa1.toArray⟩) ∧ w'.cell? ⟨W.heap.size, 5, none⟩ = some (.string ⟨xa2.toArray⟩) ∧ w'.cell? ⟨W.heap.size, 6, none⟩ = some (.string ⟨xb1.toArray⟩) ∧ w'.cell? ⟨W.heap.size, 7, none⟩ = some (.string ⟨xb2.toArray⟩) ∧ w'.cell? ⟨W.heap.size, 8, none⟩ = some (.string ⟨xi.toArray⟩) ∧ w'.cell? ⟨WA.heap.size, 0, none⟩ = some (.int .i64 yk) ∧ w'.cell? ⟨WA.heap.size, 1, none⟩ = some (.string ⟨yh1.toArray⟩) ∧ w'.cell? ⟨WA.heap.size, 2, none⟩ = some (.string ⟨yh2.toArray⟩) ∧ w'.cell? ⟨WA.heap.size, 3, none⟩ = some (.string ⟨yo.toArray⟩) ∧ w'.cell? ⟨WA.heap.size, 4, none⟩ = some (.string ⟨ya1.toArray⟩) ∧ w'.cell? ⟨WA.heap.size, 5, none⟩ = some (.string ⟨ya2.toArray⟩) ∧ w'.cell? ⟨WA.heap.size, 6, none⟩ = some (.string ⟨yb1.toArray⟩) ∧ w'.cell? ⟨WA.heap.size, 7, none⟩ = some (.string ⟨yb2.toArray⟩) ∧ w'.cell? ⟨WA.heap.size, 8, none⟩ = some (.string ⟨yi.toArray⟩) ∧ Hid (Grw W w' ∧ W.heap.size < w'.heap.size ∧ WA.heap.size < w'.heap.size)) (first | assumption | exact KS.out _ _ (by assumption) hk'.out | exact KS.out _ _ HB0.out ((Grw.refl _).drew) | exact KS.out _ _ (by assumption) ((Grw.refl _).alloc _) | exact KS.out _ _ (by assumption) ((Grw.refl _).drew)) ((first | (go_at_call_of 74 (Value.string ⟨xo.toArray⟩); refine (H3.out _).mono ?_; rintro e w' ⟨rfl, rfl⟩) | (go_at_call_of 74 (Value.string ⟨xi.toArray⟩); refine (H6.out _).mono ?_; rintro e w' ⟨rfl, rfl⟩) | (go_at_call 87; refine (H2.out _).mono ?_; rintro e w' ⟨rfl, rfl⟩) | (go_at_call_of 60 (Value.agg #[Value.string ⟨xh1.toArray⟩, Value.string ⟨xh2.toArray⟩]); refine (H1.out _).mono ?_; rintro e w' ⟨rfl, hk'⟩) | (go_at_call_of 60 (Value.agg #[Value.string ⟨xa1.toArray⟩, Value.string ⟨xa2.toArray⟩]); refine (H4.out _).mono ?_; rintro e w' ⟨rfl, hk'⟩) | (go_at_call_of 60 (Value.agg #[Value.string ⟨xb1.toArray⟩, Value.string ⟨xb2.toArray⟩]); refine (H5.out _).mono ?_; rintro e w' ⟨rfl, hk'⟩) | (go_at_call 73; refine (HOR.out _ _ (by simp [go_sem]) (by simp [go_sem]) (by simp [go_sem]) (by simp [go_sem]) (by simp [go_sem]) (by simp [go_sem])).mono ?_; rintro e w' ⟨rfl, rfl⟩)))
  all_goals
    go_wp2_with fail
    go_ret
    rename_i hh
    exact ⟨rfl, (hh.2.2.2.2.2.2.2.2.2.2.2.2.2.2.2.2.2.2).out.1⟩
theorem sOrder_spec (a b : Stm) : Calls Tryz.prog 66 #[stmV a, stmV b] W fun e W' => e = .returned (.int .i64 (cmpO stmLt a b)) ∧ Hid (Keeps (fun _ => False) W W') := (sOrder_grw a b).mono fun _ _ h => ⟨h.1, h.2.out.toKeeps⟩
end
end Go.Proofs.YtcdfpnlaklaafaaGreat
/-
 The document's order of statements.
-/
set_option linter.unusedVariables false
set_option linter.unusedSimpArgs false
set_option linter.unnecessarySimpa false
namespace Go.Proofs.YtcdfpnlaklaafaaGreat
open Go.ChangeShapes Go.WideShapes Go.ChangeAt Go.RowKit Go.Deep
/-- What an order of pairs comes to, by whether the first are the same. -/
theorem lex_ne {α β : Type} {p : α → α → Prop} {q : β → β → Prop} [DecidableRel p] [DecidableRel q] [DecidableEq α] {a b : α × β} (h : a.1 ≠ b.1) : decide (lexO p q a b) = decide (p a.1 b.1) :=
 decide_eq_decide.2 ⟨fun k => k.elim id (fun k => absurd k.1 h), .inl⟩
theorem lex_eq {α β : Type} {p : α → α → Prop} {q : β → β → Prop} [DecidableRel p] [DecidableRel q] [DecidableEq α] (hp : LO p) {a b : α × β} (h : a.1 = b.1) : decide (lexO p q a b) = decide (q a.2 b.2) :=
 decide_eq_decide.2 ⟨fun k => k.elim (fun k => absurd k (by rw [h]; exact hp.irrefl _)) (fun k => k.2), fun k => .inr ⟨h, k⟩⟩
theorem stm_e (a b : Stm) (h : a.1 = b.1) : decide (stmLt a b) = decide (st2 a.2 b.2) := lex_eq rolO h
theorem st2_e (a b : Int × Str × Rol × Rol × Str) (h : a.1 = b.1) : decide (st2 a b) = decide (st3 a.2 b.2) := lex_eq intO h
theorem st3_e (a b : Str × Rol × Rol × Str) (h : a.1 = b.1) : decide (st3 a b) = decide (st4 a.2 b.2) := lex_eq strO h
theorem st4_e (a b : Rol × Rol × Str) (h : a.1 = b.1) : decide (st4 a b) = decide (st5 a.2 b.2) := lex_eq rolO h
theorem st5_e (a b : Rol × Str) (h : a.1 = b.1) : decide (st5 a b) = decide (a.2 < b.2) := lex_eq rolO h
theorem stm_n (a b : Stm) (h : a.1 ≠ b.1) : decide (stmLt a b) = decide (rolLt a.1 b.1) := lex_ne h
theorem st2_n (a b : Int × Str × Rol × Rol × Str) (h : a.1 ≠ b.1) : decide (st2 a b) = decide (intLt a.1 b.1) := lex_ne h
theorem st3_n (a b : Str × Rol × Rol × Str) (h : a.1 ≠ b.1) : decide (st3 a b) = decide (a.1 < b.1) := lex_ne h
theorem st4_n (a b : Rol × Rol × Str) (h : a.1 ≠ b.1) : decide (st4 a b) = decide (rolLt a.1 b.1) := lex_ne h
theorem st5_n (a b : Rol × Str) (h : a.1 ≠ b.1) : decide (st5 a b) = decide (rolLt a.1 b.1) := lex_ne h
section
variable {W : World}
set_option maxRecDepth 100000
set_option maxHeartbeats 3200000
theorem rBefore_spec (a b : Stm) : Calls Tryz.prog 58 #[stmV a, stmV b] W fun e W' => e = .returned (.bool (decide (stmLt a b))) ∧ Hid (Keeps (fun _ => False) W W') := by
 obtain ⟨⟨xh1, xh2⟩, xk, xo, ⟨xa1, xa2⟩, ⟨xb1, xb2⟩, xi⟩ := a
 obtain ⟨⟨yh1, yh2⟩, yk, yo, ⟨ya1, ya2⟩, ⟨yb1, yb2⟩, yi⟩ := b
 have HL : Hid (∀ (W : World) (p1 p2 q1 q2 : Str), Calls Tryz.prog 47 #[.agg #[.string ⟨p1.toArray⟩, .string ⟨p2.toArray⟩], .agg #[.string ⟨q1.toArray⟩, .string ⟨q2.toArray⟩]] W fun e W' => e = .returned (.bool (decide (rolLt (p1, p2) (q1, q2)))) ∧ Hid (Keeps (fun _ => False) W W')) := fun W p1 p2 q1 q2 => rless_spec (p1, p2) (q1, q2)
 have HK : Hid (Keeps (fun _ => False) W ((W.alloc (.cells #[.int .i64 xk, .string ⟨xh1.toArray⟩, .string ⟨xh2.toArray⟩, .string ⟨xo.toArray⟩, .string ⟨xa1.toArray⟩, .string ⟨xa2.toArray⟩, .string ⟨xb1.toArray⟩, .string ⟨xb2.toArray⟩, .string ⟨xi.toArray⟩] 44)).alloc (.cells #[.int .i64 yk, .string ⟨yh1.toArray⟩, .string ⟨yh2.toArray⟩, .string ⟨yo.toArray⟩, .string ⟨ya1.toArray⟩, .string ⟨ya2.toArray⟩, .string ⟨yb1.toArray⟩, .string ⟨yb2.toArray⟩, .string ⟨yi.toArray⟩] 44))) := ((Keeps.refl _ _).alloc _).alloc _
 unfold stmV
 by_cases eh1 : xh1 = yh1
 case neg =>
  have hb : (xh1 == yh1) = false := beq_eq_false_iff_ne.2 eh1
  have hd : decide (stmLt ((xh1, xh2), xk, xo, (xa1, xa2), (xb1, xb2), xi) ((yh1, yh2), yk, yo, (ya1, ya2), (yb1, yb2), yi)) = decide (rolLt (xh1, xh2) (yh1, yh2)) := stm_n ((xh1, xh2), xk, xo, (xa1, xa2), (xb1, xb2), xi) ((yh1, yh2), yk, yo, (ya1, ya2), (yb1, yb2), yi) (fun h => eh1 (congrArg Prod.fst h))
  rw [hd]
  clear hd eh1
  obtain ⟨r, hr⟩ : ∃ r, decide (rolLt (xh1, xh2) (yh1, yh2)) = r := ⟨_, rfl⟩
  have HL1 : Hid (∀ W : World, Calls Tryz.prog 47 #[.agg #[.string ⟨xh1.toArray⟩, .string ⟨xh2.toArray⟩], .agg #[.string ⟨yh1.toArray⟩, .string ⟨yh2.toArray⟩]] W fun e W' => e = .returned (.bool r) ∧ Hid (Keeps (fun _ => False) W W')) := fun W => by rw [← hr]; exact HL.out W _ _ _ _
  rw [hr]
  clear hr HL
  go_enter Tryz.func58, Tryz.ntmps58
  go_wp2_with fail
  refine (HL1.out _).mono ?_
  rintro e w1 ⟨rfl, h1⟩
  have HE : Hid (Keeps (fun _ => False) W w1) := HK.out.trans h1.out
  clear HL1 h1 HK
  go_wp2_with fail
  go_ret
  exact ⟨rfl, HE⟩
 subst eh1
 by_cases eh2 : xh2 = yh2
 case neg =>
  have hb : (xh2 == yh2) = false := beq_eq_false_iff_ne.2 eh2
  have hd : decide (stmLt ((xh1, xh2), xk, xo, (xa1, xa2), (xb1, xb2), xi) ((xh1, yh2), yk, yo, (ya1, ya2), (yb1, yb2), yi)) = decide (rolLt (xh1, xh2) (xh1, yh2)) := stm_n ((xh1, xh2), xk, xo, (xa1, xa2), (xb1, xb2), xi) ((xh1, yh2), yk, yo, (ya1, ya2), (yb1, yb2), yi) (fun h => eh2 (congrArg Prod.snd h))
  rw [hd]
  clear hd eh2
  obtain ⟨r, hr⟩ : ∃ r, decide (rolLt (xh1, xh2) (xh1, yh2)) = r := ⟨_, rfl⟩
  have HL1 : Hid (∀ W : World, Calls Tryz.prog 47 #[.agg #[.string ⟨xh1.toArray⟩, .string ⟨xh2.toArray⟩], .agg #[.string ⟨xh1.toArray⟩, .string ⟨yh2.toArray⟩]] W fun e W' => e = .returned (.bool r) ∧ Hid (Keeps (fun _ => False) W W')) := fun W => by rw [← hr]; exact HL.out W _ _ _ _
  rw [hr]
  clear hr HL
  go_enter Tryz.func58, Tryz.ntmps58
  go_wp2_with fail
  refine (HL1.out _).mono ?_
  rintro e w1 ⟨rfl, h1⟩
  have HE : Hid (Keeps (fun _ => False) W w1) := HK.out.trans h1.out
  clear HL1 h1 HK
  go_wp2_with fail
  go_ret
  exact ⟨rfl, HE⟩
 subst eh2
 by_cases ek : xk = yk
 case neg =>
  have hb : (xk != yk) = true := by simpa using ek
  have hd : decide (stmLt ((xh1, xh2), xk, xo, (xa1, xa2), (xb1, xb2), xi) ((xh1, xh2), yk, yo, (ya1, ya2), (yb1, yb2), yi)) = decide (intLt xk yk) := (stm_e ((xh1, xh2), xk, xo, (xa1, xa2), (xb1, xb2), xi) ((xh1, xh2), yk, yo, (ya1, ya2), (yb1, yb2), yi) rfl).trans (st2_n (xk, xo, (xa1, xa2), (xb1, xb2), xi) (yk, yo, (ya1, ya2), (yb1, yb2), yi) ek)
  rw [hd]
  clear hd ek HL
  go_enter Tryz.func58, Tryz.ntmps58
  go_wp2_with fail
  go_ret
  exact ⟨rfl, HK⟩
 subst ek
 by_cases eo : xo = yo
 case neg =>
  have hb : (xo == yo) = false := beq_eq_false_iff_ne.2 eo
  have hd : decide (stmLt ((xh1, xh2), xk, xo, (xa1, xa2), (xb1, xb2), xi) ((xh1, xh2), xk, yo, (ya1, ya2), (yb1, yb2), yi)) = decide (xo < yo) := (stm_e ((xh1, xh2), xk, xo, (xa1, xa2), (xb1, xb2), xi) ((xh1, xh2), xk, yo, (ya1, ya2), (yb1, yb2), yi) rfl).trans ((st2_e (xk, xo, (xa1, xa2), (xb1, xb2), xi) (xk, yo, (ya1, ya2), (yb1, yb2), yi) rfl).trans (st3_n (xo, (xa1, xa2), (xb1, xb2), xi) (yo, (ya1, ya2), (yb1, yb2), yi) eo))
  rw [hd]
  obtain ⟨r, hr⟩ : ∃ r, decide (xo < yo) = r := ⟨_, rfl⟩
  have hbl : Op.bytesLess xo yo = r := by rw [Go.Proofs.bytesLess_eq]; exact hr
  rw [hr]
  clear hd hr HL eo
  go_enter Tryz.func58, Tryz.ntmps58
  go_wp2_with fail
  go_ret
  exact ⟨rfl, HK⟩
 subst eo
 by_cases ea1 : xa1 = ya1
 case neg =>
  have hb : (xa1 == ya1) = false := beq_eq_false_iff_ne.2 ea1
  have hd : decide (stmLt ((xh1, xh2), xk, xo, (xa1, xa2), (xb1, xb2), xi) ((xh1, xh2), xk, xo, (ya1, ya2), (yb1, yb2), yi)) = decide (rolLt (xa1, xa2) (ya1, ya2)) := (stm_e ((xh1, xh2), xk, xo, (xa1, xa2), (xb1, xb2), xi) ((xh1, xh2), xk, xo, (ya1, ya2), (yb1, yb2), yi) rfl).trans ((st2_e (xk, xo, (xa1, xa2), (xb1, xb2), xi) (xk, xo, (ya1, ya2), (yb1, yb2), yi) rfl).trans ((st3_e (xo, (xa1, xa2), (xb1, xb2), xi) (xo, (ya1, ya2), (yb1, yb2), yi) rfl).trans (st4_n ((xa1, xa2), (xb1, xb2), xi) ((ya1, ya2), (yb1, yb2), yi) (fun h => ea1 (congrArg Prod.fst h)))))
  rw [hd]
  clear hd ea1
  obtain ⟨r, hr⟩ : ∃ r, decide (rolLt (xa1, xa2) (ya1, ya2)) = r := ⟨_, rfl⟩
  have HL1 : Hid (∀ W : World, Calls Tryz.prog 47 #[.agg #[.string ⟨xa1.toArray⟩, .string ⟨xa2.toArray⟩], .agg #[.string ⟨ya1.toArray⟩, .string ⟨ya2.toArray⟩]] W fun e W' => e = .returned (.bool r) ∧ Hid (Keeps (fun _ => False) W W')) := fun W => by rw [← hr]; exact HL.out W _ _ _ _
  rw [hr]
  clear hr HL
  go_enter Tryz.func58, Tryz.ntmps58
  go_wp2_with fail
  refine (HL1.out _).mono ?_
  rintro e w1 ⟨rfl, h1⟩
  have HE : Hid (Keeps (fun _ => False) W w1) := HK.out.trans h1.out
  clear HL1 h1 HK
  go_wp2_with fail
  go_ret
  exact ⟨rfl, HE⟩
 subst ea1
 by_cases ea2 : xa2 = ya2
 case neg =>
  have hb : (xa2 == ya2) = false := beq_eq_false_iff_ne.2 ea2
  have hd : decide (stmLt ((xh1, xh2), xk, xo, (xa1, xa2), (xb1, xb2), xi) ((xh1, xh2), xk, xo, (xa1, ya2), (yb1, yb2), yi)) = decide (rolLt (xa1, xa2) (xa1, ya2)) := (stm_e ((xh1, xh2), xk, xo, (xa1, xa2), (xb1, xb2), xi) ((xh1, xh2), xk, xo, (xa1, ya2), (yb1, yb2), yi) rfl).trans ((st2_e (xk, xo, (xa1, xa2), (xb1, xb2), xi) (xk, xo, (xa1, ya2), (yb1, yb2), yi) rfl).trans ((st3_e (xo, (xa1, xa2), (xb1, xb2), xi) (xo, (xa1, ya2), (yb1, yb2), yi) rfl).trans (st4_n ((xa1, xa2), (xb1, xb2), xi) ((xa1, ya2), (yb1, yb2), yi) (fun h => ea2 (congrArg Prod.snd h)))))
  rw [hd]
  clear hd ea2
  obtain ⟨r, hr⟩ : ∃ r, decide (rolLt (xa1, xa2) (xa1, ya2)) = r := ⟨_, rfl⟩
  have HL1 : Hid (∀ W : World, Calls Tryz.prog 47 #[.agg #[.string ⟨xa1.toArray⟩, .string ⟨xa2.toArray⟩], .agg #[.string ⟨xa1.toArray⟩, .string ⟨ya2.toArray⟩]] W fun e W' => e = .returned (.bool r) ∧ Hid (Keeps (fun _ => False) W W')) := fun W => by rw [← hr]; exact HL.out W _ _ _ _
  rw [hr]
  clear hr HL
  go_enter Tryz.func58, Tryz.ntmps58
  go_wp2_with fail
  refine (HL1.out _).mono ?_
  rintro e w1 ⟨rfl, h1⟩
  have HE : Hid (Keeps (fun _ => False) W w1) := HK.out.trans h1.out
  clear HL1 h1 HK
  go_wp2_with fail
  go_ret
  exact ⟨rfl, HE⟩
 subst ea2
 by_cases eb1 : xb1 = yb1
 case neg =>
  have hb : (xb1 == yb1) = false := beq_eq_false_iff_ne.2 eb1
  have hd : decide (stmLt ((xh1, xh2), xk, xo, (xa1, xa2), (xb1, xb2), xi) ((xh1, xh2), xk, xo, (xa1, xa2), (yb1, yb2), yi)) = decide (rolLt (xb1, xb2) (yb1, yb2)) := (stm_e ((xh1, xh2), xk, xo, (xa1, xa2), (xb1, xb2), xi) ((xh1, xh2), xk, xo, (xa1, xa2), (yb1, yb2), yi) rfl).trans ((st2_e (xk, xo, (xa1, xa2), (xb1, xb2), xi) (xk, xo, (xa1, xa2), (yb1, yb2), yi) rfl).trans ((st3_e (xo, (xa1, xa2), (xb1, xb2), xi) (xo, (xa1, xa2), (yb1, yb2), yi) rfl).trans ((st4_e ((xa1, xa2), (xb1, xb2), xi) ((xa1, xa2), (yb1, yb2), yi) rfl).trans (st5_n ((xb1, xb2), xi) ((yb1, yb2), yi) (fun h => eb1 (congrArg Prod.fst h))))))
  rw [hd]
  clear hd eb1
  obtain ⟨r, hr⟩ : ∃ r, decide (rolLt (xb1, xb2) (yb1, yb2)) = r := ⟨_, rfl⟩
  have HL1 : Hid (∀ W : World, Calls Tryz.prog 47 #[.agg #[.string ⟨xb1.toArray⟩, .string ⟨xb2.toArray⟩], .agg #[.string ⟨yb1.toArray⟩, .string ⟨yb2.toArray⟩]] W fun e W' => e = .returned (.bool r) ∧ Hid (Keeps (fun _ => False) W W')) := fun W => by rw [← hr]; exact HL.out W _ _ _ _
  rw [hr]
  clear hr HL
  go_enter Tryz.func58, Tryz.ntmps58
  go_wp2_with fail
  refine (HL1.out _).mono ?_
  rintro e w1 ⟨rfl, h1⟩
  have HE : Hid (Keeps (fun _ => False) W w1) := HK.out.trans h1.out
  clear HL1 h1 HK
  go_wp2_with fail
  go_ret
  exact ⟨rfl, HE⟩
 subst eb1
 by_cases eb2 : xb2 = yb2
 case neg =>
  have hb : (xb2 == yb2) = false := beq_eq_false_iff_ne.2 eb2
  have hd : decide (stmLt ((xh1, xh2), xk, xo, (xa1, xa2), (xb1, xb2), xi) ((xh1, xh2), xk, xo, (xa1, xa2), (xb1, yb2), yi)) = decide (rolLt (xb1, xb2) (xb1, yb2)) := (stm_e ((xh1, xh2), xk, xo, (xa1, xa2), (xb1, xb2), xi) ((xh1, xh2), xk, xo, (xa1, xa2), (xb1, yb2), yi) rfl).trans ((st2_e (xk, xo, (xa1, xa2), (xb1, xb2), xi) (xk, xo, (xa1, xa2), (xb1, yb2), yi) rfl).trans ((st3_e (xo, (xa1, xa2), (xb1, xb2), xi) (xo, (xa1, xa2), (xb1, yb2), yi) rfl).trans ((st4_e ((xa1, xa2), (xb1, xb2), xi) ((xa1, xa2), (xb1, yb2), yi) rfl).trans (st5_n ((xb1, xb2), xi) ((xb1, yb2), yi) (fun h => eb2 (congrArg Prod.snd h))))))
  rw [hd]
  clear hd eb2
  obtain ⟨r, hr⟩ : ∃ r, decide (rolLt (xb1, xb2) (xb1, yb2)) = r := ⟨_, rfl⟩
  have HL1 : Hid (∀ W : World, Calls Tryz.prog 47 #[.agg #[.string ⟨xb1.toArray⟩, .string ⟨xb2.toArray⟩], .agg #[.string ⟨xb1.toArray⟩, .string ⟨yb2.toArray⟩]] W fun e W' => e = .returned (.bool r) ∧ Hid (Keeps (fun _ => False) W W')) := fun W => by rw [← hr]; exact HL.out W _ _ _ _
  rw [hr]
  clear hr HL
  go_enter Tryz.func58, Tryz.ntmps58
  go_wp2_with fail
  refine (HL1.out _).mono ?_
  rintro e w1 ⟨rfl, h1⟩
  have HE : Hid (Keeps (fun _ => False) W w1) := HK.out.trans h1.out
  clear HL1 h1 HK
  go_wp2_with fail
  go_ret
  exact ⟨rfl, HE⟩
 subst eb2
 have hd : decide (stmLt ((xh1, xh2), xk, xo, (xa1, xa2), (xb1, xb2), xi) ((xh1, xh2), xk, xo, (xa1, xa2), (xb1, xb2), yi)) = decide (xi < yi) := (stm_e ((xh1, xh2), xk, xo, (xa1, xa2), (xb1, xb2), xi) ((xh1, xh2), xk, xo, (xa1, xa2), (xb1, xb2), yi) rfl).trans ((st2_e (xk, xo, (xa1, xa2), (xb1, xb2), xi) (xk, xo, (xa1, xa2), (xb1, xb2), yi) rfl).trans ((st3_e (xo, (xa1, xa2), (xb1, xb2), xi) (xo, (xa1, xa2), (xb1, xb2), yi) rfl).trans ((st4_e ((xa1, xa2), (xb1, xb2), xi) ((xa1, xa2), (xb1, xb2), yi) rfl).trans (st5_e ((xb1, xb2), xi) ((xb1, xb2), yi) rfl))))
 rw [hd]
 obtain ⟨r, hr⟩ : ∃ r, decide (xi < yi) = r := ⟨_, rfl⟩
 have hbl : Op.bytesLess xi yi = r := by rw [Go.Proofs.bytesLess_eq]; exact hr
 rw [hr]
 clear hd hr HL
 go_enter Tryz.func58, Tryz.ntmps58
 go_wp2_with fail
 go_ret
 exact ⟨rfl, HK⟩
end
end Go.Proofs.YtcdfpnlaklaafaaGreat
/-
  Rows of statements in memory.
-/
set_option linter.unusedVariables false
set_option linter.unusedSimpArgs false
set_option linter.unnecessarySimpa false
namespace Go.Proofs.YtcdfpnlaklaafaaGreat
open Go.ChangeShapes Go.WideShapes Go.ChangeAt Go.RowKit Go.Deep
/-- A statement's nine cells, from a place on. -/
def Nine (w : World) (g o : Nat) (s : Stm) : Prop :=
  w.cell? ⟨g, o, none⟩ = some (.int .i64 s.2.1) ∧ w.cell? ⟨g, o + 1, none⟩ = some (.string ⟨s.1.1.toArray⟩) ∧ w.cell? ⟨g, o + 2, none⟩ = some (.string ⟨s.1.2.toArray⟩) ∧ w.cell? ⟨g, o + 3, none⟩ = some (.string ⟨s.2.2.1.toArray⟩) ∧ w.cell? ⟨g, o + 4, none⟩ = some (.string ⟨s.2.2.2.1.1.toArray⟩) ∧ w.cell? ⟨g, o + 5, none⟩ = some (.string ⟨s.2.2.2.1.2.toArray⟩) ∧ w.cell? ⟨g, o + 6, none⟩ = some (.string ⟨s.2.2.2.2.1.1.toArray⟩) ∧ w.cell? ⟨g, o + 7, none⟩ = some (.string ⟨s.2.2.2.2.1.2.toArray⟩) ∧ w.cell? ⟨g, o + 8, none⟩ = some (.string ⟨s.2.2.2.2.2.toArray⟩)
theorem Nine.keeps {w w' : World} {g o : Nat} {s : Stm} (h : Nine w g o s) (hg : g < w.heap.size) {S : Nat → Prop} (hk : Keeps S w w') (hs : ¬ S g) : Nine w' g o s := by
  obtain ⟨h0, h1, h2, h3, h4, h5, h6, h7, h8⟩ := h
  have k : ∀ (j : Nat) (v : Value), w.cell? ⟨g, j, none⟩ = some v → w'.cell? ⟨g, j, none⟩ = some v := fun j v h => (hk.cell (p := ⟨g, j, none⟩) hg hs).trans h
  exact ⟨k _ _ h0, k _ _ h1, k _ _ h2, k _ _ h3, k _ _ h4, k _ _ h5, k _ _ h6, k _ _ h7, k _ _ h8⟩
/-- A slice that reads as statements. -/
def ReadsM (w : World) (v : Value) (l : List Stm) : Prop :=
  ∃ ao cap, v = .slice ao l.length cap ∧ l.length ≤ cap ∧ (0 < l.length → ∃ g off, ao = some ⟨g, off, none⟩ ∧ g < w.heap.size ∧ ∀ (j : Nat) (s : Stm), l[j]? = some s → Nine w g (off + j * 9) s)
theorem ReadsM.keeps {w w' : World} {v : Value} {l : List Stm} (h : ReadsM w v l) (hk : Keeps (fun _ => False) w w') : ReadsM w' v l := by
  obtain ⟨ao, cap, hv, hle, hr⟩ := h
  refine ⟨ao, cap, hv, hle, fun h0 => ?_⟩
  obtain ⟨g, off, h1, h2, h3⟩ := hr h0
  exact ⟨g, off, h1, Nat.lt_of_lt_of_le h2 hk.size, fun j x hj => (h3 j x hj).keeps h2 hk (fun x => x)⟩
end Go.Proofs.YtcdfpnlaklaafaaGreat
/-
 Is a statement in a row? (the document's)
-/
set_option linter.unusedVariables false
set_option linter.unusedSimpArgs false
set_option linter.unnecessarySimpa false
namespace Go.Proofs.YtcdfpnlaklaafaaGreat
open Go.ChangeShapes Go.WideShapes Go.ChangeAt Go.RowKit Go.Deep
section
variable {W : World}
set_option maxRecDepth 100000
set_option maxHeartbeats 3200000
theorem mhas_spec {v : Value} {l : List Stm} (h : ReadsM W v l) (hl : l.length ≤ 1000000) (s : Stm) :
  Calls Tryz.prog 57 #[v, stmV s] W fun e W' => e = .returned (.bool (decide (s ∈ l))) ∧ Hid (Keeps (fun _ => False) W W') := by
 obtain ⟨ao, cap, rfl, hle, hr⟩ := h
 obtain ⟨n, hn⟩ : ∃ n, l.length = n := ⟨_, rfl⟩
 rw [hn] at hle hr hl ⊢
 have HR := Lib.hid hr
 have HN := Lib.hid hn
 have HX : Hid (∀ i y, l[i]? = some y → y = s → decide (s ∈ l) = true) := fun i y hy e => decide_eq_true (by rw [← e]; exact List.mem_of_getElem? hy)
 have HO : Hid (s ∉ l.take n → decide (s ∈ l) = false) := fun h => decide_eq_false (by rw [← hn, List.take_length] at h; exact h)
 obtain ⟨res, hres⟩ : ∃ r, decide (s ∈ l) = r := ⟨_, rfl⟩
 rw [hres] at HX HO ⊢
 clear hr hn hres
 obtain ⟨⟨sh1, sh2⟩, sk, so, ⟨sa1, sa2⟩, ⟨sb1, sb2⟩, si⟩ := s
 have HK0 : Hid (Keeps (fun _ => False) W (W.alloc (.cells #[.int .i64 sk, .string ⟨sh1.toArray⟩, .string ⟨sh2.toArray⟩, .string ⟨so.toArray⟩, .string ⟨sa1.toArray⟩, .string ⟨sa2.toArray⟩, .string ⟨sb1.toArray⟩, .string ⟨sb2.toArray⟩, .string ⟨si.toArray⟩] 44))) := (Keeps.refl _ _).alloc _
 have hal := (MapKept.heap_alloc W (.cells #[.int .i64 sk, .string ⟨sh1.toArray⟩, .string ⟨sh2.toArray⟩, .string ⟨so.toArray⟩, .string ⟨sa1.toArray⟩, .string ⟨sa2.toArray⟩, .string ⟨sb1.toArray⟩, .string ⟨sb2.toArray⟩, .string ⟨si.toArray⟩] 44)).1
 obtain ⟨WA, hWA⟩ : ∃ WA, W.alloc (.cells #[.int .i64 sk, .string ⟨sh1.toArray⟩, .string ⟨sh2.toArray⟩, .string ⟨so.toArray⟩, .string ⟨sa1.toArray⟩, .string ⟨sa2.toArray⟩, .string ⟨sb1.toArray⟩, .string ⟨sb2.toArray⟩, .string ⟨si.toArray⟩] 44) = WA := ⟨_, rfl⟩
 rw [hWA] at HK0 hal
 have HA := Lib.hid hal
 clear hal
 unfold stmV
 go_enter Tryz.func57, Tryz.ntmps57
 go_upto_region 1 with fail
 clear hWA
 go_wp2_with fail
 go_loopg [9] n (fun g t wx => ∃ i : Nat, i ≤ n ∧ g = n - i ∧ t = .int .i64 i ∧ Hid (((sh1, sh2), sk, so, (sa1, sa2), (sb1, sb2), si) ∉ l.take i ∧ Keeps (fun _ => False) WA wx))
 case atStart => exact ⟨0, Nat.zero_le _, rfl, rfl, by simp, Keeps.refl _ _⟩
 case round =>
  obtain ⟨i, hi, rfl, rfl, HI⟩ := hrel
  by_cases hlt : i < n
  ·have hiI : (i : Int) < (n : Int) := by omega
   have hwi : IntKind.i64.wrap ((i : Int) + 1) = (i : Int) + 1 := IntWalk.i64_in _ (by omega)
   obtain ⟨y, hy⟩ : ∃ y, l[i]? = some y := ⟨_, List.getElem?_eq_getElem (by rw [HN.out]; exact hlt)⟩
   obtain ⟨g, off, rfl, hg, hcc⟩ := HR.out (by omega)
   have hicap : i < cap := by omega
   have hkw : Keeps (fun _ => False) W wr := HK0.out.trans HI.out.2
   have hnine := (hcc i y hy).keeps hg hkw (fun x => x)
   have hA := (HI.out.2.block _ (lt_of_heap HA.out) (fun x => x)).trans HA.out
   obtain ⟨p0, p1, p2, p3, p4, p5, p6, p7, p8⟩ := cells9 hA
   have HY := Lib.hid hy
   have l1 := lt_of_heap hA
   have hne : ¬ wr.heap.size = W.heap.size := by omega
   have hne2 : ¬ W.heap.size = wr.heap.size := by omega
   have HAL : Hid (∀ o : Obj, Keeps (fun _ => False) WA (wr.alloc o)) := fun o => HI.out.2.trans ((Keeps.refl _ _).alloc _)
   obtain ⟨⟨yh1, yh2⟩, yk, yo, ⟨ya1, ya2⟩, ⟨yb1, yb2⟩, yi⟩ := y
   obtain ⟨q0, q1, q2, q3, q4, q5, q6, q7, q8⟩ := hnine
   simp only at q0 q1 q2 q3 q4 q5 q6 q7 q8
   have HKW : Hid (∀ o : Obj, Keeps (fun _ => False) W (wr.alloc o)) := fun o => hkw.trans ((Keeps.refl _ _).alloc _)
   by_cases e : ((yh1, yh2), yk, yo, (ya1, ya2), (yb1, yb2), yi) = ((sh1, sh2), sk, so, (sa1, sa2), (sb1, sb2), si)
   ·have hr1 : res = true := HX.out i _ HY.out e
    subst hr1
    simp only [Prod.mk.injEq] at e
    obtain ⟨⟨rfl, rfl⟩, rfl, rfl, ⟨rfl, rfl⟩, ⟨rfl, rfl⟩, rfl⟩ := e
    clear HX HO HY HI HAL hA hkw hcc hy
    go_wp2_with fail
    go_ret
    exact ⟨rfl, HKW.out _⟩
   ·have HNX : Hid (((sh1, sh2), sk, so, (sa1, sa2), (sb1, sb2), si) ∉ l.take (i + 1)) := by
     show ¬ _
     rw [List.take_add_one, HY.out, List.mem_append]
     rintro (q | q)
     ·exact HI.out.1 q
     ·simp at q
      exact e (by simp [q])
    have hd : yk ≠ sk ∨ yh1 ≠ sh1 ∨ yh2 ≠ sh2 ∨ yo ≠ so ∨ ya1 ≠ sa1 ∨ ya2 ≠ sa2 ∨ yb1 ≠ sb1 ∨ yb2 ≠ sb2 ∨ yi ≠ si := by
     apply Classical.byContradiction
     intro hc
     simp only [not_or, Classical.not_not] at hc
     obtain ⟨rfl, rfl, rfl, rfl, rfl, rfl, rfl, rfl, rfl⟩ := hc
     exact e rfl
    clear e HI HY HKW hA hkw hcc hy
    rcases hd with hd | hd | hd | hd | hd | hd | hd | hd | hd
    all_goals
     first | (have hb := beq_eq_false_iff_ne.2 hd)
     clear hd
     go_wp2_with fail
     go_roundg (n - (i + 1))
     case measure => omega
     case rel => exact ⟨i + 1, by omega, rfl, by go_num, HNX.out, HAL.out _⟩
  ·obtain rfl : i = n := by omega
   have hiI : ¬ (i : Int) < (i : Int) := by omega
   have hr1 : res = false := HO.out HI.out.1
   subst hr1
   have HE : Hid (Keeps (fun _ => False) W wr) := HK0.out.trans HI.out.2
   clear HI HX HO
   go_wp2_with fail
   go_ret
   exact ⟨rfl, HE⟩
end
end Go.Proofs.YtcdfpnlaklaafaaGreat
/-
 Rows of roles in memory; the document's Has and Same of them.
-/
set_option linter.unusedVariables false
set_option linter.unusedSimpArgs false
set_option linter.unnecessarySimpa false
namespace Go.Proofs.YtcdfpnlaklaafaaGreat
open Go.ChangeShapes Go.WideShapes Go.ChangeAt Go.RowKit Go.Deep
/-- A slice that reads as roles. -/
def ReadsR (w : World) (v : Value) (l : List Rol) : Prop :=
 ∃ ao cap, v = .slice ao l.length cap ∧ l.length ≤ cap ∧ (0 < l.length → ∃ g off, ao = some ⟨g, off, none⟩ ∧ g < w.heap.size ∧ ∀ (j : Nat) (s : Rol), l[j]? = some s → w.cell? ⟨g, off + j * 2, none⟩ = some (.string ⟨s.1.toArray⟩) ∧ w.cell? ⟨g, off + j * 2 + 1, none⟩ = some (.string ⟨s.2.toArray⟩))
theorem ReadsR.keeps {w w' : World} {v : Value} {l : List Rol} (h : ReadsR w v l) (hk : Keeps (fun _ => False) w w') : ReadsR w' v l := by
 obtain ⟨ao, cap, hv, hle, hr⟩ := h
 refine ⟨ao, cap, hv, hle, fun h0 => ?_⟩
 obtain ⟨g, off, h1, h2, h3⟩ := hr h0
 exact ⟨g, off, h1, Nat.lt_of_lt_of_le h2 hk.size, fun j x hj => ⟨(hk.cell (p := ⟨g, off + j * 2, none⟩) h2 (fun x => x)).trans (h3 j x hj).1, (hk.cell (p := ⟨g, off + j * 2 + 1, none⟩) h2 (fun x => x)).trans (h3 j x hj).2⟩⟩
set_option maxRecDepth 100000
set_option maxHeartbeats 3200000
theorem rsame_spec {w : World} {u v : Value} {a b : List Rol} (hu : ReadsR w u a) (hv : ReadsR w v b) (ha : a.length ≤ 1000000) (hab : a = b) :
  Calls Tryz.prog 37 #[u, v] w fun e w' => e = .returned (.bool true) ∧ ∃ nq, w' = w.drewN nq := by
 subst hab
 obtain ⟨au, cu, rfl, hcu0, hru⟩ := hu
 obtain ⟨av, cv, rfl, hcv0, hrv⟩ := hv
 obtain ⟨n, hn⟩ : ∃ n, a.length = n := ⟨_, rfl⟩
 rw [hn] at hcu0 hcv0 hru hrv ha ⊢
 have HU := Lib.hid hru; have HV := Lib.hid hrv; have HN := Lib.hid hn
 clear hru hrv hn
 go_enter Tryz.func37, Tryz.ntmps37
 go_wp2_with fail
 go_loopg [13] n (fun g s wr => ∃ k nq : Nat, k ≤ n ∧ g = n - k ∧ s = .int .i64 k ∧ wr = w.drewN nq)
 case atStart => exact ⟨0, 0, Nat.zero_le _, rfl, rfl, rfl⟩
 case round =>
  obtain ⟨k, nq, hk, rfl, rfl, rfl⟩ := hrel
  by_cases hlt : k < n
  ·obtain ⟨gu, ou, rfl, hgu, hcu⟩ := HU.out (by omega)
   obtain ⟨gv, ov, rfl, hgv, hcv⟩ := HV.out (by omega)
   obtain ⟨x, hx⟩ : ∃ x, a[k]? = some x := ⟨_, List.getElem?_eq_getElem (by rw [HN.out]; exact hlt)⟩
   have n1 := hcu k x hx
   have n2 := hcv k x hx
   obtain ⟨y1, y2⟩ := x
   obtain ⟨q0, q1⟩ := n1
   obtain ⟨p0, p1⟩ := n2
   simp only at q0 q1 p0 p1
   have hkI : (k : Int) < (n : Int) := by omega
   have hku : k < cu := by omega
   have hkv : k < cv := by omega
   clear hcu hcv hx
   go_wp2_with fail
   go_quiet (fail)
   go_wp2_with fail
   go_roundg (n - (k + 1))
   case measure => omega
   case rel => exact ⟨k + 1, _, by omega, rfl, by go_num, rfl⟩
  ·obtain rfl : k = n := by omega
   have hkI : ¬ (k : Int) < (k : Int) := by omega
   go_wp2_with fail
   go_ret
   exact ⟨rfl, _, rfl⟩
theorem rhas_spec {W : World} {v : Value} {l : List Rol} (h : ReadsR W v l) (hl : l.length ≤ 1000000) (s : Rol) :
  Calls Tryz.prog 59 #[v, rolV2 s] W fun e W' => e = .returned (.bool (decide (s ∈ l))) ∧ Hid (Keeps (fun _ => False) W W') := by
 obtain ⟨ao, cap, rfl, hle, hr⟩ := h
 obtain ⟨n, hn⟩ : ∃ n, l.length = n := ⟨_, rfl⟩
 rw [hn] at hle hr hl ⊢
 have HR := Lib.hid hr
 have HN := Lib.hid hn
 have HX : Hid (∀ (i : Nat) (y : Rol), l[i]? = some y → y = s → decide (s ∈ l) = true) := fun i y hy e => decide_eq_true (by rw [← e]; exact List.mem_of_getElem? hy)
 have HO : Hid (s ∉ l.take n → decide (s ∈ l) = false) := fun h => decide_eq_false (by rw [← hn, List.take_length] at h; exact h)
 obtain ⟨res, hres⟩ : ∃ r, decide (s ∈ l) = r := ⟨_, rfl⟩
 rw [hres] at HX HO ⊢
 clear hr hn hres
 obtain ⟨s1, s2⟩ := s
 obtain ⟨WA, hWA⟩ : ∃ WA, W.alloc (.cells #[.string ⟨s1.toArray⟩, .string ⟨s2.toArray⟩] 40) = WA := ⟨_, rfl⟩
 have hal := (MapKept.heap_alloc W (.cells #[.string ⟨s1.toArray⟩, .string ⟨s2.toArray⟩] 40)).1
 have HK0 : Hid (Keeps (fun _ => False) W WA) := by rw [← hWA]; exact (Keeps.refl _ _).alloc _
 rw [hWA] at hal
 have HA := Lib.hid hal
 clear hal
 unfold rolV2
 go_enter Tryz.func59, Tryz.ntmps59
 go_upto_region 1 with fail
 clear hWA
 go_wp2_with fail
 go_loopg [9] n (fun g t wx => ∃ i : Nat, i ≤ n ∧ g = n - i ∧ t = .int .i64 i ∧ Hid (((s1, s2) : Rol) ∉ l.take i ∧ Keeps (fun _ => False) WA wx))
 case atStart => exact ⟨0, Nat.zero_le _, rfl, rfl, by simp, Keeps.refl _ _⟩
 case round =>
  obtain ⟨i, hi, rfl, rfl, HI⟩ := hrel
  by_cases hlt : i < n
  ·have hiI : (i : Int) < (n : Int) := by omega
   have hwi : IntKind.i64.wrap ((i : Int) + 1) = (i : Int) + 1 := IntWalk.i64_in _ (by omega)
   obtain ⟨y, hy⟩ : ∃ y, l[i]? = some y := ⟨_, List.getElem?_eq_getElem (by rw [HN.out]; exact hlt)⟩
   obtain ⟨g, off, rfl, hg, hcc⟩ := HR.out (by omega)
   have hicap : i < cap := by omega
   have hkw : Keeps (fun _ => False) W wr := HK0.out.trans HI.out.2
   have hA := (HI.out.2.block _ (lt_of_heap HA.out) (fun x => x)).trans HA.out
   have p0 := cell_of_heap hA 0
   have p1 := cell_of_heap hA 1
   simp only [List.getElem?_toArray, List.getElem?_cons_zero, List.getElem?_cons_succ] at p0 p1
   have HY := Lib.hid hy
   have l1 := lt_of_heap hA
   have hne : ¬ wr.heap.size = W.heap.size := by omega
   have hne2 : ¬ W.heap.size = wr.heap.size := by omega
   have HAL : Hid (∀ o : Obj, Keeps (fun _ => False) WA (wr.alloc o)) := fun o => HI.out.2.trans ((Keeps.refl _ _).alloc _)
   have HKW : Hid (∀ o : Obj, Keeps (fun _ => False) W (wr.alloc o)) := fun o => hkw.trans ((Keeps.refl _ _).alloc _)
   have q0 := (hkw.cell (p := ⟨g, off + i * 2, none⟩) hg (fun x => x)).trans (hcc i y hy).1
   have q1 := (hkw.cell (p := ⟨g, off + i * 2 + 1, none⟩) hg (fun x => x)).trans (hcc i y hy).2
   obtain ⟨y1, y2⟩ := y
   simp only at q0 q1
   by_cases e : ((y1, y2) : Rol) = (s1, s2)
   ·have hr1 : res = true := HX.out i _ HY.out e
    subst hr1
    simp only [Prod.mk.injEq] at e
    obtain ⟨rfl, rfl⟩ := e
    clear HX HO HY HI HAL hA hkw hcc hy
    go_wp2_with fail
    go_ret
    exact ⟨rfl, HKW.out _⟩
   ·have HNX : Hid (((s1, s2) : Rol) ∉ l.take (i + 1)) := by
     show ¬ _
     rw [List.take_add_one, HY.out, List.mem_append]
     rintro (q | q)
     ·exact HI.out.1 q
     ·simp at q
      exact e (by simp [q])
    have hd : y1 ≠ s1 ∨ y2 ≠ s2 := by
     apply Classical.byContradiction
     intro hc
     simp only [not_or, Classical.not_not] at hc
     obtain ⟨rfl, rfl⟩ := hc
     exact e rfl
    clear e HI HY HKW hA hkw hcc hy
    rcases hd with hd | hd
    all_goals
     have hb := beq_eq_false_iff_ne.2 hd
     clear hd
     go_wp2_with fail
     go_roundg (n - (i + 1))
     case measure => omega
     case rel => exact ⟨i + 1, by omega, rfl, by go_num, HNX.out, HAL.out _⟩
  ·obtain rfl : i = n := by omega
   have hiI : ¬ (i : Int) < (i : Int) := by omega
   have hr1 : res = false := HO.out HI.out.1
   subst hr1
   have HE : Hid (Keeps (fun _ => False) W wr) := HK0.out.trans HI.out.2
   clear HI HX HO
   go_wp2_with fail
   go_ret
   exact ⟨rfl, HE⟩
end Go.Proofs.YtcdfpnlaklaafaaGreat
