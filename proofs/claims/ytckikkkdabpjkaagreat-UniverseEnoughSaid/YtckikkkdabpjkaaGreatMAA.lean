/-
 A statement's normal form: the program's and the document's.
-/
import Derived.Test.YtckikkkdabpjkaaGreatStmOrder
import Derived.Test.YtckikkkdabpjkaaGreatMA
import Derived.Test.YtckikkkdabpjkaaGreatKitSq
set_option linter.unusedVariables false
set_option linter.unusedSimpArgs false
set_option linter.unnecessarySimpa false
namespace Go.Proofs.YtckikkkdabpjkaaGreat
open Go.ChangeShapes Go.WideShapes Go.ChangeAt Go.RowKit Go.Deep
/-- A statement's value. -/
def stmV (s : Stm) : Value := .agg #[.int .i64 s.2.1, .string ⟨s.1.1.toArray⟩, .string ⟨s.1.2.toArray⟩, .string ⟨s.2.2.1.toArray⟩, .string ⟨s.2.2.2.1.1.toArray⟩, .string ⟨s.2.2.2.1.2.toArray⟩, .string ⟨s.2.2.2.2.1.1.toArray⟩, .string ⟨s.2.2.2.2.1.2.toArray⟩, .string ⟨s.2.2.2.2.2.toArray⟩]
section
variable {W : World} {T : TypeId}
theorem cells9 {B : Nat} {u0 u1 u2 u3 u4 u5 u6 u7 u8 : Value} (h : W.heap[B]? = some (.cells #[u0, u1, u2, u3, u4, u5, u6, u7, u8] T)) : W.cell? ⟨B, 0, none⟩ = some u0 ∧ W.cell? ⟨B, 1, none⟩ = some u1 ∧ W.cell? ⟨B, 2, none⟩ = some u2 ∧ W.cell? ⟨B, 3, none⟩ = some u3 ∧ W.cell? ⟨B, 4, none⟩ = some u4 ∧ W.cell? ⟨B, 5, none⟩ = some u5 ∧ W.cell? ⟨B, 6, none⟩ = some u6 ∧ W.cell? ⟨B, 7, none⟩ = some u7 ∧ W.cell? ⟨B, 8, none⟩ = some u8 := by
 refine ⟨?_, ?_, ?_, ?_, ?_, ?_, ?_, ?_, ?_⟩ <;> (rw [cell_of_heap h]; rfl)
set_option maxRecDepth 100000
set_option maxHeartbeats 3200000
end
end Go.Proofs.YtckikkkdabpjkaaGreat
/-
 The program's order of statements.
-/
set_option linter.unusedVariables false
set_option linter.unusedSimpArgs false
set_option linter.unnecessarySimpa false
namespace Go.Proofs.YtckikkkdabpjkaaGreat
open Go.ChangeShapes Go.WideShapes Go.ChangeAt Go.RowKit Go.Deep
theorem orI_cons (x : Int) (l : List Int) : orI (x :: l) = if x = 0 then orI l else x := rfl
theorem orI_one (x : Int) : orI [x] = x := by
 rw [orI_cons]
 split
 ·rename_i h; exact h.symm
 ·rfl
theorem compareI (x y : Int) : Lib.compareInt x y = cmpO intLt x y := by
 unfold Lib.compareInt cmpO intLt
 rfl
theorem orderS (a b : Stm) : orI [cmpO rolLt a.1 b.1, cmpO intLt a.2.1 b.2.1, cmpO (fun x y : Str => x < y) a.2.2.1 b.2.2.1, cmpO rolLt a.2.2.2.1 b.2.2.2.1, cmpO rolLt a.2.2.2.2.1 b.2.2.2.2.1, cmpO (fun x y : Str => x < y) a.2.2.2.2.2 b.2.2.2.2.2] = cmpO stmLt a b := by
 rw [show cmpO stmLt a b = _ from cmpO_lex rolO a b, orI_cons]
 congr 1
 rw [show cmpO st2 a.2 b.2 = _ from cmpO_lex intO a.2 b.2, orI_cons]
 congr 1
 rw [show cmpO st3 a.2.2 b.2.2 = _ from cmpO_lex strO a.2.2 b.2.2, orI_cons]
 congr 1
 rw [show cmpO st4 a.2.2.2 b.2.2.2 = _ from cmpO_lex rolO a.2.2.2 b.2.2.2, orI_cons]
 congr 1
 rw [show cmpO st5 a.2.2.2.2 b.2.2.2.2 = _ from cmpO_lex rolO a.2.2.2.2 b.2.2.2.2, orI_cons, orI_one]
section
variable {W : World}
set_option maxRecDepth 100000
set_option maxHeartbeats 6400000
theorem sOrder_grw (a b : Stm) : Calls Tryz.prog 159 #[stmV a, stmV b] W fun e W' => e = .returned (.int .i64 (cmpO stmLt a b)) ∧ Hid (Grw W W') := by
 rw [← orderS]
 obtain ⟨⟨xh1, xh2⟩, xk, xo, ⟨xa1, xa2⟩, ⟨xb1, xb2⟩, xi⟩ := a
 obtain ⟨⟨yh1, yh2⟩, yk, yo, ⟨ya1, ya2⟩, ⟨yb1, yb2⟩, yi⟩ := b
 simp only
 have H1 : Hid (∀ W : World, Calls Tryz.prog 185 #[(Value.agg #[Value.string ⟨xh1.toArray⟩, Value.string ⟨xh2.toArray⟩]), (Value.agg #[Value.string ⟨yh1.toArray⟩, Value.string ⟨yh2.toArray⟩])] W fun e W' => e = .returned (.int .i64 (cmpO rolLt (xh1, xh2) (yh1, yh2))) ∧ Hid (Grw W W')) := fun W => sorder_grw (xh1, xh2) (yh1, yh2)
 have H4 : Hid (∀ W : World, Calls Tryz.prog 185 #[(Value.agg #[Value.string ⟨xa1.toArray⟩, Value.string ⟨xa2.toArray⟩]), (Value.agg #[Value.string ⟨ya1.toArray⟩, Value.string ⟨ya2.toArray⟩])] W fun e W' => e = .returned (.int .i64 (cmpO rolLt (xa1, xa2) (ya1, ya2))) ∧ Hid (Grw W W')) := fun W => sorder_grw (xa1, xa2) (ya1, ya2)
 have H5 : Hid (∀ W : World, Calls Tryz.prog 185 #[(Value.agg #[Value.string ⟨xb1.toArray⟩, Value.string ⟨xb2.toArray⟩]), (Value.agg #[Value.string ⟨yb1.toArray⟩, Value.string ⟨yb2.toArray⟩])] W fun e W' => e = .returned (.int .i64 (cmpO rolLt (xb1, xb2) (yb1, yb2))) ∧ Hid (Grw W W')) := fun W => sorder_grw (xb1, xb2) (yb1, yb2)
 have H3 : Hid (∀ W : World, Calls Tryz.prog 187 #[.string ⟨xo.toArray⟩, .string ⟨yo.toArray⟩] W fun e W' => e = .returned (.int .i64 (cmpO (fun x y : Str => x < y) xo yo)) ∧ W = W') := fun W => strcmp_spec xo yo
 have H6 : Hid (∀ W : World, Calls Tryz.prog 187 #[.string ⟨xi.toArray⟩, .string ⟨yi.toArray⟩] W fun e W' => e = .returned (.int .i64 (cmpO (fun x y : Str => x < y) xi yi)) ∧ W = W') := fun W => strcmp_spec xi yi
 have H2 : Hid (∀ W : World, Calls Tryz.prog 186 #[.int .i64 xk, .int .i64 yk] W fun e W' => e = .returned (.int .i64 (cmpO intLt xk yk)) ∧ W = W') := fun W => (shelfcmp_Compare_int xk yk W).mono fun e W' h => ⟨by rw [h.1, compareI], h.2.symm⟩
 obtain ⟨z1, hz1⟩ : ∃ z, cmpO rolLt (xh1, xh2) (yh1, yh2) = z := ⟨_, rfl⟩
 rw [hz1] at H1 ⊢
 clear hz1
 obtain ⟨z2, hz2⟩ : ∃ z, cmpO intLt xk yk = z := ⟨_, rfl⟩
 rw [hz2] at H2 ⊢
 clear hz2
 obtain ⟨z3, hz3⟩ : ∃ z, cmpO (fun x y : Str => x < y) xo yo = z := ⟨_, rfl⟩
 rw [hz3] at H3 ⊢
 clear hz3
 obtain ⟨z4, hz4⟩ : ∃ z, cmpO rolLt (xa1, xa2) (ya1, ya2) = z := ⟨_, rfl⟩
 rw [hz4] at H4 ⊢
 clear hz4
 obtain ⟨z5, hz5⟩ : ∃ z, cmpO rolLt (xb1, xb2) (yb1, yb2) = z := ⟨_, rfl⟩
 rw [hz5] at H5 ⊢
 clear hz5
 obtain ⟨z6, hz6⟩ : ∃ z, cmpO (fun x y : Str => x < y) xi yi = z := ⟨_, rfl⟩
 rw [hz6] at H6 ⊢
 clear hz6
 have HOR : Hid (∀ (W : World) (g : Nat), W.cell? ⟨g, 0, none⟩ = some (.int .i64 z1) → W.cell? ⟨g, 1, none⟩ = some (.int .i64 z2) → W.cell? ⟨g, 2, none⟩ = some (.int .i64 z3) → W.cell? ⟨g, 3, none⟩ = some (.int .i64 z4) → W.cell? ⟨g, 4, none⟩ = some (.int .i64 z5) → W.cell? ⟨g, 5, none⟩ = some (.int .i64 z6) → Calls Tryz.prog 184 #[.slice (some ⟨g, 0, none⟩) 6 6] W fun e W' => e = .returned (.int .i64 (orI [z1, z2, z3, z4, z5, z6])) ∧ W = W') := fun W g q0 q1 q2 q3 q4 q5 => cmpor_spec (n := 6) rfl (by omega) (fun j z hj => by
  match j, hj with
  | 0, hj => simp at hj; subst hj; exact q0
  | 1, hj => simp at hj; subst hj; exact q1
  | 2, hj => simp at hj; subst hj; exact q2
  | 3, hj => simp at hj; subst hj; exact q3
  | 4, hj => simp at hj; subst hj; exact q4
  | 5, hj => simp at hj; subst hj; exact q5
  | j + 6, hj => simp at hj)
 obtain ⟨r, hr⟩ : ∃ r, orI [z1, z2, z3, z4, z5, z6] = r := ⟨_, rfl⟩
 rw [hr] at HOR ⊢
 clear hr
 obtain ⟨WA, hWA⟩ : ∃ WA, W.alloc (bM xk xh1 xh2 xo xa1 xa2 xb1 xb2 xi) = WA := ⟨_, rfl⟩
 have hal := (MapKept.heap_alloc W (bM xk xh1 xh2 xo xa1 xa2 xb1 xb2 xi)).1
 have hkA : Grw W WA := by rw [← hWA]; exact (Grw.refl _).alloc _
 rw [hWA] at hal
 obtain ⟨WB, hWB⟩ : ∃ WB, WA.alloc (bM yk yh1 yh2 yo ya1 ya2 yb1 yb2 yi) = WB := ⟨_, rfl⟩
 have hal2 := (MapKept.heap_alloc WA (bM yk yh1 yh2 yo ya1 ya2 yb1 yb2 yi)).1
 have hkB : Grw WA WB := by rw [← hWB]; exact (Grw.refl _).alloc _
 rw [hWB] at hal2
 have halB := (hkB.block _ (lt_of_heap hal) (fun x => x)).trans hal
 obtain ⟨p0, p1, p2, p3, p4, p5, p6, p7, p8⟩ := cells9 halB
 obtain ⟨q0, q1, q2, q3, q4, q5, q6, q7, q8⟩ := cells9 hal2
 have HB0 : Hid (WB.cell? ⟨W.heap.size, 0, none⟩ = some (.int .i64 xk) ∧ WB.cell? ⟨W.heap.size, 1, none⟩ = some (.string ⟨xh1.toArray⟩) ∧ WB.cell? ⟨W.heap.size, 2, none⟩ = some (.string ⟨xh2.toArray⟩) ∧ WB.cell? ⟨W.heap.size, 3, none⟩ = some (.string ⟨xo.toArray⟩) ∧ WB.cell? ⟨W.heap.size, 4, none⟩ = some (.string ⟨xa1.toArray⟩) ∧ WB.cell? ⟨W.heap.size, 5, none⟩ = some (.string ⟨xa2.toArray⟩) ∧ WB.cell? ⟨W.heap.size, 6, none⟩ = some (.string ⟨xb1.toArray⟩) ∧ WB.cell? ⟨W.heap.size, 7, none⟩ = some (.string ⟨xb2.toArray⟩) ∧ WB.cell? ⟨W.heap.size, 8, none⟩ = some (.string ⟨xi.toArray⟩) ∧ WB.cell? ⟨WA.heap.size, 0, none⟩ = some (.int .i64 yk) ∧ WB.cell? ⟨WA.heap.size, 1, none⟩ = some (.string ⟨yh1.toArray⟩) ∧ WB.cell? ⟨WA.heap.size, 2, none⟩ = some (.string ⟨yh2.toArray⟩) ∧ WB.cell? ⟨WA.heap.size, 3, none⟩ = some (.string ⟨yo.toArray⟩) ∧ WB.cell? ⟨WA.heap.size, 4, none⟩ = some (.string ⟨ya1.toArray⟩) ∧ WB.cell? ⟨WA.heap.size, 5, none⟩ = some (.string ⟨ya2.toArray⟩) ∧ WB.cell? ⟨WA.heap.size, 6, none⟩ = some (.string ⟨yb1.toArray⟩) ∧ WB.cell? ⟨WA.heap.size, 7, none⟩ = some (.string ⟨yb2.toArray⟩) ∧ WB.cell? ⟨WA.heap.size, 8, none⟩ = some (.string ⟨yi.toArray⟩) ∧ Hid (Grw W WB ∧ W.heap.size < WB.heap.size ∧ WA.heap.size < WB.heap.size)) := ⟨p0, p1, p2, p3, p4, p5, p6, p7, p8, q0, q1, q2, q3, q4, q5, q6, q7, q8, hkA.trans hkB, lt_of_heap halB, lt_of_heap hal2⟩
 have KS : Hid (∀ W' W'' : World, (W'.cell? ⟨W.heap.size, 0, none⟩ = some (.int .i64 xk) ∧ W'.cell? ⟨W.heap.size, 1, none⟩ = some (.string ⟨xh1.toArray⟩) ∧ W'.cell? ⟨W.heap.size, 2, none⟩ = some (.string ⟨xh2.toArray⟩) ∧ W'.cell? ⟨W.heap.size, 3, none⟩ = some (.string ⟨xo.toArray⟩) ∧ W'.cell? ⟨W.heap.size, 4, none⟩ = some (.string ⟨xa1.toArray⟩) ∧ W'.cell? ⟨W.heap.size, 5, none⟩ = some (.string ⟨xa2.toArray⟩) ∧ W'.cell? ⟨W.heap.size, 6, none⟩ = some (.string ⟨xb1.toArray⟩) ∧ W'.cell? ⟨W.heap.size, 7, none⟩ = some (.string ⟨xb2.toArray⟩) ∧ W'.cell? ⟨W.heap.size, 8, none⟩ = some (.string ⟨xi.toArray⟩) ∧ W'.cell? ⟨WA.heap.size, 0, none⟩ = some (.int .i64 yk) ∧ W'.cell? ⟨WA.heap.size, 1, none⟩ = some (.string ⟨yh1.toArray⟩) ∧ W'.cell? ⟨WA.heap.size, 2, none⟩ = some (.string ⟨yh2.toArray⟩) ∧ W'.cell? ⟨WA.heap.size, 3, none⟩ = some (.string ⟨yo.toArray⟩) ∧ W'.cell? ⟨WA.heap.size, 4, none⟩ = some (.string ⟨ya1.toArray⟩) ∧ W'.cell? ⟨WA.heap.size, 5, none⟩ = some (.string ⟨ya2.toArray⟩) ∧ W'.cell? ⟨WA.heap.size, 6, none⟩ = some (.string ⟨yb1.toArray⟩) ∧ W'.cell? ⟨WA.heap.size, 7, none⟩ = some (.string ⟨yb2.toArray⟩) ∧ W'.cell? ⟨WA.heap.size, 8, none⟩ = some (.string ⟨yi.toArray⟩) ∧ Hid (Grw W W' ∧ W.heap.size < W'.heap.size ∧ WA.heap.size < W'.heap.size)) → Grw W' W'' → (W''.cell? ⟨W.heap.size, 0, none⟩ = some (.int .i64 xk) ∧ W''.cell? ⟨W.heap.size, 1, none⟩ = some (.string ⟨xh1.toArray⟩) ∧ W''.cell? ⟨W.heap.size, 2, none⟩ = some (.string ⟨xh2.toArray⟩) ∧ W''.cell? ⟨W.heap.size, 3, none⟩ = some (.string ⟨xo.toArray⟩) ∧ W''.cell? ⟨W.heap.size, 4, none⟩ = some (.string ⟨xa1.toArray⟩) ∧ W''.cell? ⟨W.heap.size, 5, none⟩ = some (.string ⟨xa2.toArray⟩) ∧ W''.cell? ⟨W.heap.size, 6, none⟩ = some (.string ⟨xb1.toArray⟩) ∧ W''.cell? ⟨W.heap.size, 7, none⟩ = some (.string ⟨xb2.toArray⟩) ∧ W''.cell? ⟨W.heap.size, 8, none⟩ = some (.string ⟨xi.toArray⟩) ∧ W''.cell? ⟨WA.heap.size, 0, none⟩ = some (.int .i64 yk) ∧ W''.cell? ⟨WA.heap.size, 1, none⟩ = some (.string ⟨yh1.toArray⟩) ∧ W''.cell? ⟨WA.heap.size, 2, none⟩ = some (.string ⟨yh2.toArray⟩) ∧ W''.cell? ⟨WA.heap.size, 3, none⟩ = some (.string ⟨yo.toArray⟩) ∧ W''.cell? ⟨WA.heap.size, 4, none⟩ = some (.string ⟨ya1.toArray⟩) ∧ W''.cell? ⟨WA.heap.size, 5, none⟩ = some (.string ⟨ya2.toArray⟩) ∧ W''.cell? ⟨WA.heap.size, 6, none⟩ = some (.string ⟨yb1.toArray⟩) ∧ W''.cell? ⟨WA.heap.size, 7, none⟩ = some (.string ⟨yb2.toArray⟩) ∧ W''.cell? ⟨WA.heap.size, 8, none⟩ = some (.string ⟨yi.toArray⟩) ∧ Hid (Grw W W'' ∧ W.heap.size < W''.heap.size ∧ WA.heap.size < W''.heap.size))) := fun W' W'' h hk => by
  have hh := Hid.out (h.2.2.2.2.2.2.2.2.2.2.2.2.2.2.2.2.2.2)
  exact ⟨(hk.cell (p := ⟨W.heap.size, 0, none⟩) hh.2.1 (fun x => x)).trans h.1, (hk.cell (p := ⟨W.heap.size, 1, none⟩) hh.2.1 (fun x => x)).trans h.2.1, (hk.cell (p := ⟨W.heap.size, 2, none⟩) hh.2.1 (fun x => x)).trans h.2.2.1, (hk.cell (p := ⟨W.heap.size, 3, none⟩) hh.2.1 (fun x => x)).trans h.2.2.2.1, (hk.cell (p := ⟨W.heap.size, 4, none⟩) hh.2.1 (fun x => x)).trans h.2.2.2.2.1, (hk.cell (p := ⟨W.heap.size, 5, none⟩) hh.2.1 (fun x => x)).trans h.2.2.2.2.2.1, (hk.cell (p := ⟨W.heap.size, 6, none⟩) hh.2.1 (fun x => x)).trans h.2.2.2.2.2.2.1, (hk.cell (p := ⟨W.heap.size, 7, none⟩) hh.2.1 (fun x => x)).trans h.2.2.2.2.2.2.2.1, (hk.cell (p := ⟨W.heap.size, 8, none⟩) hh.2.1 (fun x => x)).trans h.2.2.2.2.2.2.2.2.1, (hk.cell (p := ⟨WA.heap.size, 0, none⟩) hh.2.2 (fun x => x)).trans h.2.2.2.2.2.2.2.2.2.1, (hk.cell (p := ⟨WA.heap.size, 1, none⟩) hh.2.2 (fun x => x)).trans h.2.2.2.2.2.2.2.2.2.2.1, (hk.cell (p := ⟨WA.heap.size, 2, none⟩) hh.2.2 (fun x => x)).trans h.2.2.2.2.2.2.2.2.2.2.2.1, (hk.cell (p := ⟨WA.heap.size, 3, none⟩) hh.2.2 (fun x => x)).trans h.2.2.2.2.2.2.2.2.2.2.2.2.1, (hk.cell (p := ⟨WA.heap.size, 4, none⟩) hh.2.2 (fun x => x)).trans h.2.2.2.2.2.2.2.2.2.2.2.2.2.1, (hk.cell (p := ⟨WA.heap.size, 5, none⟩) hh.2.2 (fun x => x)).trans h.2.2.2.2.2.2.2.2.2.2.2.2.2.2.1, (hk.cell (p := ⟨WA.heap.size, 6, none⟩) hh.2.2 (fun x => x)).trans h.2.2.2.2.2.2.2.2.2.2.2.2.2.2.2.1, (hk.cell (p := ⟨WA.heap.size, 7, none⟩) hh.2.2 (fun x => x)).trans h.2.2.2.2.2.2.2.2.2.2.2.2.2.2.2.2.1, (hk.cell (p := ⟨WA.heap.size, 8, none⟩) hh.2.2 (fun x => x)).trans h.2.2.2.2.2.2.2.2.2.2.2.2.2.2.2.2.2.1, hh.1.trans hk, Nat.lt_of_lt_of_le hh.2.1 hk.size, Nat.lt_of_lt_of_le hh.2.2 hk.size⟩
 clear hal halB hal2 hkA hkB
 unfold stmV
 go_enter Tryz.func159, Tryz.ntmps159
 go_upto_region 1 with fail
 clear hWA hWB
 go_region_held3 (fun w' => w'.cell? ⟨W.heap.size, 0, none⟩ = some (.int .i64 xk) ∧ w'.cell? ⟨W.heap.size, 1, none⟩ = some (.string ⟨xh1.toArray⟩) ∧ w'.cell? ⟨W.heap.size, 2, none⟩ = some (.string ⟨xh2.toArray⟩) ∧ w'.cell? ⟨W.heap.size, 3, none⟩ = some (.string ⟨xo.toArray⟩) ∧ w'.cell? ⟨W.heap.size, 4, none⟩ = some (.string ⟨xa1.toArray⟩) ∧ w'.cell? ⟨W.heap.size, 5, none⟩ = some (.string ⟨xa2.toArray⟩) ∧ w'.cell? ⟨W.heap.size, 6, none⟩ = some (.string ⟨xb1.toArray⟩) ∧ w'.cell? ⟨W.heap.size, 7, none⟩ = some (.string ⟨xb2.toArray⟩) ∧ w'.cell? ⟨W.heap.size, 8, none⟩ = some (.string ⟨xi.toArray⟩) ∧ w'.cell? ⟨WA.heap.size, 0, none⟩ = some (.int .i64 yk) ∧ w'.cell? ⟨WA.heap.size, 1, none⟩ = some (.string ⟨yh1.toArray⟩) ∧ w'.cell? ⟨WA.heap.size, 2, none⟩ = some (.string ⟨yh2.toArray⟩) ∧ w'.cell? ⟨WA.heap.size, 3, none⟩ = some (.string ⟨yo.toArray⟩) ∧ w'.cell? ⟨WA.heap.size, 4, none⟩ = some (.string ⟨ya1.toArray⟩) ∧ w'.cell? ⟨WA.heap.size, 5, none⟩ = some (.string ⟨ya2.toArray⟩) ∧ w'.cell? ⟨WA.heap.size, 6, none⟩ = some (.string ⟨yb1.toArray⟩) ∧ w'.cell? ⟨WA.heap.size, 7, none⟩ = some (.string ⟨yb2.toArray⟩) ∧ w'.cell? ⟨WA.heap.size, 8, none⟩ = some (.string ⟨yi.toArray⟩) ∧ Hid (Grw W w' ∧ W.heap.size < w'.heap.size ∧ WA.heap.size < w'.heap.size)) (first | assumption | exact KS.out _ _ (by assumption) hk'.out | exact KS.out _ _ HB0.out ((Grw.refl _).drew) | exact KS.out _ _ (by assumption) ((Grw.refl _).alloc _) | exact KS.out _ _ (by assumption) ((Grw.refl _).drew)) ((first | (go_at_call_of 187 (Value.string ⟨xo.toArray⟩); refine (H3.out _).mono ?_; rintro e w' ⟨rfl, rfl⟩) | (go_at_call_of 187 (Value.string ⟨xi.toArray⟩); refine (H6.out _).mono ?_; rintro e w' ⟨rfl, rfl⟩) | (go_at_call 186; refine (H2.out _).mono ?_; rintro e w' ⟨rfl, rfl⟩) | (go_at_call_of 185 (Value.agg #[Value.string ⟨xh1.toArray⟩, Value.string ⟨xh2.toArray⟩]); refine (H1.out _).mono ?_; rintro e w' ⟨rfl, hk'⟩) | (go_at_call_of 185 (Value.agg #[Value.string ⟨xa1.toArray⟩, Value.string ⟨xa2.toArray⟩]); refine (H4.out _).mono ?_; rintro e w' ⟨rfl, hk'⟩) | (go_at_call_of 185 (Value.agg #[Value.string ⟨xb1.toArray⟩, Value.string ⟨xb2.toArray⟩]); refine (H5.out _).mono ?_; rintro e w' ⟨rfl, hk'⟩) | (go_at_call 184; refine (HOR.out _ _ (by simp [go_sem]) (by simp [go_sem]) (by simp [go_sem]) (by simp [go_sem]) (by simp [go_sem]) (by simp [go_sem])).mono ?_; rintro e w' ⟨rfl, rfl⟩)))
 all_goals
  go_wp2_with fail
  go_ret
  rename_i hh
  exact ⟨rfl, (hh.2.2.2.2.2.2.2.2.2.2.2.2.2.2.2.2.2.2).out.1⟩
theorem sOrder_spec (a b : Stm) : Calls Tryz.prog 159 #[stmV a, stmV b] W fun e W' => e = .returned (.int .i64 (cmpO stmLt a b)) ∧ Hid (Keeps (fun _ => False) W W') := (sOrder_grw a b).mono fun _ _ h => ⟨h.1, h.2.out.toKeeps⟩
end
end Go.Proofs.YtckikkkdabpjkaaGreat
