/-
  What a model answers; the bound; the document's example.
-/
import Derived.Test.YtmljmpjpdgijlaaDoorSemEval
set_option linter.unusedVariables false
set_option linter.unusedSimpArgs false
set_option linter.unnecessarySimpa false
namespace Go.Proofs.YtmljmpjpdgijlaaDoor
open Go.ChangeShapes Go.WideShapes Go.ChangeAt Go.RowKit Go.Deep SetPlain
section
variable {z : Nat} {w W : World} {mo fb bw : Nat} {rb : Nat → Nat} {P K : Nat} {rs : List Rl} {In : Nat → Nat → Bool} {tot steps : Nat}
theorem ModAt.keeps (hz : z ≤ w.heap.size) (h : ModAt z w mo fb bw rb P K rs In tot steps W) {W' : World} (hk : Keeps (fun _ => False) W W') : ModAt z w mo fb bw rb P K rs In tot steps W' :=
  ⟨(hk.block _ (lt_of_heap h.obj) (fun x => x)).trans h.obj, h.fam.keeps hk (fun _ _ x => x), h.tells, h.most, h.least, h.base.trans (hk.below (Nat.le_trans hz h.base.size) (fun _ _ x => x)), h.zo, h.zf⟩
theorem ModAt.cells (h : ModAt z w mo fb bw rb P K rs In tot steps W) : W.cell? ⟨mo, 0, none⟩ = some (.pointer (some ⟨fb, 0, none⟩)) ∧ W.cell? ⟨mo, 1, none⟩ = some (.int .i64 P) ∧ W.cell? ⟨mo, 2, none⟩ = some (.int .i64 K) ∧ W.cell? ⟨mo, 3, none⟩ = some (.int .i64 steps) :=
  ⟨by rw [cell_of_heap h.obj]; rfl, by rw [cell_of_heap h.obj]; rfl, by rw [cell_of_heap h.obj]; rfl, by rw [cell_of_heap h.obj]; rfl⟩
set_option maxRecDepth 10000 in
theorem ModAt.steps_spec (h : ModAt z w mo fb bw rb P K rs In tot steps W) : Calls Tryd.prog 33 #[.pointer (some ⟨mo, 0, none⟩)] W fun e W' => e = .returned (.int .i64 steps) ∧ W = W' := by
  obtain ⟨c0, c1, c2, c3⟩ := h.cells
  clear h
  go_enter Tryd.func33, Tryd.ntmps33
  go_wp2
  go_ret
  exact ⟨rfl, rfl⟩
set_option maxRecDepth 10000 in
theorem ModAt.in_spec (h : ModAt z w mo fb bw rb P K rs In tot steps W) (i c : Int) (hc0 : -9223372036854775808 ≤ c) (hc1 : c ≤ 9223372036854775807) : Calls Tryd.prog 31 #[.pointer (some ⟨mo, 0, none⟩), .int .i64 i, .int .i64 c] W fun e W' => e = .returned (.bool (hasB (P * K) P In i c)) ∧ W = W' := by
  obtain ⟨c0, c1, c2, c3⟩ := h.cells
  have HH := Lib.hid (fhas_spec h.fam i c hc0 hc1)
  clear h
  go_enter Tryd.func31, Tryd.ntmps31
  go_wp2_with fail
  refine HH.out.mono ?_
  rintro e W' ⟨rfl, rfl⟩
  go_wp2
  go_ret
  exact ⟨rfl, rfl⟩
set_option maxRecDepth 10000 in
theorem ModAt.list_spec (h : ModAt z w mo fb bw rb P K rs In tot steps W) (hT : TabIn W) (i : Int) : Calls Tryd.prog 30 #[.pointer (some ⟨mo, 0, none⟩), .int .i64 i] W (ListPost (listTo (rowP (P * K) In i) P) W) := by
  obtain ⟨c0, c1, c2, c3⟩ := h.cells
  have HH := Lib.hid (flist_spec h.fam hT i)
  clear h hT
  go_enter Tryd.func30, Tryd.ntmps30
  go_wp2_with fail
  refine HH.out.mono ?_
  rintro e W' ⟨v, rfl, hown, hb⟩
  have HO := Lib.hid hown
  have HB := Lib.hid hb
  obtain ⟨ao, cap, rfl, _, _, _, _⟩ := own_form hown
  clear hown hb HH
  go_wp2
  go_ret
  exact ⟨_, rfl, HO.out, HB.out⟩
end
/-- The numbers that the bound multiplies. -/
structure Prods (a b c x1 x2 x3 x4 x5 x6 : Nat) : Prop where
  e1 : IntKind.i64.wrap (4 * (a : Int)) = (x1 : Int)
  e2 : IntKind.i64.wrap ((x1 : Int) * (a : Int)) = (x2 : Int)
  e3 : IntKind.i64.wrap ((x2 : Int) * (a : Int)) = (x3 : Int)
  e4 : IntKind.i64.wrap ((x3 : Int) * (b : Int)) = (x4 : Int)
  e5 : IntKind.i64.wrap ((x4 : Int) * (b : Int)) = (x5 : Int)
  e6 : IntKind.i64.wrap ((x5 : Int) * (c : Int)) = (x6 : Int)
  eq : x6 = 4 * a * a * a * b * b * c
theorem wrap_mul {x y n m : Nat} (hx : x ≤ n) (hy : y ≤ m) (h : n * m ≤ 9223372036854775807) : IntKind.i64.wrap ((x : Int) * (y : Int)) = ((x * y : Nat) : Int) ∧ x * y ≤ n * m := by
  have h1 := Nat.mul_le_mul hx hy
  have h2 : (x : Int) * (y : Int) = ((x * y : Nat) : Int) := by simp
  refine ⟨?_, h1⟩
  rw [h2]
  exact IntWalk.i64_in _ (by omega)
theorem prods (a b c : Nat) (ha : a ≤ 65) (hb : b ≤ 65) (hc : c ≤ 10001) : ∃ x1 x2 x3 x4 x5 x6, Prods a b c x1 x2 x3 x4 x5 x6 := by
  obtain ⟨e1, l1⟩ := wrap_mul (Nat.le_refl 4) ha (by decide)
  obtain ⟨e2, l2⟩ := wrap_mul l1 ha (by decide)
  obtain ⟨e3, l3⟩ := wrap_mul l2 ha (by decide)
  obtain ⟨e4, l4⟩ := wrap_mul l3 hb (by decide)
  obtain ⟨e5, l5⟩ := wrap_mul l4 hb (by decide)
  obtain ⟨e6, l6⟩ := wrap_mul l5 hc (by decide)
  exact ⟨_, _, _, _, _, _, e1, e2, e3, e4, e5, e6, rfl⟩
set_option maxRecDepth 10000 in
theorem sbound_spec (p k n : Int) (P K R a b c x1 x2 x3 x4 x5 x6 : Nat) (hP : Within p 64 P) (hK : Within k 64 K) (hR : Within n 10000 R) (ha : P + 1 = a) (hb : K + 1 = b) (hc : R + 1 = c) (hx : Prods a b c x1 x2 x3 x4 x5 x6) (w : World) :
    Calls Tryd.prog 32 #[.int .i64 p, .int .i64 k, .int .i64 n] w fun e w' => e = .returned (.int .i64 x6) ∧ w = w' := by
  have hPl := hP.le
  have hKl := hK.le
  have hRl := hR.le
  have W1 := Lib.hid (swithin_any p P hP w)
  have W2 := Lib.hid (swithin_any k K hK w)
  obtain ⟨e1, e2, e3, e4, e5, e6, heq⟩ := hx
  clear heq
  have f1 : IntKind.i64.wrap ((P : Int) + 1) = (a : Int) := (IntWalk.i64_in _ (by omega)).trans (by omega)
  have f2 : IntKind.i64.wrap ((K : Int) + 1) = (b : Int) := (IntWalk.i64_in _ (by omega)).trans (by omega)
  have f3 : IntKind.i64.wrap ((R : Int) + 1) = (c : Int) := (IntWalk.i64_in _ (by omega)).trans (by omega)
  clear hP hK ha hb
  go_enter Tryd.func32, Tryd.ntmps32
  go_wp2_with fail
  refine W1.out.mono ?_
  rintro e w' ⟨rfl, rfl⟩
  go_wp2_with fail
  refine W2.out.mono ?_
  rintro e w' ⟨rfl, rfl⟩
  rcases hR with ⟨h, rfl⟩ | ⟨h1, h2, h3⟩ | ⟨h, rfl⟩
  · have hm1 : ¬ (10000 : Int) < n := by omega
    obtain rfl : c = 1 := by omega
    have e7 : IntKind.i64.wrap (x5 : Int) = (x6 : Int) := by simpa using e6
    clear e6
    go_wp2
    go_ret
    exact ⟨rfl, rfl⟩
  · obtain rfl : n = (R : Int) := h3.symm
    go_wp2
    go_ret
    exact ⟨rfl, rfl⟩
  · obtain rfl : c = 10001 := by omega
    have e7 : IntKind.i64.wrap ((x5 : Int) * 10001) = (x6 : Int) := e6
    clear e6
    go_wp2
    go_ret
    exact ⟨rfl, rfl⟩
set_option maxRecDepth 10000 in
theorem ssmall_spec (d0 d1 : Int) (ao : Option Addr) (n cap : Nat) (w : World) : Calls Tryd.prog 27 #[.int .i64 d0, .int .i64 d1, .slice ao n cap] w fun e w' => e = .returned (.bool (decide (d0 ≤ 10 ∧ d1 ≤ 6 ∧ n ≤ 60))) ∧ w = w' := by
  by_cases h0 : d0 ≤ 10
  · by_cases h1 : d1 ≤ 6
    · by_cases h2 : n ≤ 60
      · have h2I : (n : Int) ≤ 60 := by omega
        rw [decide_eq_true ⟨h0, h1, h2⟩]
        go_enter Tryd.func27, Tryd.ntmps27
        go_wp2
        go_ret
        exact ⟨rfl, rfl⟩
      · have h2I : ¬ (n : Int) ≤ 60 := by omega
        rw [decide_eq_false (fun x => h2 x.2.2)]
        go_enter Tryd.func27, Tryd.ntmps27
        go_wp2
        go_ret
        exact ⟨rfl, rfl⟩
    · rw [decide_eq_false (fun x => h1 x.2.1)]
      go_enter Tryd.func27, Tryd.ntmps27
      go_wp2
      go_ret
      exact ⟨rfl, rfl⟩
  · rw [decide_eq_false (fun x => h0 x.1)]
    go_enter Tryd.func27, Tryd.ntmps27
    go_wp2
    go_ret
    exact ⟨rfl, rfl⟩
end Go.Proofs.YtmljmpjpdgijlaaDoor
