/-
  What a model answers; the bound; the document's example.
-/
import Derived.Test.YtckjgefpelnkoaaDoorSemEval
set_option linter.unusedVariables false
set_option linter.unusedSimpArgs false
set_option linter.unnecessarySimpa false
namespace Go.Proofs.YtckjgefpelnkoaaDoor
open Go.ChangeShapes Go.WideShapes Go.ChangeAt Go.RowKit Go.Deep SetPlain
section
variable {z : Nat} {w W : World} {mo fb bw : Nat} {rb : Nat → Nat} {P K : Nat} {rs : List Rl} {In : Nat → Nat → Bool} {tot steps : Nat}
theorem ModAt.keeps (hz : z ≤ w.heap.size) (h : ModAt z w mo fb bw rb P K rs In tot steps W) {W' : World} (hk : Keeps (fun _ => False) W W') : ModAt z w mo fb bw rb P K rs In tot steps W' :=
  ⟨(hk.block _ (lt_of_heap h.obj) (fun x => x)).trans h.obj, h.fam.keeps hk (fun _ _ x => x), h.tells, h.most, h.least, h.base.trans (hk.below (Nat.le_trans hz h.base.size) (fun _ _ x => x)), h.zo, h.zf⟩
theorem ModAt.cells (h : ModAt z w mo fb bw rb P K rs In tot steps W) : W.cell? ⟨mo, 0, none⟩ = some (.pointer (some ⟨fb, 0, none⟩)) ∧ W.cell? ⟨mo, 1, none⟩ = some (.int .i64 P) ∧ W.cell? ⟨mo, 2, none⟩ = some (.int .i64 K) ∧ W.cell? ⟨mo, 3, none⟩ = some (.int .i64 steps) :=
  ⟨by rw [cell_of_heap h.obj]; rfl, by rw [cell_of_heap h.obj]; rfl, by rw [cell_of_heap h.obj]; rfl, by rw [cell_of_heap h.obj]; rfl⟩
set_option maxRecDepth 10000 in
theorem ModAt.steps_spec (h : ModAt z w mo fb bw rb P K rs In tot steps W) : Calls Tryd.prog 18 #[.pointer (some ⟨mo, 0, none⟩)] W fun e W' => e = .returned (.int .i64 steps) ∧ W = W' := by
  obtain ⟨c0, c1, c2, c3⟩ := h.cells
  clear h
  go_enter Tryd.func18, Tryd.ntmps18
  go_wp2
  go_ret
  exact ⟨rfl, rfl⟩
set_option maxRecDepth 10000 in
theorem ModAt.in_spec (h : ModAt z w mo fb bw rb P K rs In tot steps W) (i c : Int) (hc0 : -9223372036854775808 ≤ c) (hc1 : c ≤ 9223372036854775807) : Calls Tryd.prog 9 #[.pointer (some ⟨mo, 0, none⟩), .int .i64 i, .int .i64 c] W fun e W' => e = .returned (.bool (hasB (P * K) P In i c)) ∧ W = W' := by
  obtain ⟨c0, c1, c2, c3⟩ := h.cells
  have HH := Lib.hid (fhas_spec h.fam i c hc0 hc1)
  clear h
  go_enter Tryd.func9, Tryd.ntmps9
  go_wp2_with fail
  refine HH.out.mono ?_
  rintro e W' ⟨rfl, rfl⟩
  go_wp2
  go_ret
  exact ⟨rfl, rfl⟩
set_option maxRecDepth 10000 in
theorem ModAt.list_spec (h : ModAt z w mo fb bw rb P K rs In tot steps W) (hT : TabIn W) (i : Int) : Calls Tryd.prog 12 #[.pointer (some ⟨mo, 0, none⟩), .int .i64 i] W (ListPost (listTo (rowP (P * K) In i) P) W) := by
  obtain ⟨c0, c1, c2, c3⟩ := h.cells
  have HH := Lib.hid (flist_spec h.fam hT i)
  clear h hT
  go_enter Tryd.func12, Tryd.ntmps12
  go_wp2_with fail
  refine HH.out.mono ?_
  rintro e W' ⟨v, rfl, hown, hb⟩
  have HO := Lib.hid hown
  have HB := Lib.hid hb
  obtain ⟨ao, cap, rfl, _, _, _, _⟩ := own_form hown
  clear hown hb HH
  go_wp2
  go_ret
  exact ⟨_, rfl, HO.out, HB.out⟩
end
set_option maxRecDepth 10000 in
theorem ssmall_spec (d0 d1 : Int) (ao : Option Addr) (n cap : Nat) (w : World) : Calls Tryd.prog 5 #[.int .i64 d0, .int .i64 d1, .slice ao n cap] w fun e w' => e = .returned (.bool (decide (d0 ≤ 10 ∧ d1 ≤ 6 ∧ n ≤ 60))) ∧ w = w' := by
  by_cases h0 : d0 ≤ 10
  · by_cases h1 : d1 ≤ 6
    · by_cases h2 : n ≤ 60
      · have h2I : (n : Int) ≤ 60 := by omega
        rw [decide_eq_true ⟨h0, h1, h2⟩]
        go_enter Tryd.func5, Tryd.ntmps5
        go_wp2
        go_ret
        exact ⟨rfl, rfl⟩
      · have h2I : ¬ (n : Int) ≤ 60 := by omega
        rw [decide_eq_false (fun x => h2 x.2.2)]
        go_enter Tryd.func5, Tryd.ntmps5
        go_wp2
        go_ret
        exact ⟨rfl, rfl⟩
    · rw [decide_eq_false (fun x => h1 x.2.1)]
      go_enter Tryd.func5, Tryd.ntmps5
      go_wp2
      go_ret
      exact ⟨rfl, rfl⟩
  · rw [decide_eq_false (fun x => h0 x.1)]
    go_enter Tryd.func5, Tryd.ntmps5
    go_wp2
    go_ret
    exact ⟨rfl, rfl⟩
end Go.Proofs.YtckjgefpelnkoaaDoor
