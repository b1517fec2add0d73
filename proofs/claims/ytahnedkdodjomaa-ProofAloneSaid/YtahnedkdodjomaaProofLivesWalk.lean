/-
  The document's example of a proof: the walk.
-/
import Derived.Test.YtahnedkdodjomaaProofLives
set_option linter.unusedVariables false
set_option linter.unusedSimpArgs false
set_option linter.unnecessarySimpa false
namespace Go.Proofs.Ytahnedkdodjomaa
open Go.ChangeShapes Go.WideShapes Go.ChangeAt Go.RowKit Go.Deep SetPlain
set_option maxRecDepth 100000
set_option maxHeartbeats 1600000
theorem plives_any (W : World) : Calls Try.prog 6 #[] W (fun e W' => e = .returned (.bool true) ∧ Below W.heap.size W W') := by
  have hal := (MapKept.heap_alloc W (.cells #[.int .i64 2, .int .i64 0, .int .i64 0, .int .i64 3, .int .i64 0, .int .i64 0, .int .i64 1, .int .i64 3, .int .i64 2, .int .i64 0, .int .i64 0, .int .i64 0] 39)).1
  have hkA : Keeps (fun _ => False) W (W.alloc (.cells #[.int .i64 2, .int .i64 0, .int .i64 0, .int .i64 3, .int .i64 0, .int .i64 0, .int .i64 1, .int .i64 3, .int .i64 2, .int .i64 0, .int .i64 0, .int .i64 0] 39)) := (Keeps.refl _ _).alloc _
  have hR : RuleRow (W.alloc (.cells #[.int .i64 2, .int .i64 0, .int .i64 0, .int .i64 3, .int .i64 0, .int .i64 0, .int .i64 1, .int .i64 3, .int .i64 2, .int .i64 0, .int .i64 0, .int .i64 0] 39)) (some ⟨W.heap.size, 0, none⟩) exProof := fun _ => by
    refine ⟨W.heap.size, 0, rfl, lt_of_heap hal, fun i r hr => ?_⟩
    match i, hr with
    | 0, hr =>
      simp only [exProof, List.getElem?_cons_zero, Option.some.injEq] at hr
      subst hr
      refine ⟨?_, ?_, ?_, ?_, ?_, ?_⟩ <;> (rw [cell_of_heap hal]; rfl)
    | 1, hr =>
      simp only [exProof, List.getElem?_cons_succ, List.getElem?_cons_zero, Option.some.injEq] at hr
      subst hr
      refine ⟨?_, ?_, ?_, ?_, ?_, ?_⟩ <;> (rw [cell_of_heap hal]; rfl)
    | i + 2, hr => simp [exProof] at hr
  have HC : Hid (Calls Try.prog 12 #[.int .i64 3, .int .i64 2, .slice (some ⟨W.heap.size, 0, none⟩) 2 2, .int .i64 0, .int .i64 2] (W.alloc (.cells #[.int .i64 2, .int .i64 0, .int .i64 0, .int .i64 3, .int .i64 0, .int .i64 0, .int .i64 1, .int .i64 3, .int .i64 2, .int .i64 0, .int .i64 0, .int .i64 0] 39)) (fun e W' => ∃ g o cap, e = .returned (.tuple #[.slice (some ⟨g, o, none⟩) 2 cap, .bool true]) ∧ 2 ≤ cap ∧ Below W.heap.size W W' ∧
      W'.cell? ⟨g, o, none⟩ = some (.int .i64 1) ∧ W'.cell? ⟨g, o + 1, none⟩ = some (.int .i64 3) ∧ W'.cell? ⟨g, o + 2, none⟩ = some (.int .i64 2) ∧ W'.cell? ⟨g, o + 3, none⟩ = some (.int .i64 0) ∧
      W'.cell? ⟨g, o + 4, none⟩ = some (.int .i64 0) ∧ W'.cell? ⟨g, o + 4 + 1, none⟩ = some (.int .i64 0) ∧ W'.cell? ⟨g, o + 4 + 2, none⟩ = some (.int .i64 2) ∧ W'.cell? ⟨g, o + 4 + 3, none⟩ = some (.int .i64 0))) := by
    have := why_spec (P := 3) (K := 2) (n := 2) (cap := 2) (a := 0) (b := 2) hR rfl (Nat.le_refl _) (by omega) (by omega) (by omega) (by unfold I64; omega) (by unfold I64; omega)
    refine this.mono ?_
    rintro e W' ⟨v, ok, out, rfl, hb, ha, ht⟩
    obtain ⟨rfl, rfl⟩ := lives_plain ha.out
    obtain ⟨so, cap, rfl, hle, _, hs⟩ := StRow.of_tail ht.out
    obtain ⟨g, o, rfl, _, hc⟩ := hs (by decide)
    obtain ⟨c0, c1, c2, c3⟩ := hc 0 _ rfl
    obtain ⟨d0, d1, d2, d3⟩ := hc 1 _ rfl
    refine ⟨g, o, cap, rfl, hle, (hkA.below (Nat.le_refl _) (fun _ _ x => x)).trans (hb.mono hkA.size), ?_⟩
    simp only [Nat.zero_mul, Nat.add_zero, Nat.one_mul] at c0 c1 c2 c3 d0 d1 d2 d3
    exact ⟨c0, c1, c2, c3, d0, d1, d2, d3⟩
  clear hal hkA hR
  go_enter Try.func6, Try.ntmps6
  go_upto_region 2 with fail
  go_wp2_with (go_at_call 12; refine HC.out.mono ?_; rintro e wA ⟨g, o, cap, rfl, hcap, hb, c0, c1, c2, c3, d0, d1, d2, d3⟩)
  have HB := Lib.hid hb
  clear HC hb
  go_wp2_with fail
  go_ret
  exact ⟨rfl, HB.out⟩
end Go.Proofs.Ytahnedkdodjomaa
