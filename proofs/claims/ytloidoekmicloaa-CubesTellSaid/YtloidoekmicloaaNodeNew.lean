/-
  New.
-/
import Derived.Test.YtloidoekmicloaaNodeTab
set_option linter.unusedVariables false
set_option linter.unusedSimpArgs false
namespace Go.Proofs.Ytloidoekmicloaa
open Go.ChangeShapes Go.WideShapes Go.ChangeAt Go.RowKit Go.Deep NodePlain

def TabNewPost (V B : Int) (w : World) (e : Ending) (w' : World) : Prop :=
  e = .returned (.pointer (some ⟨w.heap.size, 0, none⟩)) ∧ TabMem w' w.heap.size (w.heap.size + 1) 16 (.slice none 0 0) V B (fun _ => default) 0 (fun _ => 0) false ∧ Below w.heap.size w w'

set_option maxRecDepth 10000 in
set_option maxHeartbeats 800000 in
theorem nodeNew_any (vars budget V B : Int) (hV : (vars ≤ 0 ∧ V = 0) ∨ (0 < vars ∧ vars ≤ 61 ∧ V = vars) ∨ (61 < vars ∧ V = 61)) (hB : (budget ≤ 0 ∧ B = 0) ∨ (0 < budget ∧ B = budget)) (w : World) :
    Calls Try.prog 24 #[.int .i64 vars, .int .i64 budget] w (TabNewPost V B w) := by
  have hmk : ∀ w, (Instr.makeSlice 27 (.int .i64 16) (.int .i64 16)).run Try.prog w = .ok (.slice (some ⟨w.heap.size, 0, none⟩) 16 16) (w.alloc (.cells #[.int .i64 0, .int .i64 0, .int .i64 0, .int .i64 0, .int .i64 0, .int .i64 0, .int .i64 0, .int .i64 0, .int .i64 0, .int .i64 0, .int .i64 0, .int .i64 0, .int .i64 0, .int .i64 0, .int .i64 0, .int .i64 0] 3)) := fun _ => by kernel_rfl
  have hx : ∀ W, (W = (w.alloc (tabObj V B (.slice none 0 0) (w.heap.size + 1) 16 false)).alloc (.cells (placeRow (fun _ => 0) 16) 3)) → TabNewPost V B w (.returned (.pointer (some ⟨w.heap.size, 0, none⟩))) W := by
    intro W hW
    subst hW
    have e1 : ((w.alloc (tabObj V B (.slice none 0 0) (w.heap.size + 1) 16 false)).alloc (.cells (placeRow (fun _ => 0) 16) 3)).heap[w.heap.size]? = some (tabObj V B (.slice none 0 0) (w.heap.size + 1) 16 false) := by
      rw [Below.heap_alloc _ _ _ (by simp)]
      show (w.heap.push _)[w.heap.size]? = _
      simp
    have e2 : ((w.alloc (tabObj V B (.slice none 0 0) (w.heap.size + 1) 16 false)).alloc (.cells (placeRow (fun _ => 0) 16) 3)).heap[w.heap.size + 1]? = some (.cells (placeRow (fun _ => 0) 16) 3 (0, 0)) := by
      show ((w.heap.push _).push _)[w.heap.size + 1]? = _
      rw [Array.getElem?_push, if_pos (by simp)]
    exact ⟨rfl, ⟨e1, e2, World.ownsRow_nil _ _ _ _⟩, ((Below.refl _ _).alloc (Nat.le_refl _) _).alloc (by simp) _⟩
  have Hx := Lib.hid hx; clear hx
  rcases hV with ⟨h1, rfl⟩ | ⟨h1, h2, rfl⟩ | ⟨h1, rfl⟩ <;> rcases hB with ⟨h3, rfl⟩ | ⟨h3, rfl⟩
  all_goals
    go_enter Try.func24, Try.ntmps24
    go_wp2
    go_ret
    exact Hx.out _ rfl

end Go.Proofs.Ytloidoekmicloaa
