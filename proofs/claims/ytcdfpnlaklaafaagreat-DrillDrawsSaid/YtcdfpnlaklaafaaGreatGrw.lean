/-
  What is left behind a call that only made memory and drew: the old world, some draws, new blocks behind it.
-/
import Derived.Test.YtcdfpnlaklaafaaGreatKit
import Derived.Sort.Grow
set_option linter.unusedVariables false
set_option linter.unusedSimpArgs false
set_option linter.unnecessarySimpa false
namespace Go.Proofs.YtcdfpnlaklaafaaGreat
open Go.ChangeShapes Go.WideShapes Go.ChangeAt Go.RowKit Go.Deep
/-- A slice whose block is new. -/
def NewIn (W : World) (v : Value) : Prop := ∀ k, v.ownBlock = some k → W.heap.size ≤ k
/-- A slice whose block is new, between two worlds. -/
def NewAt (W W' : World) (v : Value) : Prop := ∀ k, v.ownBlock = some k → W.heap.size ≤ k ∧ k < W'.heap.size
structure Grw (W W' : World) : Prop extends Keeps (fun _ => False) W W' where
  drawn : W.drawn ≤ W'.drawn
namespace Grw
variable {a w w' : World}
theorem refl (w : World) : Grw w w := ⟨Keeps.refl _ w, Nat.le_refl _⟩
theorem trans (h : Grw a w) (k : Grw w w') : Grw a w' := ⟨h.toKeeps.trans k.toKeeps, Nat.le_trans h.drawn k.drawn⟩
theorem alloc (h : Grw a w) (o : Obj) : Grw a (w.alloc o) := ⟨h.toKeeps.alloc o, h.drawn⟩
theorem drew (h : Grw a w) : Grw a w.drew := ⟨h.toKeeps.drew, Nat.le_trans h.drawn (Nat.le_succ _)⟩
theorem drewN (h : Grw a w) (n : Nat) : Grw a (w.drewN n) := ⟨h.toKeeps.drewN n, Nat.le_trans h.drawn (Nat.le_add_right _ _)⟩
theorem grown (h : Grw w w') : ∃ q os', w' = Go.Sort.grow (w.drewN q) os' := by
  have hh : w'.heap = w.heap ++ w'.heap.extract w.heap.size w'.heap.size := by
    apply Array.ext_getElem?
    intro i
    rw [Array.getElem?_append]
    split
    · rename_i hi
      exact h.block i hi (fun x => x)
    · rename_i hi
      have := h.size
      rw [Array.getElem?_extract]
      by_cases h2 : i < w'.heap.size
      · rw [if_pos (by omega)]
        congr 1
        omega
      · rw [if_neg (by omega), Array.getElem?_eq_none (by omega)]
  refine ⟨w'.drawn - w.drawn, w'.heap.extract w.heap.size w'.heap.size, ?_⟩
  have hd := h.drawn
  have h1 := h.os; have h2 := h.tape; have h3 := h.output
  obtain ⟨hp', tp', dr', os', ou'⟩ := w'
  obtain ⟨hp, tp, dr, os, ou⟩ := w
  simp only at hh hd h1 h2 h3
  unfold Go.Sort.grow World.drewN
  simp only [World.mk.injEq]
  exact ⟨hh, h2, by omega, h1, h3⟩
end Grw
end Go.Proofs.YtcdfpnlaklaafaaGreat
