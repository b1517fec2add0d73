/-
  The table of trailing zeros, listed in the row: what the condition gives, and that the door's own heap meets it.
-/
import Derived.Test.YtaabmkebbnkonaaDoorRows
import Derived.Test.YtaabmkebbnkonaaDoorMB
import Derived.ProofKit
import Derived.LaidMore
import Derived.OpenShut
import Derived.Stop.Joined
import Derived.Lib.LaidTab
set_option linter.unusedVariables false
set_option linter.unusedSimpArgs false
namespace Go.Proofs.YtaabmkebbnkonaaDoor
open Go.ChangeShapes Go.WideShapes Go.ChangeAt Go.RowKit
theorem gTab : Tryd.prog.globalNamed "math/bits.deBruijn64tab" = some 0 := by kernel_rfl
theorem tTab : (Tryd.prog.globals[0]?).map (·.type) = some 99 := by kernel_rfl
theorem door_met (os : Os) (args : Array Value) : laidMetH Tryd.prog [("math/bits.deBruijn64tab", Rows.laid_math_bits_deBruijn64tab)] ((World.doorLaid Tryd.prog 400 os).forCall (fun _ _ => 0) ⟨#[], args, []⟩).memory :=
  laidMetH_of_parts3 (fuel := 8) (laidMet_of_run' 8 (by kernel_rfl) (by kernel_rfl)) (by kernel_rfl) (by kernel_rfl)
theorem tab_of_laid {W : World} (h : laidMetH Tryd.prog [("math/bits.deBruijn64tab", Rows.laid_math_bits_deBruijn64tab)] W) : TabIn W := by
  rw [MakeChecks.laidMetH_plain _ _ _ (by kernel_rfl)] at h
  obtain ⟨ps, ⟨g, t, cs, fuel, p, q, hg, ht, hv, hd, _, _⟩, _⟩ := h
  obtain rfl := Option.some.inj (gTab.symm.trans hg)
  obtain rfl := Option.some.inj (tTab.symm.trans ht)
  have e := Lib.cells_of_tab (k := .u8) (zs := Lib.deBruijn64tab.map Int.ofNat) Tryd.underlying99 Tryd.underlying5 (by kernel_rfl) (by kernel_rfl) hd
  intro j hj
  have hl : Lib.deBruijn64tab.length = 64 := by decide
  have := World.var?_cell gTab hv j
  rw [this, ← Array.getElem?_toList, e]
  simp [List.getElem?_eq_getElem, hl, hj]
end Go.Proofs.YtaabmkebbnkonaaDoor
