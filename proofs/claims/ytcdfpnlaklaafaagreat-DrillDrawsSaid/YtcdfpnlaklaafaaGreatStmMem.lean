/-
  Rows of statements in memory.
-/
import Derived.Test.YtcdfpnlaklaafaaGreatStmBef
set_option linter.unusedVariables false
set_option linter.unusedSimpArgs false
set_option linter.unnecessarySimpa false
namespace Go.Proofs.YtcdfpnlaklaafaaGreat
open Go.ChangeShapes Go.WideShapes Go.ChangeAt Go.RowKit Go.Deep
/-- A statement's nine cells, from a place on. -/
def Nine (w : World) (g o : Nat) (s : Stm) : Prop :=
  w.cell? ⟨g, o, none⟩ = some (.int .i64 s.2.1) ∧ w.cell? ⟨g, o + 1, none⟩ = some (.string ⟨s.1.1.toArray⟩) ∧ w.cell? ⟨g, o + 2, none⟩ = some (.string ⟨s.1.2.toArray⟩) ∧ w.cell? ⟨g, o + 3, none⟩ = some (.string ⟨s.2.2.1.toArray⟩) ∧ w.cell? ⟨g, o + 4, none⟩ = some (.string ⟨s.2.2.2.1.1.toArray⟩) ∧ w.cell? ⟨g, o + 5, none⟩ = some (.string ⟨s.2.2.2.1.2.toArray⟩) ∧ w.cell? ⟨g, o + 6, none⟩ = some (.string ⟨s.2.2.2.2.1.1.toArray⟩) ∧ w.cell? ⟨g, o + 7, none⟩ = some (.string ⟨s.2.2.2.2.1.2.toArray⟩) ∧ w.cell? ⟨g, o + 8, none⟩ = some (.string ⟨s.2.2.2.2.2.toArray⟩)
theorem Nine.keeps {w w' : World} {g o : Nat} {s : Stm} (h : Nine w g o s) (hg : g < w.heap.size) {S : Nat → Prop} (hk : Keeps S w w') (hs : ¬ S g) : Nine w' g o s := by
  obtain ⟨h0, h1, h2, h3, h4, h5, h6, h7, h8⟩ := h
  have k : ∀ (j : Nat) (v : Value), w.cell? ⟨g, j, none⟩ = some v → w'.cell? ⟨g, j, none⟩ = some v := fun j v h => (hk.cell (p := ⟨g, j, none⟩) hg hs).trans h
  exact ⟨k _ _ h0, k _ _ h1, k _ _ h2, k _ _ h3, k _ _ h4, k _ _ h5, k _ _ h6, k _ _ h7, k _ _ h8⟩
/-- A slice that reads as statements. -/
def ReadsM (w : World) (v : Value) (l : List Stm) : Prop :=
  ∃ ao cap, v = .slice ao l.length cap ∧ l.length ≤ cap ∧ (0 < l.length → ∃ g off, ao = some ⟨g, off, none⟩ ∧ g < w.heap.size ∧ ∀ (j : Nat) (s : Stm), l[j]? = some s → Nine w g (off + j * 9) s)
theorem ReadsM.keeps {w w' : World} {v : Value} {l : List Stm} (h : ReadsM w v l) (hk : Keeps (fun _ => False) w w') : ReadsM w' v l := by
  obtain ⟨ao, cap, hv, hle, hr⟩ := h
  refine ⟨ao, cap, hv, hle, fun h0 => ?_⟩
  obtain ⟨g, off, h1, h2, h3⟩ := hr h0
  exact ⟨g, off, h1, Nat.lt_of_lt_of_le h2 hk.size, fun j x hj => (h3 j x hj).keeps h2 hk (fun x => x)⟩
end Go.Proofs.YtcdfpnlaklaafaaGreat
