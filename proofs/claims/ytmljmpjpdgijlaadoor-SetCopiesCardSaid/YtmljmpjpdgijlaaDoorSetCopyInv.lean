/-
  Copy's loop: what stands after k rows.
-/
import Derived.Test.YtmljmpjpdgijlaaDoorSetClone
import Derived.Test.YtmljmpjpdgijlaaDoorSetRead
import Derived.Test.YtmljmpjpdgijlaaDoorSetNew
set_option linter.unusedVariables false
set_option linter.unusedSimpArgs false
set_option linter.unnecessarySimpa false
namespace Go.Proofs.YtmljmpjpdgijlaaDoor
open Go.ChangeShapes Go.WideShapes Go.ChangeAt Go.RowKit Go.Deep SetPlain
/-- A row that was cloned past z. -/
def CloneAt (z K : Nat) (p : Nat → Bool) (v : Value) (W : World) : Prop :=
  ∃ g cp, v = .slice (some ⟨g, 0, none⟩) K cp ∧ K ≤ cp ∧ z ≤ g ∧ g < W.heap.size ∧ ∀ k, k < K → W.cell? ⟨g, k, none⟩ = some (.int .u64 (wordOf p k))
theorem CloneAt.keeps {z K : Nat} {p : Nat → Bool} {v : Value} {W W' : World} (h : CloneAt z K p v W) {S : Nat → Prop} (hk : Keeps S W W') (hs : ∀ g, z ≤ g → ¬ S g) : CloneAt z K p v W' := by
  obtain ⟨g, cp, hv, hle, hz, hg, hc⟩ := h
  exact ⟨g, cp, hv, hle, hz, Nat.lt_of_lt_of_le hg hk.size, fun k hk' => (hk.cell (p := ⟨g, k, none⟩) hg (hs g hz)).trans (hc k hk')⟩
theorem CloneAt.of_own {z K : Nat} {p : Nat → Bool} {v : Value} {W W' : World} (hz : z ≤ W.heap.size) (h : W'.ownsRow W.heap.size 57 1 v K ((List.range K).map fun j => Value.int .u64 (wordOf p j))) (hn : v ≠ .slice none 0 0) : CloneAt z K p v W' := by
  obtain ⟨ao, cap, hv, hle, hm, hnone, hold⟩ := own_form h
  cases ao with
  | none =>
    obtain ⟨h1, h2⟩ := hnone rfl
    subst h2; subst h1
    exact absurd hv hn
  | some a =>
    obtain ⟨h4, h5, h6, h8, h7⟩ := hold a rfl
    obtain ⟨bb, off, sp⟩ := a
    simp only at h4 h5 h6 h7 h8
    subst h4; subst h5
    refine ⟨bb, cap, hv, hle, Nat.le_trans hz h8, h6, fun k hk => ?_⟩
    refine h7 k _ ?_
    simp [hk]
structure CopyInv (bo bw R C : Nat) (In : Nat → Nat → Bool) (k : Nat) (w1 W : World) : Prop where
  obj : W.heap[bo]? = some (famObj R C bw 0)
  rows : ∃ F, W.heap[bw]? = some (.cells (fnRow F R) 55 (0, 0)) ∧ ∀ j, j < k → CloneAt w1.heap.size (wordsOf C) (In j) (F j) W
  keeps : Keeps (fun i => i = bw) w1 W
  lo : bo < w1.heap.size
  lw : bw < w1.heap.size
  ne : bo ≠ bw
theorem CopyInv.step {bo bw R C : Nat} {In : Nat → Nat → Bool} {k : Nat} {w1 W W1 : World} (h : CopyInv bo bw R C In k w1 W) (hk : k < R) (hW : Keeps (fun _ => False) W W1) {v : Value} (hv : CloneAt w1.heap.size (wordsOf C) (In k) v W1) :
    CopyInv bo bw R C In (k + 1) w1 (W1.setCell ⟨bw, k, none⟩ v) := by
  obtain ⟨hobj, ⟨F, hrows, hcl⟩, hkp, hlo, hlw, hne⟩ := h
  have ks := Keeps.setCell (S := fun i => i = bw) (Keeps.refl _ W1) (p := ⟨bw, k, none⟩) (fun _ => rfl) v
  have hs1 := hkp.size
  have hs2 := hW.size
  have o1 := (hW.block bo (Nat.lt_of_lt_of_le hlo hs1) (fun x => x)).trans hobj
  have r1 := (hW.block bw (Nat.lt_of_lt_of_le hlw hs1) (fun x => x)).trans hrows
  refine ⟨(ks.block bo (lt_of_heap o1) hne).trans o1, ⟨fun j => if j = k then v else F j, ?_, fun j hj => ?_⟩, ?_, hlo, hlw, hne⟩
  · rw [heap_set r1 k v, fnRow_set _ _ _ _ hk]
  · have hg : ∀ g, w1.heap.size ≤ g → ¬ g = bw := fun g hg e => by omega
    by_cases hjk : j = k
    · subst hjk
      show CloneAt _ _ _ (if j = j then v else F j) _
      rw [if_pos rfl]
      exact hv.keeps ks hg
    · show CloneAt _ _ _ (if j = k then v else F j) _
      rw [if_neg hjk]
      exact ((hcl j (by omega)).keeps hW (fun _ _ x => x)).keeps ks hg
  · exact (hkp.trans (hW.mono (fun _ _ x => x.elim))).trans (ks.mono (fun _ _ x => x))
end Go.Proofs.YtmljmpjpdgijlaaDoor
