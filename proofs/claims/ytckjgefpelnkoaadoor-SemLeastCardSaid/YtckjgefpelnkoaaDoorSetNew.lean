/-
  New of families of sets.
-/
import Derived.Test.YtckjgefpelnkoaaDoorSetTab
import Derived.RegionTactic
import Derived.BigRegion
import Derived.Deep.OwnRows
set_option linter.unusedVariables false
set_option linter.unusedSimpArgs false
set_option linter.unnecessarySimpa false
namespace Go.Proofs.YtckjgefpelnkoaaDoor
open Go.ChangeShapes Go.WideShapes Go.ChangeAt Go.RowKit Go.Deep SetPlain

theorem wordsInfo : (Tryd.prog.info? 65).map (fun i => (i.zero, i.size, i.bytes)) = some (some (.slice none 0 0), 1, 24) := by kernel_rfl
theorem u64Info : (Tryd.prog.info? 69).map (fun i => (i.zero, i.size, i.bytes)) = some (some (.int .u64 0), 1, 8) := by kernel_rfl

/-- A number between limits. -/
def Within (n : Int) (most R : Nat) : Prop := (n ≤ 0 ∧ R = 0) ∨ (0 < n ∧ n ≤ most ∧ (R : Int) = n) ∨ ((most : Int) < n ∧ R = most)
theorem within_cases (n : Int) (most : Nat) : ∃ R, Within n most R := by
  rcases Int.lt_or_le 0 n with h | h
  · rcases Int.lt_or_le most n with h1 | h1
    · exact ⟨most, .inr (.inr ⟨h1, rfl⟩)⟩
    · exact ⟨n.toNat, .inr (.inl ⟨h, h1, by omega⟩)⟩
  · exact ⟨0, .inl ⟨h, rfl⟩⟩
theorem Within.le {n : Int} {most R : Nat} (h : Within n most R) : R ≤ most := by
  unfold Within at h; omega
set_option maxRecDepth 10000 in
theorem within_any (n : Int) (most R : Nat) (hm0 : 0 < most) (hm : most ≤ 10000) (h : Within n most R) (w : World) : Calls Tryd.prog 28 #[.int .i64 n, .int .i64 most] w fun e w' => e = .returned (.int .i64 R) ∧ w = w' := by
  rcases h with ⟨h, rfl⟩ | ⟨h1, h2, h3⟩ | ⟨h, rfl⟩
  · have hm1 : ¬ (most : Int) < n := by omega
    go_enter Tryd.func28, Tryd.ntmps28
    go_wp2
    go_ret
    exact ⟨rfl, rfl⟩
  · obtain rfl : n = (R : Int) := h3.symm
    go_enter Tryd.func28, Tryd.ntmps28
    go_wp2
    go_ret
    exact ⟨rfl, rfl⟩
  · go_enter Tryd.func28, Tryd.ntmps28
    go_wp2
    go_ret
    exact ⟨rfl, rfl⟩

theorem wordRow_zero (K : Nat) : madeCells #[Value.int .u64 0] K = wordRow (fun _ => false) K := by
  rw [madeRow]
  unfold wordRow
  apply fnRow_congr
  intro k _
  have : wordOf (fun _ => false) k = 0 := (wordOf_zero _ _).2 (fun _ _ => rfl)
  rw [this]; rfl

structure NewInv (w : World) (R C k : Nat) (wr : World) : Prop where
  size : wr.heap.size = w.heap.size + 2 + k
  obj : wr.heap[w.heap.size]? = some (famObj R C (w.heap.size + 1) 0)
  rows : wr.heap[w.heap.size + 1]? = some (.cells (fnRow (fun j => if j < k then rowSl (fun i => w.heap.size + 2 + i) (wordsOf C) j else .slice none 0 0) R) 65 (0, 0))
  row : ∀ i, i < k → wr.heap[w.heap.size + 2 + i]? = some (.cells (wordRow (fun _ => false) (wordsOf C)) 69 (0, 0))
  below : Below w.heap.size w wr
theorem NewInv.step {w wr : World} {R C k : Nat} (h : NewInv w R C k wr) (hk : k < R) : NewInv w R C (k + 1) (((wr.alloc (.cells (madeCells #[Value.int .u64 0] (wordsOf C)) 69)).setCell ⟨w.heap.size + 1, k, none⟩ (.slice (some ⟨wr.heap.size, 0, none⟩) (wordsOf C) (wordsOf C))).drew) := by
  have ka := (Keeps.refl (fun _ => False) wr).alloc (.cells (madeCells #[Value.int .u64 0] (wordsOf C)) 69)
  have hz := h.size
  have lo := lt_of_heap h.obj
  have lr := lt_of_heap h.rows
  have ks := Keeps.setCell (S := fun i => i = w.heap.size + 1) (Keeps.refl _ (wr.alloc (.cells (madeCells #[Value.int .u64 0] (wordsOf C)) 69))) (p := ⟨w.heap.size + 1, k, none⟩) (fun _ => rfl) (.slice (some ⟨wr.heap.size, 0, none⟩) (wordsOf C) (wordsOf C))
  have key : ∀ i, i < wr.heap.size → i ≠ w.heap.size + 1 → (((wr.alloc (.cells (madeCells #[Value.int .u64 0] (wordsOf C)) 69)).setCell ⟨w.heap.size + 1, k, none⟩ (.slice (some ⟨wr.heap.size, 0, none⟩) (wordsOf C) (wordsOf C))).drew).heap[i]? = wr.heap[i]? := fun i hi hne => by
    have h1 := ks.block i (by simp; omega) hne
    have h2 := ka.block i hi (fun x => x)
    exact h1.trans h2
  refine ⟨?_, (key _ lo (by omega)).trans h.obj, ?_, fun i hi => ?_, ?_⟩
  · show ((wr.alloc _).setCell _ _).heap.size = _
    simp [World.setCell]; omega
  · have h2 := (ka.block _ lr (fun x => x)).trans h.rows
    have h3 := heap_set h2 k (.slice (some ⟨wr.heap.size, 0, none⟩) (wordsOf C) (wordsOf C))
    refine h3.trans ?_
    rw [fnRow_set _ _ _ _ hk]
    congr 2
    apply fnRow_congr
    intro j hj
    show (if j = k then Value.slice (some ⟨wr.heap.size, 0, none⟩) (wordsOf C) (wordsOf C) else if j < k then rowSl _ _ j else .slice none 0 0) = if j < k + 1 then rowSl _ _ j else .slice none 0 0
    by_cases hjk : j = k
    · subst hjk
      rw [if_pos rfl, if_pos (by omega)]
      unfold rowSl
      rw [hz]
    · rw [if_neg hjk]
      by_cases h1 : j < k
      · rw [if_pos h1, if_pos (by omega)]
      · rw [if_neg h1, if_neg (by omega)]
  · rcases Nat.lt_or_ge i k with h1 | h1
    · rw [key _ (by omega) (by omega)]
      exact h.row i h1
    · obtain rfl : i = k := by omega
      have h1 := ks.block (w.heap.size + 2 + i) (by simp; omega) (by omega)
      refine h1.trans ?_
      rw [← hz, heap_alloc_new, wordRow_zero]
  · exact ((h.below.alloc (by omega) _).setCell (by simp) _).drew
theorem NewInv.fam {w wr : World} {R C : Nat} (h : NewInv w R C R wr) (hR : R ≤ 5000) (hC : C ≤ 1000) : FamMem wr w.heap.size (w.heap.size + 1) (fun i => w.heap.size + 2 + i) R C (fun _ _ => false) 0 := by
  refine ⟨h.obj, ?_, fun i hi => h.row i hi, fun i j _ _ e => by omega, fun _ _ _ => rfl, hR, hC⟩
  rw [h.rows]
  congr 2
  apply fnRow_congr
  intro j hj
  rw [if_pos hj]

def FamNewPost (R C : Nat) (w : World) (e : Ending) (w' : World) : Prop :=
  e = .returned (.pointer (some ⟨w.heap.size, 0, none⟩)) ∧ FamMem w' w.heap.size (w.heap.size + 1) (fun i => w.heap.size + 2 + i) R C (fun _ _ => false) 0 ∧ Below w.heap.size w w'
set_option maxRecDepth 100000 in
set_option maxHeartbeats 1600000 in
theorem fnew_spec (rows cols : Int) (R C : Nat) (hR : Within rows 5000 R) (hC : Within cols 1000 C) (w : World) : Calls Tryd.prog 20 #[.int .i64 rows, .int .i64 cols] w (FamNewPost R C w) := by
  have hRl := hR.le
  have hCl := hC.le
  have W1 : Hid (Calls Tryd.prog 28 #[.int .i64 rows, .int .i64 5000] w fun e w' => e = .returned (.int .i64 R) ∧ w = w') := within_any rows 5000 R (by decide) (by decide) hR w
  have W2 : Hid (Calls Tryd.prog 28 #[.int .i64 cols, .int .i64 1000] w fun e w' => e = .returned (.int .i64 C) ∧ w = w') := within_any cols 1000 C (by decide) (by decide) hC w
  have hmk2 := fun W => run_make_row' (P := Tryd.prog) 61 65 (.slice none 0 0) 24 Tryd.underlying61 wordsInfo rfl .i64 .i64 R (by omega) (by omega) W
  have hmk := fun W => run_make_row' (P := Tryd.prog) 65 69 (.int .u64 0) 8 Tryd.underlying65 u64Info rfl .i64 .i64 (wordsOf C) (by unfold wordsOf; omega) (by unfold wordsOf; omega) W
  clear hR hC
  go_enter Tryd.func20, Tryd.ntmps20
  go_wp2_with fail
  refine W1.out.mono ?_
  rintro e w' ⟨rfl, rfl⟩
  go_wp2_with fail
  refine W2.out.mono ?_
  rintro e w' ⟨rfl, rfl⟩
  go_wp2_with fail
  have hinv : NewInv w R C 0 ((w.alloc (.cells #[.int .i64 R, .int .i64 C, .slice (some ⟨w.heap.size + 1, 0, none⟩) R R, .int .i64 0] 64)).alloc (.cells (madeCells #[Value.slice none 0 0] R) 65)) := by
    refine ⟨by simp, ?_, ?_, fun i hi => absurd hi (Nat.not_lt_zero _), ((Below.refl _ _).alloc (Nat.le_refl _) _).alloc (by simp) _⟩
    · rw [Below.heap_alloc _ _ _ (by simp), heap_alloc_new]
      rfl
    · have := heap_alloc_new (w.alloc (.cells #[.int .i64 R, .int .i64 C, .slice (some ⟨w.heap.size + 1, 0, none⟩) R R, .int .i64 0] 64)) (.cells (madeCells #[Value.slice none 0 0] R) 65)
      rw [show (w.alloc (.cells #[.int .i64 R, .int .i64 C, .slice (some ⟨w.heap.size + 1, 0, none⟩) R R, .int .i64 0] 64)).heap.size = w.heap.size + 1 from by simp] at this
      rw [this, madeRow]
      rfl
  have HI := Lib.hid hinv
  clear hinv hmk2 W1 W2
  have e1 : IntKind.i64.wrap ((C : Int) + 64) = (C : Int) + 64 := IntWalk.i64_in _ (by omega)
  have e2 : IntKind.i64.wrap ((C : Int) + 64 - 1) = (C : Int) + 63 := (IntWalk.i64_in _ (by omega)).trans (by omega)
  have e2' : IntKind.i64.wrap ((C : Int) + 63) = (C : Int) + 63 := IntWalk.i64_in _ (by omega)
  have hkk : ((C : Int) + 63) / 64 = (wordsOf C : Int) := by unfold wordsOf; omega
  have e3 : IntKind.i64.wrap (((C : Int) + 63).tdiv 64) = (wordsOf C : Int) := (IntWalk.i64_quo _ _ (by omega)).trans hkk
  have hK16 : wordsOf C ≤ 16 := by unfold wordsOf; omega
  generalize hKW : wordsOf C = K at hmk hkk e3 hK16
  have HK := Lib.hid hKW
  clear hKW
  go_loopg [25] R (fun g s wr => ∃ k : Nat, k ≤ R ∧ g = R - k ∧ s = .int .i64 k ∧ Hid (NewInv w R C k wr))
  case atStart => exact ⟨0, Nat.zero_le _, rfl, rfl, HI.out⟩
  case round =>
    clear HI
    obtain ⟨k, hk, rfl, rfl, hin⟩ := hrel
    have hio := hin.out
    by_cases hlt : k < R
    · have c1 : wr.cell? ⟨w.heap.size, 1, none⟩ = some (.int .i64 C) := by rw [cell_of_heap hio.obj]; rfl
      have c2 : wr.cell? ⟨w.heap.size, 2, none⟩ = some (.slice (some ⟨w.heap.size + 1, 0, none⟩) R R) := by rw [cell_of_heap hio.obj]; rfl
      have c3 : wr.cell? ⟨w.heap.size + 1, k, none⟩ = some (.slice none 0 0) := by rw [cell_of_heap hio.rows, fnRow_get _ _ _ hlt, if_neg (Nat.lt_irrefl _)]
      have f3 : wr.frozen? ⟨w.heap.size + 1, k, none⟩ = false := free_of_heap hio.rows k
      have l1 : w.heap.size < wr.heap.size := lt_of_heap hio.obj
      have l2 : w.heap.size + 1 < wr.heap.size := lt_of_heap hio.rows
      have hkI : (k : Int) < (R : Int) := by omega
      have hst := hio.step hlt
      rw [HK.out] at hst
      rw [World.setCell_alloc_past _ _ _ _ l2] at hst
      have HST := Lib.hid hst
      clear hst hio
      go_wp2_with fail
      go_region
      go_wp2_with fail
      go_roundg (R - (k + 1))
      case measure => omega
      case rel => exact ⟨k + 1, by omega, rfl, by go_num, HST.out⟩
    · obtain rfl : k = R := by omega
      clear hio
      go_wp2
      go_ret
      exact ⟨rfl, hin.out.fam hRl hCl, hin.out.below⟩
end Go.Proofs.YtckjgefpelnkoaaDoor
