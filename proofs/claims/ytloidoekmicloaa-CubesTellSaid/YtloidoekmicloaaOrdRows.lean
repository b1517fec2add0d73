/-
  Orders: what undoes one, one behind another, all as it is, and two neighbours changed.
-/
import Derived.Test.YtloidoekmicloaaOrdRight
import Derived.Test.YtloidoekmicloaaNodeTab
set_option linter.unusedVariables false
set_option linter.unusedSimpArgs false
set_option linter.unnecessarySimpa false
namespace Go.Proofs.Ytloidoekmicloaa
open Go.ChangeShapes Go.WideShapes Go.ChangeAt Go.RowKit Go.Deep
def irow (F : Nat → Int) (m : Nat) : Array Value := ((List.range m).map fun j => Value.int .i64 (F j)).toArray
theorem irow_get (F : Nat → Int) (m j : Nat) (h : j < m) : (irow F m)[j]? = some (.int .i64 (F j)) := by simp [irow, h]
theorem irow_size (F : Nat → Int) (m : Nat) : (irow F m).size = m := by simp [irow]
theorem irow_congr {F G : Nat → Int} {m : Nat} (h : ∀ j, j < m → F j = G j) : irow F m = irow G m := by
  unfold irow
  congr 1
  refine List.map_congr_left fun j hj => ?_
  rw [h j (List.mem_range.1 hj)]
theorem irow_set (F : Nat → Int) (m j : Nat) (x : Int) (h : j < m) : (irow F m).setIfInBounds j (.int .i64 x) = irow (fun i => if i = j then x else F i) m := by
  apply Array.ext_getElem?
  intro i
  by_cases hi : i < m
  · rw [irow_get _ _ _ hi]
    by_cases e : i = j
    · subst e
      rw [Array.getElem?_setIfInBounds_self_of_lt (by rw [irow_size]; exact hi), if_pos rfl]
    · rw [Array.getElem?_setIfInBounds_ne (by omega), irow_get _ _ _ hi, if_neg e]
  · rw [Array.getElem?_eq_none (by rw [Array.size_setIfInBounds, irow_size]; omega), Array.getElem?_eq_none (by rw [irow_size]; omega)]
theorem iinfo : (Try.prog.info? 3).map (fun i => (i.zero, i.size, i.bytes)) = some (some (.int .i64 0), 1, 8) := by kernel_rfl
theorem imade (N : Nat) : madeCells (Value.int .i64 0).cells (N * 1) = irow (fun _ => 0) N := by
  apply Array.ext_getElem?
  intro i
  rcases Nat.lt_or_ge i N with h | h
  · rw [irow_get _ _ _ h]
    have := madeCells_get #[Value.int .i64 0] N i 0 (.int .i64 0) h rfl
    show (madeCells #[Value.int .i64 0] (N * 1))[i]? = _
    simpa using this
  · rw [Array.getElem?_eq_none (by simpa [size_madeCells] using h), Array.getElem?_eq_none (by rw [irow_size]; exact h)]
/-- A row of numbers at a block. -/
def IRow (W : World) (b m : Nat) (F : Nat → Int) : Prop := W.heap[b]? = some (.cells (irow F m) 3 (0, 0))
section
variable {W W' : World} {b m : Nat} {F G : Nat → Int}
theorem IRow.cell (h : IRow W b m F) {j : Nat} (hj : j < m) : W.cell? ⟨b, j, none⟩ = some (.int .i64 (F j)) := by
  rw [cell_of_heap h]; exact irow_get _ _ _ hj
theorem IRow.keeps (h : IRow W b m F) {S : Nat → Prop} (hk : Keeps S W W') (hs : ¬ S b) : IRow W' b m F := (hk.block b (lt_of_heap h) hs).trans h
theorem IRow.set (h : IRow W b m F) {j : Nat} (hj : j < m) (x : Int) : IRow (W.setCell ⟨b, j, none⟩ (.int .i64 x)) b m (fun i => if i = j then x else F i) := by
  unfold IRow at h ⊢
  rw [heap_set h, irow_set _ _ _ _ hj]
theorem IRow.congr (h : IRow W b m F) (he : ∀ j, j < m → F j = G j) : IRow W b m G := by
  unfold IRow at h ⊢
  rw [h, irow_congr he]
theorem IRow.reads (h : IRow W b m F) : ReadsI W (.slice (some ⟨b, 0, none⟩) m m) ((List.range m).map F) := by
  refine ⟨some ⟨b, 0, none⟩, m, by simp, by simp, fun _ => ⟨b, 0, rfl, lt_of_heap h, fun j x hj => ?_⟩⟩
  rw [List.getElem?_map] at hj
  rcases Nat.lt_or_ge j m with h1 | h1
  · rw [List.getElem?_range h1] at hj
    simp only [Option.map_some, Option.some.injEq] at hj
    rw [Nat.zero_add, h.cell h1, hj]
  · rw [List.getElem?_eq_none (by simpa using h1)] at hj; cases hj
end
/-- A row that was made. -/
def IPost (m : Nat) (F : Nat → Int) (W : World) (e : Ending) (W' : World) : Prop := ∃ b, e = .returned (.slice (some ⟨b, 0, none⟩) m m) ∧ Hid (W.heap.size ≤ b ∧ Keeps (fun _ => False) W W' ∧ IRow W' b m F)
/-- What undoes an order. -/
def Undoes (l : List Int) (F : Nat → Int) (i : Nat) : Prop := ∀ (j v : Nat), j < i → l[j]? = some (v : Int) → F v = j
theorem Undoes.step {n : Nat} {l : List Int} {F : Nat → Int} {i v : Nat} (h : Undoes l F i) (ho : ordB n l = true) (hi : l[i]? = some (v : Int)) : Undoes l (fun x => if x = v then (i : Int) else F x) (i + 1) := fun j x hj hx => by
  show (if x = v then (i : Int) else F x) = j
  by_cases e : x = v
  · subst e
    rw [if_pos rfl, nodup_get (ordB_iff.1 ho).2.2.2.2 hx hi]
  · rw [if_neg e]
    refine h j x ?_ hx
    rcases Nat.lt_or_ge j i with h1 | h1
    · exact h1
    · obtain rfl : j = i := by omega
      rw [hi] at hx
      simp only [Option.some.injEq] at hx
      omega
set_option maxRecDepth 100000
set_option maxHeartbeats 1600000
end Go.Proofs.Ytloidoekmicloaa
