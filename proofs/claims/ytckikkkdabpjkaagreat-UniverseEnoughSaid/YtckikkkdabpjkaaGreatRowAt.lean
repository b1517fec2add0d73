/-
 The cells of a box; a row of texts that lies behind a block; a query's value.
-/
import Derived.Test.YtckikkkdabpjkaaGreatMD
import Derived.Test.YtckikkkdabpjkaaGreatMA
set_option linter.unusedVariables false
set_option linter.unusedSimpArgs false
namespace Go.Proofs.YtckikkkdabpjkaaGreat
open Go.ChangeShapes Go.WideShapes Go.ChangeAt Go.RowKit Go.Deep
set_option maxHeartbeats 1600000 in
theorem cf2 {W : World} {T : TypeId} {B : Nat} {u0 u1 : Value} (h : W.heap[B]? = some (.cells #[u0, u1] T)) : W.cell? ⟨B, 0, none⟩ = some u0 ∧ W.frozen? ⟨B, 0, none⟩ = false ∧ W.cell? ⟨B, 1, none⟩ = some u1 ∧ W.frozen? ⟨B, 1, none⟩ = false := ⟨by rw [cell_of_heap h]; rfl, Lib.frozen_of_heap h 0, by rw [cell_of_heap h]; rfl, Lib.frozen_of_heap h 1⟩
theorem cf4 {W : World} {T : TypeId} {B : Nat} {u0 u1 u2 u3 : Value} (h : W.heap[B]? = some (.cells #[u0, u1, u2, u3] T)) : W.cell? ⟨B, 0, none⟩ = some u0 ∧ W.frozen? ⟨B, 0, none⟩ = false ∧ W.cell? ⟨B, 1, none⟩ = some u1 ∧ W.frozen? ⟨B, 1, none⟩ = false ∧ W.cell? ⟨B, 2, none⟩ = some u2 ∧ W.frozen? ⟨B, 2, none⟩ = false ∧ W.cell? ⟨B, 3, none⟩ = some u3 ∧ W.frozen? ⟨B, 3, none⟩ = false := ⟨by rw [cell_of_heap h]; rfl, Lib.frozen_of_heap h 0, by rw [cell_of_heap h]; rfl, Lib.frozen_of_heap h 1, by rw [cell_of_heap h]; rfl, Lib.frozen_of_heap h 2, by rw [cell_of_heap h]; rfl, Lib.frozen_of_heap h 3⟩
theorem cf6 {W : World} {T : TypeId} {B : Nat} {u0 u1 u2 u3 u4 u5 : Value} (h : W.heap[B]? = some (.cells #[u0, u1, u2, u3, u4, u5] T)) : W.cell? ⟨B, 0, none⟩ = some u0 ∧ W.frozen? ⟨B, 0, none⟩ = false ∧ W.cell? ⟨B, 1, none⟩ = some u1 ∧ W.frozen? ⟨B, 1, none⟩ = false ∧ W.cell? ⟨B, 2, none⟩ = some u2 ∧ W.frozen? ⟨B, 2, none⟩ = false ∧ W.cell? ⟨B, 3, none⟩ = some u3 ∧ W.frozen? ⟨B, 3, none⟩ = false ∧ W.cell? ⟨B, 4, none⟩ = some u4 ∧ W.frozen? ⟨B, 4, none⟩ = false ∧ W.cell? ⟨B, 5, none⟩ = some u5 ∧ W.frozen? ⟨B, 5, none⟩ = false := ⟨by rw [cell_of_heap h]; rfl, Lib.frozen_of_heap h 0, by rw [cell_of_heap h]; rfl, Lib.frozen_of_heap h 1, by rw [cell_of_heap h]; rfl, Lib.frozen_of_heap h 2, by rw [cell_of_heap h]; rfl, Lib.frozen_of_heap h 3, by rw [cell_of_heap h]; rfl, Lib.frozen_of_heap h 4, by rw [cell_of_heap h]; rfl, Lib.frozen_of_heap h 5⟩
theorem cf9 {W : World} {T : TypeId} {B : Nat} {u0 u1 u2 u3 u4 u5 u6 u7 u8 : Value} (h : W.heap[B]? = some (.cells #[u0, u1, u2, u3, u4, u5, u6, u7, u8] T)) : W.cell? ⟨B, 0, none⟩ = some u0 ∧ W.frozen? ⟨B, 0, none⟩ = false ∧ W.cell? ⟨B, 1, none⟩ = some u1 ∧ W.frozen? ⟨B, 1, none⟩ = false ∧ W.cell? ⟨B, 2, none⟩ = some u2 ∧ W.frozen? ⟨B, 2, none⟩ = false ∧ W.cell? ⟨B, 3, none⟩ = some u3 ∧ W.frozen? ⟨B, 3, none⟩ = false ∧ W.cell? ⟨B, 4, none⟩ = some u4 ∧ W.frozen? ⟨B, 4, none⟩ = false ∧ W.cell? ⟨B, 5, none⟩ = some u5 ∧ W.frozen? ⟨B, 5, none⟩ = false ∧ W.cell? ⟨B, 6, none⟩ = some u6 ∧ W.frozen? ⟨B, 6, none⟩ = false ∧ W.cell? ⟨B, 7, none⟩ = some u7 ∧ W.frozen? ⟨B, 7, none⟩ = false ∧ W.cell? ⟨B, 8, none⟩ = some u8 ∧ W.frozen? ⟨B, 8, none⟩ = false := ⟨by rw [cell_of_heap h]; rfl, Lib.frozen_of_heap h 0, by rw [cell_of_heap h]; rfl, Lib.frozen_of_heap h 1, by rw [cell_of_heap h]; rfl, Lib.frozen_of_heap h 2, by rw [cell_of_heap h]; rfl, Lib.frozen_of_heap h 3, by rw [cell_of_heap h]; rfl, Lib.frozen_of_heap h 4, by rw [cell_of_heap h]; rfl, Lib.frozen_of_heap h 5, by rw [cell_of_heap h]; rfl, Lib.frozen_of_heap h 6, by rw [cell_of_heap h]; rfl, Lib.frozen_of_heap h 7, by rw [cell_of_heap h]; rfl, Lib.frozen_of_heap h 8⟩
/-- A query's value: who is asked of is a slice. -/
def qryV (q : Qry) (v : Value) : Value := .agg #[.int .i64 q.1, .string ⟨q.2.1.1.toArray⟩, .string ⟨q.2.1.2.toArray⟩, .string ⟨q.2.2.1.1.toArray⟩, .string ⟨q.2.2.1.2.toArray⟩, v]
/-- A row of texts that lies behind a block. -/
def RowAt (lo : Nat) (w : World) (v : Value) (l : List Str) : Prop := ReadsS w v l ∧ ∀ k, v.ownBlock = some k → lo ≤ k ∧ k < w.heap.size
theorem RowAt.keeps {lo : Nat} {w w' : World} {v : Value} {l : List Str} (h : RowAt lo w v l) {S : Nat → Prop} (hk : Keeps S w w') (hs : ∀ q, lo ≤ q → q < w.heap.size → ¬ S q) : RowAt lo w' v l := by
 obtain ⟨⟨ao, cap, rfl, hle, hr⟩, hb⟩ := h
 refine ⟨⟨ao, cap, rfl, hle, fun h0 => ?_⟩, fun k hk2 => ⟨(hb k hk2).1, Nat.lt_of_lt_of_le (hb k hk2).2 hk.size⟩⟩
 obtain ⟨g, off, rfl, h2, h3⟩ := hr h0
 have hg := hb g rfl
 exact ⟨g, off, rfl, Nat.lt_of_lt_of_le h2 hk.size, fun j x hj => (hk.cell (p := ⟨g, off + j, none⟩) h2 (hs g hg.1 h2)).trans (h3 j x hj)⟩
/-- A row without texts. -/
theorem RowAt.nil (lo : Nat) (w : World) : RowAt lo w (.slice none 0 0) [] := ⟨⟨none, 0, rfl, Nat.le_refl _, fun h => absurd h (by simp)⟩, fun k hk => by simp [Value.ownBlock] at hk⟩
end Go.Proofs.YtckikkkdabpjkaaGreat
