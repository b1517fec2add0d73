/-
 The drawing of statements: the program's and the document's.
-/
import Derived.Test.YtcdfpnlaklaafaaGreatME
import Derived.Test.YtcdfpnlaklaafaaGreatStmNorm
set_option linter.unusedVariables false
set_option linter.unusedSimpArgs false
set_option linter.unnecessarySimpa false
namespace Go.Proofs.YtcdfpnlaklaafaaGreat
open Go.ChangeShapes Go.WideShapes Go.ChangeAt Go.RowKit Go.Deep
set_option maxHeartbeats 1600000 in
theorem cf2 {W : World} {T : TypeId} {B : Nat} {u0 u1 : Value} (h : W.heap[B]? = some (.cells #[u0, u1] T)) : W.cell? ⟨B, 0, none⟩ = some u0 ∧ W.frozen? ⟨B, 0, none⟩ = false ∧ W.cell? ⟨B, 1, none⟩ = some u1 ∧ W.frozen? ⟨B, 1, none⟩ = false := ⟨by rw [cell_of_heap h]; rfl, Lib.frozen_of_heap h 0, by rw [cell_of_heap h]; rfl, Lib.frozen_of_heap h 1⟩
theorem cf4 {W : World} {T : TypeId} {B : Nat} {u0 u1 u2 u3 : Value} (h : W.heap[B]? = some (.cells #[u0, u1, u2, u3] T)) : W.cell? ⟨B, 0, none⟩ = some u0 ∧ W.frozen? ⟨B, 0, none⟩ = false ∧ W.cell? ⟨B, 1, none⟩ = some u1 ∧ W.frozen? ⟨B, 1, none⟩ = false ∧ W.cell? ⟨B, 2, none⟩ = some u2 ∧ W.frozen? ⟨B, 2, none⟩ = false ∧ W.cell? ⟨B, 3, none⟩ = some u3 ∧ W.frozen? ⟨B, 3, none⟩ = false := ⟨by rw [cell_of_heap h]; rfl, Lib.frozen_of_heap h 0, by rw [cell_of_heap h]; rfl, Lib.frozen_of_heap h 1, by rw [cell_of_heap h]; rfl, Lib.frozen_of_heap h 2, by rw [cell_of_heap h]; rfl, Lib.frozen_of_heap h 3⟩
theorem cf6 {W : World} {T : TypeId} {B : Nat} {u0 u1 u2 u3 u4 u5 : Value} (h : W.heap[B]? = some (.cells #[u0, u1, u2, u3, u4, u5] T)) : W.cell? ⟨B, 0, none⟩ = some u0 ∧ W.frozen? ⟨B, 0, none⟩ = false ∧ W.cell? ⟨B, 1, none⟩ = some u1 ∧ W.frozen? ⟨B, 1, none⟩ = false ∧ W.cell? ⟨B, 2, none⟩ = some u2 ∧ W.frozen? ⟨B, 2, none⟩ = false ∧ W.cell? ⟨B, 3, none⟩ = some u3 ∧ W.frozen? ⟨B, 3, none⟩ = false ∧ W.cell? ⟨B, 4, none⟩ = some u4 ∧ W.frozen? ⟨B, 4, none⟩ = false ∧ W.cell? ⟨B, 5, none⟩ = some u5 ∧ W.frozen? ⟨B, 5, none⟩ = false := ⟨by rw [cell_of_heap h]; rfl, Lib.frozen_of_heap h 0, by rw [cell_of_heap h]; rfl, Lib.frozen_of_heap h 1, by rw [cell_of_heap h]; rfl, Lib.frozen_of_heap h 2, by rw [cell_of_heap h]; rfl, Lib.frozen_of_heap h 3, by rw [cell_of_heap h]; rfl, Lib.frozen_of_heap h 4, by rw [cell_of_heap h]; rfl, Lib.frozen_of_heap h 5⟩
theorem cf9 {W : World} {T : TypeId} {B : Nat} {u0 u1 u2 u3 u4 u5 u6 u7 u8 : Value} (h : W.heap[B]? = some (.cells #[u0, u1, u2, u3, u4, u5, u6, u7, u8] T)) : W.cell? ⟨B, 0, none⟩ = some u0 ∧ W.frozen? ⟨B, 0, none⟩ = false ∧ W.cell? ⟨B, 1, none⟩ = some u1 ∧ W.frozen? ⟨B, 1, none⟩ = false ∧ W.cell? ⟨B, 2, none⟩ = some u2 ∧ W.frozen? ⟨B, 2, none⟩ = false ∧ W.cell? ⟨B, 3, none⟩ = some u3 ∧ W.frozen? ⟨B, 3, none⟩ = false ∧ W.cell? ⟨B, 4, none⟩ = some u4 ∧ W.frozen? ⟨B, 4, none⟩ = false ∧ W.cell? ⟨B, 5, none⟩ = some u5 ∧ W.frozen? ⟨B, 5, none⟩ = false ∧ W.cell? ⟨B, 6, none⟩ = some u6 ∧ W.frozen? ⟨B, 6, none⟩ = false ∧ W.cell? ⟨B, 7, none⟩ = some u7 ∧ W.frozen? ⟨B, 7, none⟩ = false ∧ W.cell? ⟨B, 8, none⟩ = some u8 ∧ W.frozen? ⟨B, 8, none⟩ = false := ⟨by rw [cell_of_heap h]; rfl, Lib.frozen_of_heap h 0, by rw [cell_of_heap h]; rfl, Lib.frozen_of_heap h 1, by rw [cell_of_heap h]; rfl, Lib.frozen_of_heap h 2, by rw [cell_of_heap h]; rfl, Lib.frozen_of_heap h 3, by rw [cell_of_heap h]; rfl, Lib.frozen_of_heap h 4, by rw [cell_of_heap h]; rfl, Lib.frozen_of_heap h 5, by rw [cell_of_heap h]; rfl, Lib.frozen_of_heap h 6, by rw [cell_of_heap h]; rfl, Lib.frozen_of_heap h 7, by rw [cell_of_heap h]; rfl, Lib.frozen_of_heap h 8⟩
theorem sx2 {W : World} {T : TypeId} {B : Nat} {u0 u1 : Value} (h : W.heap[B]? = some (.cells #[u0, u1] T)) (v0 v1 : Value) :
  ((W.setCell ⟨B, 0, none⟩ v0).setCell ⟨B, 1, none⟩ v1).heap[B]? = some (.cells #[v0, v1] T) ∧ Keeps (fun q => q = B) W ((W.setCell ⟨B, 0, none⟩ v0).setCell ⟨B, 1, none⟩ v1) := by
 have s0 : (W.setCell ⟨B, 0, none⟩ v0).heap[B]? = some (.cells #[v0, u1] T) := heap_set h 0 v0
 have s1 : ((W.setCell ⟨B, 0, none⟩ v0).setCell ⟨B, 1, none⟩ v1).heap[B]? = some (.cells #[v0, v1] T) := heap_set s0 1 v1
 exact ⟨s1, (Keeps.setCell (S := fun q => q = B) (Keeps.setCell (S := fun q => q = B) (Keeps.refl _ _) (p := ⟨B, 0, none⟩) (fun _ => rfl) _) (p := ⟨B, 1, none⟩) (fun _ => rfl) _)⟩
theorem sx4 {W : World} {T : TypeId} {B : Nat} {u0 u1 u2 u3 : Value} (h : W.heap[B]? = some (.cells #[u0, u1, u2, u3] T)) (v0 v1 v2 v3 : Value) :
  ((((W.setCell ⟨B, 0, none⟩ v0).setCell ⟨B, 1, none⟩ v1).setCell ⟨B, 2, none⟩ v2).setCell ⟨B, 3, none⟩ v3).heap[B]? = some (.cells #[v0, v1, v2, v3] T) ∧ Keeps (fun q => q = B) W ((((W.setCell ⟨B, 0, none⟩ v0).setCell ⟨B, 1, none⟩ v1).setCell ⟨B, 2, none⟩ v2).setCell ⟨B, 3, none⟩ v3) := by
 have s0 : (W.setCell ⟨B, 0, none⟩ v0).heap[B]? = some (.cells #[v0, u1, u2, u3] T) := heap_set h 0 v0
 have s1 : ((W.setCell ⟨B, 0, none⟩ v0).setCell ⟨B, 1, none⟩ v1).heap[B]? = some (.cells #[v0, v1, u2, u3] T) := heap_set s0 1 v1
 have s2 : (((W.setCell ⟨B, 0, none⟩ v0).setCell ⟨B, 1, none⟩ v1).setCell ⟨B, 2, none⟩ v2).heap[B]? = some (.cells #[v0, v1, v2, u3] T) := heap_set s1 2 v2
 have s3 : ((((W.setCell ⟨B, 0, none⟩ v0).setCell ⟨B, 1, none⟩ v1).setCell ⟨B, 2, none⟩ v2).setCell ⟨B, 3, none⟩ v3).heap[B]? = some (.cells #[v0, v1, v2, v3] T) := heap_set s2 3 v3
 exact ⟨s3, (Keeps.setCell (S := fun q => q = B) (Keeps.setCell (S := fun q => q = B) (Keeps.setCell (S := fun q => q = B) (Keeps.setCell (S := fun q => q = B) (Keeps.refl _ _) (p := ⟨B, 0, none⟩) (fun _ => rfl) _) (p := ⟨B, 1, none⟩) (fun _ => rfl) _) (p := ⟨B, 2, none⟩) (fun _ => rfl) _) (p := ⟨B, 3, none⟩) (fun _ => rfl) _)⟩
theorem sx6 {W : World} {T : TypeId} {B : Nat} {u0 u1 u2 u3 u4 u5 : Value} (h : W.heap[B]? = some (.cells #[u0, u1, u2, u3, u4, u5] T)) (v0 v1 v2 v3 v4 v5 : Value) :
  ((((((W.setCell ⟨B, 0, none⟩ v0).setCell ⟨B, 1, none⟩ v1).setCell ⟨B, 2, none⟩ v2).setCell ⟨B, 3, none⟩ v3).setCell ⟨B, 4, none⟩ v4).setCell ⟨B, 5, none⟩ v5).heap[B]? = some (.cells #[v0, v1, v2, v3, v4, v5] T) ∧ Keeps (fun q => q = B) W ((((((W.setCell ⟨B, 0, none⟩ v0).setCell ⟨B, 1, none⟩ v1).setCell ⟨B, 2, none⟩ v2).setCell ⟨B, 3, none⟩ v3).setCell ⟨B, 4, none⟩ v4).setCell ⟨B, 5, none⟩ v5) := by
 have s0 : (W.setCell ⟨B, 0, none⟩ v0).heap[B]? = some (.cells #[v0, u1, u2, u3, u4, u5] T) := heap_set h 0 v0
 have s1 : ((W.setCell ⟨B, 0, none⟩ v0).setCell ⟨B, 1, none⟩ v1).heap[B]? = some (.cells #[v0, v1, u2, u3, u4, u5] T) := heap_set s0 1 v1
 have s2 : (((W.setCell ⟨B, 0, none⟩ v0).setCell ⟨B, 1, none⟩ v1).setCell ⟨B, 2, none⟩ v2).heap[B]? = some (.cells #[v0, v1, v2, u3, u4, u5] T) := heap_set s1 2 v2
 have s3 : ((((W.setCell ⟨B, 0, none⟩ v0).setCell ⟨B, 1, none⟩ v1).setCell ⟨B, 2, none⟩ v2).setCell ⟨B, 3, none⟩ v3).heap[B]? = some (.cells #[v0, v1, v2, v3, u4, u5] T) := heap_set s2 3 v3
 have s4 : (((((W.setCell ⟨B, 0, none⟩ v0).setCell ⟨B, 1, none⟩ v1).setCell ⟨B, 2, none⟩ v2).setCell ⟨B, 3, none⟩ v3).setCell ⟨B, 4, none⟩ v4).heap[B]? = some (.cells #[v0, v1, v2, v3, v4, u5] T) := heap_set s3 4 v4
 have s5 : ((((((W.setCell ⟨B, 0, none⟩ v0).setCell ⟨B, 1, none⟩ v1).setCell ⟨B, 2, none⟩ v2).setCell ⟨B, 3, none⟩ v3).setCell ⟨B, 4, none⟩ v4).setCell ⟨B, 5, none⟩ v5).heap[B]? = some (.cells #[v0, v1, v2, v3, v4, v5] T) := heap_set s4 5 v5
 exact ⟨s5, (Keeps.setCell (S := fun q => q = B) (Keeps.setCell (S := fun q => q = B) (Keeps.setCell (S := fun q => q = B) (Keeps.setCell (S := fun q => q = B) (Keeps.setCell (S := fun q => q = B) (Keeps.setCell (S := fun q => q = B) (Keeps.refl _ _) (p := ⟨B, 0, none⟩) (fun _ => rfl) _) (p := ⟨B, 1, none⟩) (fun _ => rfl) _) (p := ⟨B, 2, none⟩) (fun _ => rfl) _) (p := ⟨B, 3, none⟩) (fun _ => rfl) _) (p := ⟨B, 4, none⟩) (fun _ => rfl) _) (p := ⟨B, 5, none⟩) (fun _ => rfl) _)⟩
set_option maxHeartbeats 1600000 in
theorem sx9 {W : World} {T : TypeId} {B : Nat} {u0 u1 u2 u3 u4 u5 u6 u7 u8 : Value} (h : W.heap[B]? = some (.cells #[u0, u1, u2, u3, u4, u5, u6, u7, u8] T)) (v0 v1 v2 v3 v4 v5 v6 v7 v8 : Value) :
  (((((((((W.setCell ⟨B, 0, none⟩ v0).setCell ⟨B, 1, none⟩ v1).setCell ⟨B, 2, none⟩ v2).setCell ⟨B, 3, none⟩ v3).setCell ⟨B, 4, none⟩ v4).setCell ⟨B, 5, none⟩ v5).setCell ⟨B, 6, none⟩ v6).setCell ⟨B, 7, none⟩ v7).setCell ⟨B, 8, none⟩ v8).heap[B]? = some (.cells #[v0, v1, v2, v3, v4, v5, v6, v7, v8] T) ∧ Keeps (fun q => q = B) W (((((((((W.setCell ⟨B, 0, none⟩ v0).setCell ⟨B, 1, none⟩ v1).setCell ⟨B, 2, none⟩ v2).setCell ⟨B, 3, none⟩ v3).setCell ⟨B, 4, none⟩ v4).setCell ⟨B, 5, none⟩ v5).setCell ⟨B, 6, none⟩ v6).setCell ⟨B, 7, none⟩ v7).setCell ⟨B, 8, none⟩ v8) := by
 have s0 : (W.setCell ⟨B, 0, none⟩ v0).heap[B]? = some (.cells #[v0, u1, u2, u3, u4, u5, u6, u7, u8] T) := heap_set h 0 v0
 have s1 : ((W.setCell ⟨B, 0, none⟩ v0).setCell ⟨B, 1, none⟩ v1).heap[B]? = some (.cells #[v0, v1, u2, u3, u4, u5, u6, u7, u8] T) := heap_set s0 1 v1
 have s2 : (((W.setCell ⟨B, 0, none⟩ v0).setCell ⟨B, 1, none⟩ v1).setCell ⟨B, 2, none⟩ v2).heap[B]? = some (.cells #[v0, v1, v2, u3, u4, u5, u6, u7, u8] T) := heap_set s1 2 v2
 have s3 : ((((W.setCell ⟨B, 0, none⟩ v0).setCell ⟨B, 1, none⟩ v1).setCell ⟨B, 2, none⟩ v2).setCell ⟨B, 3, none⟩ v3).heap[B]? = some (.cells #[v0, v1, v2, v3, u4, u5, u6, u7, u8] T) := heap_set s2 3 v3
 have s4 : (((((W.setCell ⟨B, 0, none⟩ v0).setCell ⟨B, 1, none⟩ v1).setCell ⟨B, 2, none⟩ v2).setCell ⟨B, 3, none⟩ v3).setCell ⟨B, 4, none⟩ v4).heap[B]? = some (.cells #[v0, v1, v2, v3, v4, u5, u6, u7, u8] T) := heap_set s3 4 v4
 have s5 : ((((((W.setCell ⟨B, 0, none⟩ v0).setCell ⟨B, 1, none⟩ v1).setCell ⟨B, 2, none⟩ v2).setCell ⟨B, 3, none⟩ v3).setCell ⟨B, 4, none⟩ v4).setCell ⟨B, 5, none⟩ v5).heap[B]? = some (.cells #[v0, v1, v2, v3, v4, v5, u6, u7, u8] T) := heap_set s4 5 v5
 have s6 : (((((((W.setCell ⟨B, 0, none⟩ v0).setCell ⟨B, 1, none⟩ v1).setCell ⟨B, 2, none⟩ v2).setCell ⟨B, 3, none⟩ v3).setCell ⟨B, 4, none⟩ v4).setCell ⟨B, 5, none⟩ v5).setCell ⟨B, 6, none⟩ v6).heap[B]? = some (.cells #[v0, v1, v2, v3, v4, v5, v6, u7, u8] T) := heap_set s5 6 v6
 have s7 : ((((((((W.setCell ⟨B, 0, none⟩ v0).setCell ⟨B, 1, none⟩ v1).setCell ⟨B, 2, none⟩ v2).setCell ⟨B, 3, none⟩ v3).setCell ⟨B, 4, none⟩ v4).setCell ⟨B, 5, none⟩ v5).setCell ⟨B, 6, none⟩ v6).setCell ⟨B, 7, none⟩ v7).heap[B]? = some (.cells #[v0, v1, v2, v3, v4, v5, v6, v7, u8] T) := heap_set s6 7 v7
 have s8 : (((((((((W.setCell ⟨B, 0, none⟩ v0).setCell ⟨B, 1, none⟩ v1).setCell ⟨B, 2, none⟩ v2).setCell ⟨B, 3, none⟩ v3).setCell ⟨B, 4, none⟩ v4).setCell ⟨B, 5, none⟩ v5).setCell ⟨B, 6, none⟩ v6).setCell ⟨B, 7, none⟩ v7).setCell ⟨B, 8, none⟩ v8).heap[B]? = some (.cells #[v0, v1, v2, v3, v4, v5, v6, v7, v8] T) := heap_set s7 8 v8
 exact ⟨s8, (Keeps.setCell (S := fun q => q = B) (Keeps.setCell (S := fun q => q = B) (Keeps.setCell (S := fun q => q = B) (Keeps.setCell (S := fun q => q = B) (Keeps.setCell (S := fun q => q = B) (Keeps.setCell (S := fun q => q = B) (Keeps.setCell (S := fun q => q = B) (Keeps.setCell (S := fun q => q = B) (Keeps.setCell (S := fun q => q = B) (Keeps.refl _ _) (p := ⟨B, 0, none⟩) (fun _ => rfl) _) (p := ⟨B, 1, none⟩) (fun _ => rfl) _) (p := ⟨B, 2, none⟩) (fun _ => rfl) _) (p := ⟨B, 3, none⟩) (fun _ => rfl) _) (p := ⟨B, 4, none⟩) (fun _ => rfl) _) (p := ⟨B, 5, none⟩) (fun _ => rfl) _) (p := ⟨B, 6, none⟩) (fun _ => rfl) _) (p := ⟨B, 7, none⟩) (fun _ => rfl) _) (p := ⟨B, 8, none⟩) (fun _ => rfl) _)⟩
section
variable {W W' : World} {T : TypeId} {b : Nat} {x : Int}
set_option maxRecDepth 100000
set_option maxHeartbeats 6400000
theorem drole_at {s : Shp} (hs : fitsD s = true) {x y : Int} {r1 r2 : Str} (e : rolD x s = ((r1, r2), y)) (W : World) (h : StB W 67 b x) : Calls Tryz.prog 12 #[.pointer (some ⟨b, 0, none⟩), ShpV s] W (DrTo W 67 b (.agg #[.string ⟨r1.toArray⟩, .string ⟨r2.toArray⟩]) y) := by
 have q := drole_spec (s := s) h
 unfold orD at q
 rw [if_pos hs, e] at q
 exact q
theorem dprin_at {s : Shp} (hs : fitsD s = true) {x y : Int} {r : Str} (e : prinD x s = (r, y)) (W : World) (h : StB W 67 b x) : Calls Tryz.prog 28 #[.pointer (some ⟨b, 0, none⟩), ShpV s] W (DrTo W 67 b (.string ⟨r.toArray⟩) y) := by
 have q := dprin_spec hs h
 rw [e] at q
 exact q
theorem dname_at {s : Shp} (hs : fitsD s = true) {x y : Int} {r : Str} (e : nameD x s = (r, y)) (W : World) (h : StB W 67 b x) : Calls Tryz.prog 29 #[.pointer (some ⟨b, 0, none⟩), ShpV s] W (DrTo W 67 b (.string ⟨r.toArray⟩) y) := by
 have q := dname_spec hs h
 rw [e] at q
 exact q
theorem dbelow_at {n : Int} (hn2 : n ≤ 9223372036854775807) {x k y : Int} (e : belD x n = (k, y)) (W : World) (h : StB W 67 b x) : Calls Tryz.prog 10 #[.pointer (some ⟨b, 0, none⟩), .int .i64 n] W (DrTo W 67 b (.int .i64 k) y) := by
 have q := dbelow_spec hn2 h
 rw [e] at q
 exact q
theorem rrole_at {s : Shp} (hs : fitsD s = true) {x y : Int} {r1 r2 : Str} (e : rolD x s = ((r1, r2), y)) (W : World) (h : StB W 30 b x) : Calls Tryz.prog 11 #[.pointer (some ⟨b, 0, none⟩), ShpV s] W (DrTo W 30 b (.agg #[.string ⟨r1.toArray⟩, .string ⟨r2.toArray⟩]) y) := by
 have q := rrole_spec hs h
 rw [e] at q
 exact q
theorem rbelow_at {n : Int} (hn2 : n ≤ 9223372036854775807) {x k y : Int} (e : belD x n = (k, y)) (W : World) (h : StB W 30 b x) : Calls Tryz.prog 9 #[.pointer (some ⟨b, 0, none⟩), .int .i64 n] W (DrTo W 30 b (.int .i64 k) y) := by
 have q := rbelow_spec hn2 h
 rw [e] at q
 exact q
theorem dstmt_spec {s : Shp} (h : StB W 67 b x) :
  Calls Tryz.prog 14 #[.pointer (some ⟨b, 0, none⟩), ShpV s] W (DrTo W 67 b (stmV (orD s noStm stmD x).1) (orD s noStm stmD x).2) := by
 have HM : Hid (∀ W : World, Calls Tryz.prog 27 #[.pointer (some ⟨b, 0, none⟩), ShpV s] W fun e W' => e = .returned (.bool (fitsD s)) ∧ Hid (Keeps (fun _ => False) W W')) := fun W => dmay_spec s
 have hbl := lt_of_heap h.1
 have hal := (MapKept.heap_alloc W (.cells #[.int .i64 s.prins, .int .i64 s.links, .int .i64 s.stmts, .int .i64 s.grow, .int .i64 s.shrink, .int .i64 s.asks] 32)).1
 obtain ⟨WA, hWA⟩ : ∃ WA, W.alloc (.cells #[.int .i64 s.prins, .int .i64 s.links, .int .i64 s.stmts, .int .i64 s.grow, .int .i64 s.shrink, .int .i64 s.asks] 32) = WA := ⟨_, rfl⟩
 have hkA : Keeps (fun _ => False) W WA := by rw [← hWA]; exact (Keeps.refl _ _).alloc _
 have hsz : WA.heap.size = W.heap.size + 1 := by rw [← hWA]; simp
 rw [hWA] at hal
 have hal2 := (MapKept.heap_alloc WA (.cells #[.int .i64 0, .string ⟨#[]⟩, .string ⟨#[]⟩, .string ⟨#[]⟩, .string ⟨#[]⟩, .string ⟨#[]⟩, .string ⟨#[]⟩, .string ⟨#[]⟩, .string ⟨#[]⟩] 44)).1
 obtain ⟨WB, hWB⟩ : ∃ WB, WA.alloc (.cells #[.int .i64 0, .string ⟨#[]⟩, .string ⟨#[]⟩, .string ⟨#[]⟩, .string ⟨#[]⟩, .string ⟨#[]⟩, .string ⟨#[]⟩, .string ⟨#[]⟩, .string ⟨#[]⟩] 44) = WB := ⟨_, rfl⟩
 have hkB : Keeps (fun _ => False) WA WB := by rw [← hWB]; exact (Keeps.refl _ _).alloc _
 rw [hWB] at hal2
 have HS0 : Hid (WB.heap[W.heap.size]? = some (.cells #[.int .i64 s.prins, .int .i64 s.links, .int .i64 s.stmts, .int .i64 s.grow, .int .i64 s.shrink, .int .i64 s.asks] 32)) := (hkB.block _ (lt_of_heap hal) (fun x => x)).trans hal
 have HX0 := Lib.hid hal2
 have HK0 := Lib.hid (hkA.trans hkB)
 have HST0 := Lib.hid (h.keeps HK0.out (fun x => x))
 have HN : Hid (W.heap.size ≠ b ∧ WA.heap.size ≠ b ∧ WA.heap.size ≠ W.heap.size ∧ W.heap.size ≤ WA.heap.size ∧ b < W.heap.size) := ⟨by omega, by omega, by omega, by omega, hbl⟩
 clear hal hal2 hkA hkB hsz hbl h
 cases hf : fitsD s with
 | false =>
  have HE : Hid (orD s noStm stmD x = (noStm, x)) := by unfold orD; rw [hf]; exact rfl
  rw [HE.out]
  rw [hf] at HM
  clear hf HE
  unfold ShpV at *
  obtain ⟨Sc0, Sf0, Sc1, Sf1, Sc2, Sf2, Sc3, Sf3, Sc4, Sf4, Sc5, Sf5⟩ := cf6 HS0.out
  obtain ⟨Xc0, Xf0, Xc1, Xf1, Xc2, Xf2, Xc3, Xf3, Xc4, Xf4, Xc5, Xf5, Xc6, Xf6, Xc7, Xf7, Xc8, Xf8⟩ := cf9 HX0.out
  go_enter Tryz.func14, Tryz.ntmps14
  go_wp2_with fail
  refine (HM.out _).mono ?_
  rintro e w1 ⟨rfl, hk⟩
  have HS2 := Lib.hid (((hk.out).block _ (lt_of_heap HS0.out) (fun x => x)).trans HS0.out)
  have HX3 := Lib.hid (((hk.out).block _ (lt_of_heap HX0.out) (fun x => x)).trans HX0.out)
  have HS4 := Lib.hid (HST0.out.keeps hk.out (fun x => x))
  have HK5 := Lib.hid (HK0.out.trans hk.out)
  clear Sc0 Sf0 Sc1 Sf1 Sc2 Sf2 Sc3 Sf3 Sc4 Sf4 Sc5 Sf5 Xc0 Xf0 Xc1 Xf1 Xc2 Xf2 Xc3 Xf3 Xc4 Xf4 Xc5 Xf5 Xc6 Xf6 Xc7 Xf7 Xc8 Xf8
  clear hk HS0 HX0 HST0 HK0
  clear HM hWA hWB
  obtain ⟨Sc0, Sf0, Sc1, Sf1, Sc2, Sf2, Sc3, Sf3, Sc4, Sf4, Sc5, Sf5⟩ := cf6 HS2.out
  obtain ⟨Xc0, Xf0, Xc1, Xf1, Xc2, Xf2, Xc3, Xf3, Xc4, Xf4, Xc5, Xf5, Xc6, Xf6, Xc7, Xf7, Xc8, Xf8⟩ := cf9 HX3.out
  obtain ⟨hs0, hkE⟩ := sx9 HX3.out (.int .i64 0) (.string ⟨#[]⟩) (.string ⟨#[]⟩) (.string ⟨#[]⟩) (.string ⟨#[]⟩) (.string ⟨#[]⟩) (.string ⟨#[]⟩) (.string ⟨#[]⟩) (.string ⟨#[]⟩)
  have HX6 := Lib.hid hs0
  have HS7 := Lib.hid (((hkE).block _ (lt_of_heap HS2.out) (by have := HN.out; show ¬ _ = _; omega)).trans HS2.out)
  have HS8 := Lib.hid (HS4.out.keeps hkE (by have := HN.out; show ¬ _ = _; omega))
  have HK9 := Lib.hid (HK5.out.trans_new hkE (fun q hq e => by have := HN.out; omega))
  clear hkE hs0 HX3 HS2 HS4 HK5
  go_wp2_with fail
  clear Sc0 Sf0 Sc1 Sf1 Sc2 Sf2 Sc3 Sf3 Sc4 Sf4 Sc5 Sf5 Xc0 Xf0 Xc1 Xf1 Xc2 Xf2 Xc3 Xf3 Xc4 Xf4 Xc5 Xf5 Xc6 Xf6 Xc7 Xf7 Xc8 Xf8
  generalize (((((((((w1.setCell ⟨WA.heap.size, 0, none⟩ (.int .i64 0)).setCell ⟨WA.heap.size, 1, none⟩ (.string ⟨#[]⟩)).setCell ⟨WA.heap.size, 2, none⟩ (.string ⟨#[]⟩)).setCell ⟨WA.heap.size, 3, none⟩ (.string ⟨#[]⟩)).setCell ⟨WA.heap.size, 4, none⟩ (.string ⟨#[]⟩)).setCell ⟨WA.heap.size, 5, none⟩ (.string ⟨#[]⟩)).setCell ⟨WA.heap.size, 6, none⟩ (.string ⟨#[]⟩)).setCell ⟨WA.heap.size, 7, none⟩ (.string ⟨#[]⟩)).setCell ⟨WA.heap.size, 8, none⟩ (.string ⟨#[]⟩)) = WE at *
  obtain ⟨Xc0, Xf0, Xc1, Xf1, Xc2, Xf2, Xc3, Xf3, Xc4, Xf4, Xc5, Xf5, Xc6, Xf6, Xc7, Xf7, Xc8, Xf8⟩ := cf9 HX6.out
  refine bodyPost_ret (v := .agg #[.int .i64 0, .string ⟨#[]⟩, .string ⟨#[]⟩, .string ⟨#[]⟩, .string ⟨#[]⟩, .string ⟨#[]⟩, .string ⟨#[]⟩, .string ⟨#[]⟩, .string ⟨#[]⟩]) (by simp [results, Tryz.results14, go_sem, *]) rfl ?_
  exact ⟨rfl, HS8.out, HK9.out.mono (fun _ _ x => x.elim)⟩
 | true =>
  have HSH : Hid (fitsD s = true) := hf
  obtain ⟨⟨⟨h1, h2⟩, x1⟩, e1⟩ : ∃ q, rolD x s = q := ⟨_, rfl⟩
  obtain ⟨⟨k, x2⟩, e2⟩ : ∃ q, belD x1 4 = q := ⟨_, rfl⟩
  have hk := belD_range (x := x1) (n := 4) (by omega)
  rw [e2] at hk
  simp only at hk
  have HP1 : Hid (∀ W, StB W 67 b x → Calls Tryz.prog 12 #[.pointer (some ⟨b, 0, none⟩), ShpV s] W (DrTo W 67 b (.agg #[.string ⟨h1.toArray⟩, .string ⟨h2.toArray⟩]) x1)) := fun W h => drole_at hf e1 W h
  have HP2 : Hid (∀ W, StB W 67 b x1 → Calls Tryz.prog 10 #[.pointer (some ⟨b, 0, none⟩), .int .i64 4] W (DrTo W 67 b (.int .i64 k) x2)) := fun W h => dbelow_at (by omega) e2 W h
  rw [hf] at HM
  have hkk : k = 0 ∨ k = 1 ∨ k = 2 ∨ k = 3 := by omega
  clear hk
  rcases hkk with rfl | rfl | rfl | rfl
  ·obtain ⟨⟨o, x3⟩, e3⟩ : ∃ q, prinD x2 s = q := ⟨_, rfl⟩
   have HP3 : Hid (∀ W, StB W 67 b x2 → Calls Tryz.prog 28 #[.pointer (some ⟨b, 0, none⟩), ShpV s] W (DrTo W 67 b (.string ⟨o.toArray⟩) x3)) := fun W h => dprin_at hf e3 W h
   have HE : Hid (orD s noStm stmD x = (normS ((h1, h2), 1, o, ([], []), ([], []), []), x3)) := by
    show _ = _
    unfold orD
    rw [if_pos hf]
    unfold stmD bodD
    simp [e1, e2, e3, noRol]
   rw [HE.out]
   have HNM : Hid (∀ W, Calls Tryz.prog 31 #[stmV ((h1, h2), 1, o, ([], []), ([], []), [])] W fun e W' => e = .returned (stmV (normS ((h1, h2), 1, o, ([], []), ([], []), []))) ∧ Hid (Keeps (fun _ => False) W W')) := fun W => snorm_spec _
   obtain ⟨nn, hnn⟩ : ∃ q, normS ((h1, h2), 1, o, ([], []), ([], []), []) = q := ⟨_, rfl⟩
   rw [hnn] at HNM ⊢
   obtain ⟨⟨nh1, nh2⟩, nk, no, ⟨na1, na2⟩, ⟨nb1, nb2⟩, ni⟩ := nn
   clear hnn HE e1 e2 e3 hf HSH
   unfold ShpV stmV at *
   simp only at HNM
   obtain ⟨Sc0, Sf0, Sc1, Sf1, Sc2, Sf2, Sc3, Sf3, Sc4, Sf4, Sc5, Sf5⟩ := cf6 HS0.out
   obtain ⟨Xc0, Xf0, Xc1, Xf1, Xc2, Xf2, Xc3, Xf3, Xc4, Xf4, Xc5, Xf5, Xc6, Xf6, Xc7, Xf7, Xc8, Xf8⟩ := cf9 HX0.out
   go_enter Tryz.func14, Tryz.ntmps14
   go_wp2_with fail
   refine (HM.out _).mono ?_
   rintro e w10 ⟨rfl, hk⟩
   have HS11 := Lib.hid (((hk.out).block _ (lt_of_heap HS0.out) (fun x => x)).trans HS0.out)
   have HX12 := Lib.hid (((hk.out).block _ (lt_of_heap HX0.out) (fun x => x)).trans HX0.out)
   have HS13 := Lib.hid (HST0.out.keeps hk.out (fun x => x))
   have HK14 := Lib.hid (HK0.out.trans hk.out)
   clear Sc0 Sf0 Sc1 Sf1 Sc2 Sf2 Sc3 Sf3 Sc4 Sf4 Sc5 Sf5 Xc0 Xf0 Xc1 Xf1 Xc2 Xf2 Xc3 Xf3 Xc4 Xf4 Xc5 Xf5 Xc6 Xf6 Xc7 Xf7 Xc8 Xf8
   clear hk HS0 HX0 HST0 HK0
   clear HM hWA hWB
   obtain ⟨Sc0, Sf0, Sc1, Sf1, Sc2, Sf2, Sc3, Sf3, Sc4, Sf4, Sc5, Sf5⟩ := cf6 HS11.out
   obtain ⟨Xc0, Xf0, Xc1, Xf1, Xc2, Xf2, Xc3, Xf3, Xc4, Xf4, Xc5, Xf5, Xc6, Xf6, Xc7, Xf7, Xc8, Xf8⟩ := cf9 HX12.out
   go_wp2_with fail
   refine (HP1.out _ HS13.out).mono ?_
   rintro e w15 ⟨rfl, hk⟩
   have HS16 := Lib.hid (((hk.out.2).block _ (lt_of_heap HS11.out) (by have := HN.out; show ¬ _ = _; omega)).trans HS11.out)
   have HX17 := Lib.hid (((hk.out.2).block _ (lt_of_heap HX12.out) (by have := HN.out; show ¬ _ = _; omega)).trans HX12.out)
   have HS18 := Lib.hid (hk.out.1)
   have HK19 := Lib.hid ((HK14.out.mono (fun _ _ x => x.elim)).trans hk.out.2)
   clear Sc0 Sf0 Sc1 Sf1 Sc2 Sf2 Sc3 Sf3 Sc4 Sf4 Sc5 Sf5 Xc0 Xf0 Xc1 Xf1 Xc2 Xf2 Xc3 Xf3 Xc4 Xf4 Xc5 Xf5 Xc6 Xf6 Xc7 Xf7 Xc8 Xf8
   clear hk HP1 HS11 HX12 HS13 HK14
   obtain ⟨Sc0, Sf0, Sc1, Sf1, Sc2, Sf2, Sc3, Sf3, Sc4, Sf4, Sc5, Sf5⟩ := cf6 HS16.out
   obtain ⟨Xc0, Xf0, Xc1, Xf1, Xc2, Xf2, Xc3, Xf3, Xc4, Xf4, Xc5, Xf5, Xc6, Xf6, Xc7, Xf7, Xc8, Xf8⟩ := cf9 HX17.out
   have hs0 : (w15.setCell ⟨WA.heap.size, 1, none⟩ (.string ⟨h1.toArray⟩)).heap[WA.heap.size]? = some (.cells #[.int .i64 0, .string ⟨h1.toArray⟩, .string ⟨#[]⟩, .string ⟨#[]⟩, .string ⟨#[]⟩, .string ⟨#[]⟩, .string ⟨#[]⟩, .string ⟨#[]⟩, .string ⟨#[]⟩] 44) := heap_set (HX17.out) 1 (.string ⟨h1.toArray⟩)
   have hs1 : ((w15.setCell ⟨WA.heap.size, 1, none⟩ (.string ⟨h1.toArray⟩)).setCell ⟨WA.heap.size, 2, none⟩ (.string ⟨h2.toArray⟩)).heap[WA.heap.size]? = some (.cells #[.int .i64 0, .string ⟨h1.toArray⟩, .string ⟨h2.toArray⟩, .string ⟨#[]⟩, .string ⟨#[]⟩, .string ⟨#[]⟩, .string ⟨#[]⟩, .string ⟨#[]⟩, .string ⟨#[]⟩] 44) := heap_set (hs0) 2 (.string ⟨h2.toArray⟩)
   have hkE : Keeps (fun q => q = WA.heap.size) w15 ((w15.setCell ⟨WA.heap.size, 1, none⟩ (.string ⟨h1.toArray⟩)).setCell ⟨WA.heap.size, 2, none⟩ (.string ⟨h2.toArray⟩)) := (Keeps.setCell (S := fun q => q = WA.heap.size) (Keeps.setCell (S := fun q => q = WA.heap.size) (Keeps.refl _ _) (p := ⟨WA.heap.size, 1, none⟩) (fun _ => rfl) _) (p := ⟨WA.heap.size, 2, none⟩) (fun _ => rfl) _)
   have HX21 := Lib.hid hs1
   have HS22 := Lib.hid (((hkE).block _ (lt_of_heap HS16.out) (by have := HN.out; show ¬ _ = _; omega)).trans HS16.out)
   have HS23 := Lib.hid (HS18.out.keeps hkE (by have := HN.out; show ¬ _ = _; omega))
   have HK24 := Lib.hid (HK19.out.trans_new hkE (fun q hq e => by have := HN.out; omega))
   clear hkE hs0 hs1 HX17 HS16 HS18 HK19
   go_upto_region 4 with fail
   clear Sc0 Sf0 Sc1 Sf1 Sc2 Sf2 Sc3 Sf3 Sc4 Sf4 Sc5 Sf5 Xc0 Xf0 Xc1 Xf1 Xc2 Xf2 Xc3 Xf3 Xc4 Xf4 Xc5 Xf5 Xc6 Xf6 Xc7 Xf7 Xc8 Xf8
   generalize ((w15.setCell ⟨WA.heap.size, 1, none⟩ (.string ⟨h1.toArray⟩)).setCell ⟨WA.heap.size, 2, none⟩ (.string ⟨h2.toArray⟩)) = w20 at *
   obtain ⟨Sc0, Sf0, Sc1, Sf1, Sc2, Sf2, Sc3, Sf3, Sc4, Sf4, Sc5, Sf5⟩ := cf6 HS22.out
   obtain ⟨Xc0, Xf0, Xc1, Xf1, Xc2, Xf2, Xc3, Xf3, Xc4, Xf4, Xc5, Xf5, Xc6, Xf6, Xc7, Xf7, Xc8, Xf8⟩ := cf9 HX21.out
   go_wp2_with fail
   refine (HP2.out _ HS23.out).mono ?_
   rintro e w25 ⟨rfl, hk⟩
   have HS26 := Lib.hid (((hk.out.2).block _ (lt_of_heap HS22.out) (by have := HN.out; show ¬ _ = _; omega)).trans HS22.out)
   have HX27 := Lib.hid (((hk.out.2).block _ (lt_of_heap HX21.out) (by have := HN.out; show ¬ _ = _; omega)).trans HX21.out)
   have HS28 := Lib.hid (hk.out.1)
   have HK29 := Lib.hid (HK24.out.trans hk.out.2)
   clear Sc0 Sf0 Sc1 Sf1 Sc2 Sf2 Sc3 Sf3 Sc4 Sf4 Sc5 Sf5 Xc0 Xf0 Xc1 Xf1 Xc2 Xf2 Xc3 Xf3 Xc4 Xf4 Xc5 Xf5 Xc6 Xf6 Xc7 Xf7 Xc8 Xf8
   clear hk HP2 HS22 HX21 HS23 HK24
   obtain ⟨Sc0, Sf0, Sc1, Sf1, Sc2, Sf2, Sc3, Sf3, Sc4, Sf4, Sc5, Sf5⟩ := cf6 HS26.out
   obtain ⟨Xc0, Xf0, Xc1, Xf1, Xc2, Xf2, Xc3, Xf3, Xc4, Xf4, Xc5, Xf5, Xc6, Xf6, Xc7, Xf7, Xc8, Xf8⟩ := cf9 HX27.out
   have hs0 : (w25.setCell ⟨WA.heap.size, 0, none⟩ (.int .i64 1)).heap[WA.heap.size]? = some (.cells #[.int .i64 1, .string ⟨h1.toArray⟩, .string ⟨h2.toArray⟩, .string ⟨#[]⟩, .string ⟨#[]⟩, .string ⟨#[]⟩, .string ⟨#[]⟩, .string ⟨#[]⟩, .string ⟨#[]⟩] 44) := heap_set (HX27.out) 0 (.int .i64 1)
   have hkE : Keeps (fun q => q = WA.heap.size) w25 (w25.setCell ⟨WA.heap.size, 0, none⟩ (.int .i64 1)) := (Keeps.setCell (S := fun q => q = WA.heap.size) (Keeps.refl _ _) (p := ⟨WA.heap.size, 0, none⟩) (fun _ => rfl) _)
   have HX31 := Lib.hid hs0
   have HS32 := Lib.hid (((hkE).block _ (lt_of_heap HS26.out) (by have := HN.out; show ¬ _ = _; omega)).trans HS26.out)
   have HS33 := Lib.hid (HS28.out.keeps hkE (by have := HN.out; show ¬ _ = _; omega))
   have HK34 := Lib.hid (HK29.out.trans_new hkE (fun q hq e => by have := HN.out; omega))
   clear hkE hs0 HX27 HS26 HS28 HK29
   go_upto_region 5 with fail
   clear Sc0 Sf0 Sc1 Sf1 Sc2 Sf2 Sc3 Sf3 Sc4 Sf4 Sc5 Sf5 Xc0 Xf0 Xc1 Xf1 Xc2 Xf2 Xc3 Xf3 Xc4 Xf4 Xc5 Xf5 Xc6 Xf6 Xc7 Xf7 Xc8 Xf8
   generalize (w25.setCell ⟨WA.heap.size, 0, none⟩ (.int .i64 1)) = w30 at *
   obtain ⟨Sc0, Sf0, Sc1, Sf1, Sc2, Sf2, Sc3, Sf3, Sc4, Sf4, Sc5, Sf5⟩ := cf6 HS32.out
   obtain ⟨Xc0, Xf0, Xc1, Xf1, Xc2, Xf2, Xc3, Xf3, Xc4, Xf4, Xc5, Xf5, Xc6, Xf6, Xc7, Xf7, Xc8, Xf8⟩ := cf9 HX31.out
   go_wp2_with fail
   refine (HP3.out _ HS33.out).mono ?_
   rintro e w35 ⟨rfl, hk⟩
   have HS36 := Lib.hid (((hk.out.2).block _ (lt_of_heap HS32.out) (by have := HN.out; show ¬ _ = _; omega)).trans HS32.out)
   have HX37 := Lib.hid (((hk.out.2).block _ (lt_of_heap HX31.out) (by have := HN.out; show ¬ _ = _; omega)).trans HX31.out)
   have HS38 := Lib.hid (hk.out.1)
   have HK39 := Lib.hid (HK34.out.trans hk.out.2)
   clear Sc0 Sf0 Sc1 Sf1 Sc2 Sf2 Sc3 Sf3 Sc4 Sf4 Sc5 Sf5 Xc0 Xf0 Xc1 Xf1 Xc2 Xf2 Xc3 Xf3 Xc4 Xf4 Xc5 Xf5 Xc6 Xf6 Xc7 Xf7 Xc8 Xf8
   clear hk HP3 HS32 HX31 HS33 HK34
   obtain ⟨Sc0, Sf0, Sc1, Sf1, Sc2, Sf2, Sc3, Sf3, Sc4, Sf4, Sc5, Sf5⟩ := cf6 HS36.out
   obtain ⟨Xc0, Xf0, Xc1, Xf1, Xc2, Xf2, Xc3, Xf3, Xc4, Xf4, Xc5, Xf5, Xc6, Xf6, Xc7, Xf7, Xc8, Xf8⟩ := cf9 HX37.out
   have hs0 : (w35.setCell ⟨WA.heap.size, 3, none⟩ (.string ⟨o.toArray⟩)).heap[WA.heap.size]? = some (.cells #[.int .i64 1, .string ⟨h1.toArray⟩, .string ⟨h2.toArray⟩, .string ⟨o.toArray⟩, .string ⟨#[]⟩, .string ⟨#[]⟩, .string ⟨#[]⟩, .string ⟨#[]⟩, .string ⟨#[]⟩] 44) := heap_set (HX37.out) 3 (.string ⟨o.toArray⟩)
   have hkE : Keeps (fun q => q = WA.heap.size) w35 (w35.setCell ⟨WA.heap.size, 3, none⟩ (.string ⟨o.toArray⟩)) := (Keeps.setCell (S := fun q => q = WA.heap.size) (Keeps.refl _ _) (p := ⟨WA.heap.size, 3, none⟩) (fun _ => rfl) _)
   have HX41 := Lib.hid hs0
   have HS42 := Lib.hid (((hkE).block _ (lt_of_heap HS36.out) (by have := HN.out; show ¬ _ = _; omega)).trans HS36.out)
   have HS43 := Lib.hid (HS38.out.keeps hkE (by have := HN.out; show ¬ _ = _; omega))
   have HK44 := Lib.hid (HK39.out.trans_new hkE (fun q hq e => by have := HN.out; omega))
   clear hkE hs0 HX37 HS36 HS38 HK39
   go_upto_region 16 with fail
   clear Sc0 Sf0 Sc1 Sf1 Sc2 Sf2 Sc3 Sf3 Sc4 Sf4 Sc5 Sf5 Xc0 Xf0 Xc1 Xf1 Xc2 Xf2 Xc3 Xf3 Xc4 Xf4 Xc5 Xf5 Xc6 Xf6 Xc7 Xf7 Xc8 Xf8
   generalize (w35.setCell ⟨WA.heap.size, 3, none⟩ (.string ⟨o.toArray⟩)) = w40 at *
   obtain ⟨Sc0, Sf0, Sc1, Sf1, Sc2, Sf2, Sc3, Sf3, Sc4, Sf4, Sc5, Sf5⟩ := cf6 HS42.out
   obtain ⟨Xc0, Xf0, Xc1, Xf1, Xc2, Xf2, Xc3, Xf3, Xc4, Xf4, Xc5, Xf5, Xc6, Xf6, Xc7, Xf7, Xc8, Xf8⟩ := cf9 HX41.out
   go_wp2_with fail
   refine (HNM.out _).mono ?_
   rintro e w45 ⟨rfl, hk⟩
   have HS46 := Lib.hid (((hk.out).block _ (lt_of_heap HS42.out) (fun x => x)).trans HS42.out)
   have HX47 := Lib.hid (((hk.out).block _ (lt_of_heap HX41.out) (fun x => x)).trans HX41.out)
   have HS48 := Lib.hid (HS43.out.keeps hk.out (fun x => x))
   have HK49 := Lib.hid (HK44.out.trans (hk.out.mono (fun _ _ x => x.elim)))
   clear Sc0 Sf0 Sc1 Sf1 Sc2 Sf2 Sc3 Sf3 Sc4 Sf4 Sc5 Sf5 Xc0 Xf0 Xc1 Xf1 Xc2 Xf2 Xc3 Xf3 Xc4 Xf4 Xc5 Xf5 Xc6 Xf6 Xc7 Xf7 Xc8 Xf8
   clear hk HS42 HX41 HS43 HK44
   clear HNM
   obtain ⟨Sc0, Sf0, Sc1, Sf1, Sc2, Sf2, Sc3, Sf3, Sc4, Sf4, Sc5, Sf5⟩ := cf6 HS46.out
   obtain ⟨Xc0, Xf0, Xc1, Xf1, Xc2, Xf2, Xc3, Xf3, Xc4, Xf4, Xc5, Xf5, Xc6, Xf6, Xc7, Xf7, Xc8, Xf8⟩ := cf9 HX47.out
   obtain ⟨hs0, hkE⟩ := sx9 HX47.out (.int .i64 nk) (.string ⟨nh1.toArray⟩) (.string ⟨nh2.toArray⟩) (.string ⟨no.toArray⟩) (.string ⟨na1.toArray⟩) (.string ⟨na2.toArray⟩) (.string ⟨nb1.toArray⟩) (.string ⟨nb2.toArray⟩) (.string ⟨ni.toArray⟩)
   have HX50 := Lib.hid hs0
   have HS51 := Lib.hid (((hkE).block _ (lt_of_heap HS46.out) (by have := HN.out; show ¬ _ = _; omega)).trans HS46.out)
   have HS52 := Lib.hid (HS48.out.keeps hkE (by have := HN.out; show ¬ _ = _; omega))
   have HK53 := Lib.hid (HK49.out.trans_new hkE (fun q hq e => by have := HN.out; omega))
   clear hkE hs0 HX47 HS46 HS48 HK49
   go_wp2_with fail
   clear Sc0 Sf0 Sc1 Sf1 Sc2 Sf2 Sc3 Sf3 Sc4 Sf4 Sc5 Sf5 Xc0 Xf0 Xc1 Xf1 Xc2 Xf2 Xc3 Xf3 Xc4 Xf4 Xc5 Xf5 Xc6 Xf6 Xc7 Xf7 Xc8 Xf8
   generalize (((((((((w45.setCell ⟨WA.heap.size, 0, none⟩ (.int .i64 nk)).setCell ⟨WA.heap.size, 1, none⟩ (.string ⟨nh1.toArray⟩)).setCell ⟨WA.heap.size, 2, none⟩ (.string ⟨nh2.toArray⟩)).setCell ⟨WA.heap.size, 3, none⟩ (.string ⟨no.toArray⟩)).setCell ⟨WA.heap.size, 4, none⟩ (.string ⟨na1.toArray⟩)).setCell ⟨WA.heap.size, 5, none⟩ (.string ⟨na2.toArray⟩)).setCell ⟨WA.heap.size, 6, none⟩ (.string ⟨nb1.toArray⟩)).setCell ⟨WA.heap.size, 7, none⟩ (.string ⟨nb2.toArray⟩)).setCell ⟨WA.heap.size, 8, none⟩ (.string ⟨ni.toArray⟩)) = WE at *
   obtain ⟨Xc0, Xf0, Xc1, Xf1, Xc2, Xf2, Xc3, Xf3, Xc4, Xf4, Xc5, Xf5, Xc6, Xf6, Xc7, Xf7, Xc8, Xf8⟩ := cf9 HX50.out
   refine bodyPost_ret (v := .agg #[.int .i64 nk, .string ⟨nh1.toArray⟩, .string ⟨nh2.toArray⟩, .string ⟨no.toArray⟩, .string ⟨na1.toArray⟩, .string ⟨na2.toArray⟩, .string ⟨nb1.toArray⟩, .string ⟨nb2.toArray⟩, .string ⟨ni.toArray⟩]) (by simp [results, Tryz.results14, go_sem, *]) rfl ?_
   exact ⟨rfl, HS52.out, HK53.out⟩
  ·obtain ⟨⟨⟨a1, a2⟩, x3⟩, e3⟩ : ∃ q, rolD x2 s = q := ⟨_, rfl⟩
   have HP3 : Hid (∀ W, StB W 67 b x2 → Calls Tryz.prog 12 #[.pointer (some ⟨b, 0, none⟩), ShpV s] W (DrTo W 67 b (.agg #[.string ⟨a1.toArray⟩, .string ⟨a2.toArray⟩]) x3)) := fun W h => drole_at hf e3 W h
   have HE : Hid (orD s noStm stmD x = (normS ((h1, h2), 2, [], (a1, a2), ([], []), []), x3)) := by
    show _ = _
    unfold orD
    rw [if_pos hf]
    unfold stmD bodD
    simp [e1, e2, e3, noRol]
   rw [HE.out]
   have HNM : Hid (∀ W, Calls Tryz.prog 31 #[stmV ((h1, h2), 2, [], (a1, a2), ([], []), [])] W fun e W' => e = .returned (stmV (normS ((h1, h2), 2, [], (a1, a2), ([], []), []))) ∧ Hid (Keeps (fun _ => False) W W')) := fun W => snorm_spec _
   obtain ⟨nn, hnn⟩ : ∃ q, normS ((h1, h2), 2, [], (a1, a2), ([], []), []) = q := ⟨_, rfl⟩
   rw [hnn] at HNM ⊢
   obtain ⟨⟨nh1, nh2⟩, nk, no, ⟨na1, na2⟩, ⟨nb1, nb2⟩, ni⟩ := nn
   clear hnn HE e1 e2 e3 hf HSH
   unfold ShpV stmV at *
   simp only at HNM
   obtain ⟨Sc0, Sf0, Sc1, Sf1, Sc2, Sf2, Sc3, Sf3, Sc4, Sf4, Sc5, Sf5⟩ := cf6 HS0.out
   obtain ⟨Xc0, Xf0, Xc1, Xf1, Xc2, Xf2, Xc3, Xf3, Xc4, Xf4, Xc5, Xf5, Xc6, Xf6, Xc7, Xf7, Xc8, Xf8⟩ := cf9 HX0.out
   go_enter Tryz.func14, Tryz.ntmps14
   go_wp2_with fail
   refine (HM.out _).mono ?_
   rintro e w54 ⟨rfl, hk⟩
   have HS55 := Lib.hid (((hk.out).block _ (lt_of_heap HS0.out) (fun x => x)).trans HS0.out)
   have HX56 := Lib.hid (((hk.out).block _ (lt_of_heap HX0.out) (fun x => x)).trans HX0.out)
   have HS57 := Lib.hid (HST0.out.keeps hk.out (fun x => x))
   have HK58 := Lib.hid (HK0.out.trans hk.out)
   clear Sc0 Sf0 Sc1 Sf1 Sc2 Sf2 Sc3 Sf3 Sc4 Sf4 Sc5 Sf5 Xc0 Xf0 Xc1 Xf1 Xc2 Xf2 Xc3 Xf3 Xc4 Xf4 Xc5 Xf5 Xc6 Xf6 Xc7 Xf7 Xc8 Xf8
   clear hk HS0 HX0 HST0 HK0
   clear HM hWA hWB
   obtain ⟨Sc0, Sf0, Sc1, Sf1, Sc2, Sf2, Sc3, Sf3, Sc4, Sf4, Sc5, Sf5⟩ := cf6 HS55.out
   obtain ⟨Xc0, Xf0, Xc1, Xf1, Xc2, Xf2, Xc3, Xf3, Xc4, Xf4, Xc5, Xf5, Xc6, Xf6, Xc7, Xf7, Xc8, Xf8⟩ := cf9 HX56.out
   go_wp2_with fail
   refine (HP1.out _ HS57.out).mono ?_
   rintro e w59 ⟨rfl, hk⟩
   have HS60 := Lib.hid (((hk.out.2).block _ (lt_of_heap HS55.out) (by have := HN.out; show ¬ _ = _; omega)).trans HS55.out)
   have HX61 := Lib.hid (((hk.out.2).block _ (lt_of_heap HX56.out) (by have := HN.out; show ¬ _ = _; omega)).trans HX56.out)
   have HS62 := Lib.hid (hk.out.1)
   have HK63 := Lib.hid ((HK58.out.mono (fun _ _ x => x.elim)).trans hk.out.2)
   clear Sc0 Sf0 Sc1 Sf1 Sc2 Sf2 Sc3 Sf3 Sc4 Sf4 Sc5 Sf5 Xc0 Xf0 Xc1 Xf1 Xc2 Xf2 Xc3 Xf3 Xc4 Xf4 Xc5 Xf5 Xc6 Xf6 Xc7 Xf7 Xc8 Xf8
   clear hk HP1 HS55 HX56 HS57 HK58
   obtain ⟨Sc0, Sf0, Sc1, Sf1, Sc2, Sf2, Sc3, Sf3, Sc4, Sf4, Sc5, Sf5⟩ := cf6 HS60.out
   obtain ⟨Xc0, Xf0, Xc1, Xf1, Xc2, Xf2, Xc3, Xf3, Xc4, Xf4, Xc5, Xf5, Xc6, Xf6, Xc7, Xf7, Xc8, Xf8⟩ := cf9 HX61.out
   have hs0 : (w59.setCell ⟨WA.heap.size, 1, none⟩ (.string ⟨h1.toArray⟩)).heap[WA.heap.size]? = some (.cells #[.int .i64 0, .string ⟨h1.toArray⟩, .string ⟨#[]⟩, .string ⟨#[]⟩, .string ⟨#[]⟩, .string ⟨#[]⟩, .string ⟨#[]⟩, .string ⟨#[]⟩, .string ⟨#[]⟩] 44) := heap_set (HX61.out) 1 (.string ⟨h1.toArray⟩)
   have hs1 : ((w59.setCell ⟨WA.heap.size, 1, none⟩ (.string ⟨h1.toArray⟩)).setCell ⟨WA.heap.size, 2, none⟩ (.string ⟨h2.toArray⟩)).heap[WA.heap.size]? = some (.cells #[.int .i64 0, .string ⟨h1.toArray⟩, .string ⟨h2.toArray⟩, .string ⟨#[]⟩, .string ⟨#[]⟩, .string ⟨#[]⟩, .string ⟨#[]⟩, .string ⟨#[]⟩, .string ⟨#[]⟩] 44) := heap_set (hs0) 2 (.string ⟨h2.toArray⟩)
   have hkE : Keeps (fun q => q = WA.heap.size) w59 ((w59.setCell ⟨WA.heap.size, 1, none⟩ (.string ⟨h1.toArray⟩)).setCell ⟨WA.heap.size, 2, none⟩ (.string ⟨h2.toArray⟩)) := (Keeps.setCell (S := fun q => q = WA.heap.size) (Keeps.setCell (S := fun q => q = WA.heap.size) (Keeps.refl _ _) (p := ⟨WA.heap.size, 1, none⟩) (fun _ => rfl) _) (p := ⟨WA.heap.size, 2, none⟩) (fun _ => rfl) _)
   have HX65 := Lib.hid hs1
   have HS66 := Lib.hid (((hkE).block _ (lt_of_heap HS60.out) (by have := HN.out; show ¬ _ = _; omega)).trans HS60.out)
   have HS67 := Lib.hid (HS62.out.keeps hkE (by have := HN.out; show ¬ _ = _; omega))
   have HK68 := Lib.hid (HK63.out.trans_new hkE (fun q hq e => by have := HN.out; omega))
   clear hkE hs0 hs1 HX61 HS60 HS62 HK63
   go_upto_region 4 with fail
   clear Sc0 Sf0 Sc1 Sf1 Sc2 Sf2 Sc3 Sf3 Sc4 Sf4 Sc5 Sf5 Xc0 Xf0 Xc1 Xf1 Xc2 Xf2 Xc3 Xf3 Xc4 Xf4 Xc5 Xf5 Xc6 Xf6 Xc7 Xf7 Xc8 Xf8
   generalize ((w59.setCell ⟨WA.heap.size, 1, none⟩ (.string ⟨h1.toArray⟩)).setCell ⟨WA.heap.size, 2, none⟩ (.string ⟨h2.toArray⟩)) = w64 at *
   obtain ⟨Sc0, Sf0, Sc1, Sf1, Sc2, Sf2, Sc3, Sf3, Sc4, Sf4, Sc5, Sf5⟩ := cf6 HS66.out
   obtain ⟨Xc0, Xf0, Xc1, Xf1, Xc2, Xf2, Xc3, Xf3, Xc4, Xf4, Xc5, Xf5, Xc6, Xf6, Xc7, Xf7, Xc8, Xf8⟩ := cf9 HX65.out
   go_wp2_with fail
   refine (HP2.out _ HS67.out).mono ?_
   rintro e w69 ⟨rfl, hk⟩
   have HS70 := Lib.hid (((hk.out.2).block _ (lt_of_heap HS66.out) (by have := HN.out; show ¬ _ = _; omega)).trans HS66.out)
   have HX71 := Lib.hid (((hk.out.2).block _ (lt_of_heap HX65.out) (by have := HN.out; show ¬ _ = _; omega)).trans HX65.out)
   have HS72 := Lib.hid (hk.out.1)
   have HK73 := Lib.hid (HK68.out.trans hk.out.2)
   clear Sc0 Sf0 Sc1 Sf1 Sc2 Sf2 Sc3 Sf3 Sc4 Sf4 Sc5 Sf5 Xc0 Xf0 Xc1 Xf1 Xc2 Xf2 Xc3 Xf3 Xc4 Xf4 Xc5 Xf5 Xc6 Xf6 Xc7 Xf7 Xc8 Xf8
   clear hk HP2 HS66 HX65 HS67 HK68
   obtain ⟨Sc0, Sf0, Sc1, Sf1, Sc2, Sf2, Sc3, Sf3, Sc4, Sf4, Sc5, Sf5⟩ := cf6 HS70.out
   obtain ⟨Xc0, Xf0, Xc1, Xf1, Xc2, Xf2, Xc3, Xf3, Xc4, Xf4, Xc5, Xf5, Xc6, Xf6, Xc7, Xf7, Xc8, Xf8⟩ := cf9 HX71.out
   have hs0 : (w69.setCell ⟨WA.heap.size, 0, none⟩ (.int .i64 2)).heap[WA.heap.size]? = some (.cells #[.int .i64 2, .string ⟨h1.toArray⟩, .string ⟨h2.toArray⟩, .string ⟨#[]⟩, .string ⟨#[]⟩, .string ⟨#[]⟩, .string ⟨#[]⟩, .string ⟨#[]⟩, .string ⟨#[]⟩] 44) := heap_set (HX71.out) 0 (.int .i64 2)
   have hkE : Keeps (fun q => q = WA.heap.size) w69 (w69.setCell ⟨WA.heap.size, 0, none⟩ (.int .i64 2)) := (Keeps.setCell (S := fun q => q = WA.heap.size) (Keeps.refl _ _) (p := ⟨WA.heap.size, 0, none⟩) (fun _ => rfl) _)
   have HX75 := Lib.hid hs0
   have HS76 := Lib.hid (((hkE).block _ (lt_of_heap HS70.out) (by have := HN.out; show ¬ _ = _; omega)).trans HS70.out)
   have HS77 := Lib.hid (HS72.out.keeps hkE (by have := HN.out; show ¬ _ = _; omega))
   have HK78 := Lib.hid (HK73.out.trans_new hkE (fun q hq e => by have := HN.out; omega))
   clear hkE hs0 HX71 HS70 HS72 HK73
   go_upto_region 5 with fail
   clear Sc0 Sf0 Sc1 Sf1 Sc2 Sf2 Sc3 Sf3 Sc4 Sf4 Sc5 Sf5 Xc0 Xf0 Xc1 Xf1 Xc2 Xf2 Xc3 Xf3 Xc4 Xf4 Xc5 Xf5 Xc6 Xf6 Xc7 Xf7 Xc8 Xf8
   generalize (w69.setCell ⟨WA.heap.size, 0, none⟩ (.int .i64 2)) = w74 at *
   obtain ⟨Sc0, Sf0, Sc1, Sf1, Sc2, Sf2, Sc3, Sf3, Sc4, Sf4, Sc5, Sf5⟩ := cf6 HS76.out
   obtain ⟨Xc0, Xf0, Xc1, Xf1, Xc2, Xf2, Xc3, Xf3, Xc4, Xf4, Xc5, Xf5, Xc6, Xf6, Xc7, Xf7, Xc8, Xf8⟩ := cf9 HX75.out
   go_wp2_with fail
   refine (HP3.out _ HS77.out).mono ?_
   rintro e w79 ⟨rfl, hk⟩
   have HS80 := Lib.hid (((hk.out.2).block _ (lt_of_heap HS76.out) (by have := HN.out; show ¬ _ = _; omega)).trans HS76.out)
   have HX81 := Lib.hid (((hk.out.2).block _ (lt_of_heap HX75.out) (by have := HN.out; show ¬ _ = _; omega)).trans HX75.out)
   have HS82 := Lib.hid (hk.out.1)
   have HK83 := Lib.hid (HK78.out.trans hk.out.2)
   clear Sc0 Sf0 Sc1 Sf1 Sc2 Sf2 Sc3 Sf3 Sc4 Sf4 Sc5 Sf5 Xc0 Xf0 Xc1 Xf1 Xc2 Xf2 Xc3 Xf3 Xc4 Xf4 Xc5 Xf5 Xc6 Xf6 Xc7 Xf7 Xc8 Xf8
   clear hk HP3 HS76 HX75 HS77 HK78
   obtain ⟨Sc0, Sf0, Sc1, Sf1, Sc2, Sf2, Sc3, Sf3, Sc4, Sf4, Sc5, Sf5⟩ := cf6 HS80.out
   obtain ⟨Xc0, Xf0, Xc1, Xf1, Xc2, Xf2, Xc3, Xf3, Xc4, Xf4, Xc5, Xf5, Xc6, Xf6, Xc7, Xf7, Xc8, Xf8⟩ := cf9 HX81.out
   have hs0 : (w79.setCell ⟨WA.heap.size, 4, none⟩ (.string ⟨a1.toArray⟩)).heap[WA.heap.size]? = some (.cells #[.int .i64 2, .string ⟨h1.toArray⟩, .string ⟨h2.toArray⟩, .string ⟨#[]⟩, .string ⟨a1.toArray⟩, .string ⟨#[]⟩, .string ⟨#[]⟩, .string ⟨#[]⟩, .string ⟨#[]⟩] 44) := heap_set (HX81.out) 4 (.string ⟨a1.toArray⟩)
   have hs1 : ((w79.setCell ⟨WA.heap.size, 4, none⟩ (.string ⟨a1.toArray⟩)).setCell ⟨WA.heap.size, 5, none⟩ (.string ⟨a2.toArray⟩)).heap[WA.heap.size]? = some (.cells #[.int .i64 2, .string ⟨h1.toArray⟩, .string ⟨h2.toArray⟩, .string ⟨#[]⟩, .string ⟨a1.toArray⟩, .string ⟨a2.toArray⟩, .string ⟨#[]⟩, .string ⟨#[]⟩, .string ⟨#[]⟩] 44) := heap_set (hs0) 5 (.string ⟨a2.toArray⟩)
   have hkE : Keeps (fun q => q = WA.heap.size) w79 ((w79.setCell ⟨WA.heap.size, 4, none⟩ (.string ⟨a1.toArray⟩)).setCell ⟨WA.heap.size, 5, none⟩ (.string ⟨a2.toArray⟩)) := (Keeps.setCell (S := fun q => q = WA.heap.size) (Keeps.setCell (S := fun q => q = WA.heap.size) (Keeps.refl _ _) (p := ⟨WA.heap.size, 4, none⟩) (fun _ => rfl) _) (p := ⟨WA.heap.size, 5, none⟩) (fun _ => rfl) _)
   have HX85 := Lib.hid hs1
   have HS86 := Lib.hid (((hkE).block _ (lt_of_heap HS80.out) (by have := HN.out; show ¬ _ = _; omega)).trans HS80.out)
   have HS87 := Lib.hid (HS82.out.keeps hkE (by have := HN.out; show ¬ _ = _; omega))
   have HK88 := Lib.hid (HK83.out.trans_new hkE (fun q hq e => by have := HN.out; omega))
   clear hkE hs0 hs1 HX81 HS80 HS82 HK83
   go_upto_region 16 with fail
   clear Sc0 Sf0 Sc1 Sf1 Sc2 Sf2 Sc3 Sf3 Sc4 Sf4 Sc5 Sf5 Xc0 Xf0 Xc1 Xf1 Xc2 Xf2 Xc3 Xf3 Xc4 Xf4 Xc5 Xf5 Xc6 Xf6 Xc7 Xf7 Xc8 Xf8
   generalize ((w79.setCell ⟨WA.heap.size, 4, none⟩ (.string ⟨a1.toArray⟩)).setCell ⟨WA.heap.size, 5, none⟩ (.string ⟨a2.toArray⟩)) = w84 at *
   obtain ⟨Sc0, Sf0, Sc1, Sf1, Sc2, Sf2, Sc3, Sf3, Sc4, Sf4, Sc5, Sf5⟩ := cf6 HS86.out
   obtain ⟨Xc0, Xf0, Xc1, Xf1, Xc2, Xf2, Xc3, Xf3, Xc4, Xf4, Xc5, Xf5, Xc6, Xf6, Xc7, Xf7, Xc8, Xf8⟩ := cf9 HX85.out
   go_wp2_with fail
   refine (HNM.out _).mono ?_
   rintro e w89 ⟨rfl, hk⟩
   have HS90 := Lib.hid (((hk.out).block _ (lt_of_heap HS86.out) (fun x => x)).trans HS86.out)
   have HX91 := Lib.hid (((hk.out).block _ (lt_of_heap HX85.out) (fun x => x)).trans HX85.out)
   have HS92 := Lib.hid (HS87.out.keeps hk.out (fun x => x))
   have HK93 := Lib.hid (HK88.out.trans (hk.out.mono (fun _ _ x => x.elim)))
   clear Sc0 Sf0 Sc1 Sf1 Sc2 Sf2 Sc3 Sf3 Sc4 Sf4 Sc5 Sf5 Xc0 Xf0 Xc1 Xf1 Xc2 Xf2 Xc3 Xf3 Xc4 Xf4 Xc5 Xf5 Xc6 Xf6 Xc7 Xf7 Xc8 Xf8
   clear hk HS86 HX85 HS87 HK88
   clear HNM
   obtain ⟨Sc0, Sf0, Sc1, Sf1, Sc2, Sf2, Sc3, Sf3, Sc4, Sf4, Sc5, Sf5⟩ := cf6 HS90.out
   obtain ⟨Xc0, Xf0, Xc1, Xf1, Xc2, Xf2, Xc3, Xf3, Xc4, Xf4, Xc5, Xf5, Xc6, Xf6, Xc7, Xf7, Xc8, Xf8⟩ := cf9 HX91.out
   obtain ⟨hs0, hkE⟩ := sx9 HX91.out (.int .i64 nk) (.string ⟨nh1.toArray⟩) (.string ⟨nh2.toArray⟩) (.string ⟨no.toArray⟩) (.string ⟨na1.toArray⟩) (.string ⟨na2.toArray⟩) (.string ⟨nb1.toArray⟩) (.string ⟨nb2.toArray⟩) (.string ⟨ni.toArray⟩)
   have HX94 := Lib.hid hs0
   have HS95 := Lib.hid (((hkE).block _ (lt_of_heap HS90.out) (by have := HN.out; show ¬ _ = _; omega)).trans HS90.out)
   have HS96 := Lib.hid (HS92.out.keeps hkE (by have := HN.out; show ¬ _ = _; omega))
   have HK97 := Lib.hid (HK93.out.trans_new hkE (fun q hq e => by have := HN.out; omega))
   clear hkE hs0 HX91 HS90 HS92 HK93
   go_wp2_with fail
   clear Sc0 Sf0 Sc1 Sf1 Sc2 Sf2 Sc3 Sf3 Sc4 Sf4 Sc5 Sf5 Xc0 Xf0 Xc1 Xf1 Xc2 Xf2 Xc3 Xf3 Xc4 Xf4 Xc5 Xf5 Xc6 Xf6 Xc7 Xf7 Xc8 Xf8
   generalize (((((((((w89.setCell ⟨WA.heap.size, 0, none⟩ (.int .i64 nk)).setCell ⟨WA.heap.size, 1, none⟩ (.string ⟨nh1.toArray⟩)).setCell ⟨WA.heap.size, 2, none⟩ (.string ⟨nh2.toArray⟩)).setCell ⟨WA.heap.size, 3, none⟩ (.string ⟨no.toArray⟩)).setCell ⟨WA.heap.size, 4, none⟩ (.string ⟨na1.toArray⟩)).setCell ⟨WA.heap.size, 5, none⟩ (.string ⟨na2.toArray⟩)).setCell ⟨WA.heap.size, 6, none⟩ (.string ⟨nb1.toArray⟩)).setCell ⟨WA.heap.size, 7, none⟩ (.string ⟨nb2.toArray⟩)).setCell ⟨WA.heap.size, 8, none⟩ (.string ⟨ni.toArray⟩)) = WE at *
   obtain ⟨Xc0, Xf0, Xc1, Xf1, Xc2, Xf2, Xc3, Xf3, Xc4, Xf4, Xc5, Xf5, Xc6, Xf6, Xc7, Xf7, Xc8, Xf8⟩ := cf9 HX94.out
   refine bodyPost_ret (v := .agg #[.int .i64 nk, .string ⟨nh1.toArray⟩, .string ⟨nh2.toArray⟩, .string ⟨no.toArray⟩, .string ⟨na1.toArray⟩, .string ⟨na2.toArray⟩, .string ⟨nb1.toArray⟩, .string ⟨nb2.toArray⟩, .string ⟨ni.toArray⟩]) (by simp [results, Tryz.results14, go_sem, *]) rfl ?_
   exact ⟨rfl, HS96.out, HK97.out⟩
  ·obtain ⟨⟨⟨a1, a2⟩, x3⟩, e3⟩ : ∃ q, rolD x2 s = q := ⟨_, rfl⟩
   have HP3 : Hid (∀ W, StB W 67 b x2 → Calls Tryz.prog 12 #[.pointer (some ⟨b, 0, none⟩), ShpV s] W (DrTo W 67 b (.agg #[.string ⟨a1.toArray⟩, .string ⟨a2.toArray⟩]) x3)) := fun W h => drole_at hf e3 W h
   obtain ⟨⟨v, x4⟩, e4⟩ : ∃ q, nameD x3 s = q := ⟨_, rfl⟩
   have HP4 : Hid (∀ W, StB W 67 b x3 → Calls Tryz.prog 29 #[.pointer (some ⟨b, 0, none⟩), ShpV s] W (DrTo W 67 b (.string ⟨v.toArray⟩) x4)) := fun W h => dname_at hf e4 W h
   have HE : Hid (orD s noStm stmD x = (normS ((h1, h2), 3, [], (a1, a2), ([], []), v), x4)) := by
    show _ = _
    unfold orD
    rw [if_pos hf]
    unfold stmD bodD
    simp [e1, e2, e3, e4, noRol]
   rw [HE.out]
   have HNM : Hid (∀ W, Calls Tryz.prog 31 #[stmV ((h1, h2), 3, [], (a1, a2), ([], []), v)] W fun e W' => e = .returned (stmV (normS ((h1, h2), 3, [], (a1, a2), ([], []), v))) ∧ Hid (Keeps (fun _ => False) W W')) := fun W => snorm_spec _
   obtain ⟨nn, hnn⟩ : ∃ q, normS ((h1, h2), 3, [], (a1, a2), ([], []), v) = q := ⟨_, rfl⟩
   rw [hnn] at HNM ⊢
   obtain ⟨⟨nh1, nh2⟩, nk, no, ⟨na1, na2⟩, ⟨nb1, nb2⟩, ni⟩ := nn
   clear hnn HE e1 e2 e3 e4 hf HSH
   unfold ShpV stmV at *
   simp only at HNM
   obtain ⟨Sc0, Sf0, Sc1, Sf1, Sc2, Sf2, Sc3, Sf3, Sc4, Sf4, Sc5, Sf5⟩ := cf6 HS0.out
   obtain ⟨Xc0, Xf0, Xc1, Xf1, Xc2, Xf2, Xc3, Xf3, Xc4, Xf4, Xc5, Xf5, Xc6, Xf6, Xc7, Xf7, Xc8, Xf8⟩ := cf9 HX0.out
   go_enter Tryz.func14, Tryz.ntmps14
   go_wp2_with fail
   refine (HM.out _).mono ?_
   rintro e w98 ⟨rfl, hk⟩
   have HS99 := Lib.hid (((hk.out).block _ (lt_of_heap HS0.out) (fun x => x)).trans HS0.out)
   have HX100 := Lib.hid (((hk.out).block _ (lt_of_heap HX0.out) (fun x => x)).trans HX0.out)
   have HS101 := Lib.hid (HST0.out.keeps hk.out (fun x => x))
   have HK102 := Lib.hid (HK0.out.trans hk.out)
   clear Sc0 Sf0 Sc1 Sf1 Sc2 Sf2 Sc3 Sf3 Sc4 Sf4 Sc5 Sf5 Xc0 Xf0 Xc1 Xf1 Xc2 Xf2 Xc3 Xf3 Xc4 Xf4 Xc5 Xf5 Xc6 Xf6 Xc7 Xf7 Xc8 Xf8
   clear hk HS0 HX0 HST0 HK0
   clear HM hWA hWB
   obtain ⟨Sc0, Sf0, Sc1, Sf1, Sc2, Sf2, Sc3, Sf3, Sc4, Sf4, Sc5, Sf5⟩ := cf6 HS99.out
   obtain ⟨Xc0, Xf0, Xc1, Xf1, Xc2, Xf2, Xc3, Xf3, Xc4, Xf4, Xc5, Xf5, Xc6, Xf6, Xc7, Xf7, Xc8, Xf8⟩ := cf9 HX100.out
   go_wp2_with fail
   refine (HP1.out _ HS101.out).mono ?_
   rintro e w103 ⟨rfl, hk⟩
   have HS104 := Lib.hid (((hk.out.2).block _ (lt_of_heap HS99.out) (by have := HN.out; show ¬ _ = _; omega)).trans HS99.out)
   have HX105 := Lib.hid (((hk.out.2).block _ (lt_of_heap HX100.out) (by have := HN.out; show ¬ _ = _; omega)).trans HX100.out)
   have HS106 := Lib.hid (hk.out.1)
   have HK107 := Lib.hid ((HK102.out.mono (fun _ _ x => x.elim)).trans hk.out.2)
   clear Sc0 Sf0 Sc1 Sf1 Sc2 Sf2 Sc3 Sf3 Sc4 Sf4 Sc5 Sf5 Xc0 Xf0 Xc1 Xf1 Xc2 Xf2 Xc3 Xf3 Xc4 Xf4 Xc5 Xf5 Xc6 Xf6 Xc7 Xf7 Xc8 Xf8
   clear hk HP1 HS99 HX100 HS101 HK102
   obtain ⟨Sc0, Sf0, Sc1, Sf1, Sc2, Sf2, Sc3, Sf3, Sc4, Sf4, Sc5, Sf5⟩ := cf6 HS104.out
   obtain ⟨Xc0, Xf0, Xc1, Xf1, Xc2, Xf2, Xc3, Xf3, Xc4, Xf4, Xc5, Xf5, Xc6, Xf6, Xc7, Xf7, Xc8, Xf8⟩ := cf9 HX105.out
   have hs0 : (w103.setCell ⟨WA.heap.size, 1, none⟩ (.string ⟨h1.toArray⟩)).heap[WA.heap.size]? = some (.cells #[.int .i64 0, .string ⟨h1.toArray⟩, .string ⟨#[]⟩, .string ⟨#[]⟩, .string ⟨#[]⟩, .string ⟨#[]⟩, .string ⟨#[]⟩, .string ⟨#[]⟩, .string ⟨#[]⟩] 44) := heap_set (HX105.out) 1 (.string ⟨h1.toArray⟩)
   have hs1 : ((w103.setCell ⟨WA.heap.size, 1, none⟩ (.string ⟨h1.toArray⟩)).setCell ⟨WA.heap.size, 2, none⟩ (.string ⟨h2.toArray⟩)).heap[WA.heap.size]? = some (.cells #[.int .i64 0, .string ⟨h1.toArray⟩, .string ⟨h2.toArray⟩, .string ⟨#[]⟩, .string ⟨#[]⟩, .string ⟨#[]⟩, .string ⟨#[]⟩, .string ⟨#[]⟩, .string ⟨#[]⟩] 44) := heap_set (hs0) 2 (.string ⟨h2.toArray⟩)
   have hkE : Keeps (fun q => q = WA.heap.size) w103 ((w103.setCell ⟨WA.heap.size, 1, none⟩ (.string ⟨h1.toArray⟩)).setCell ⟨WA.heap.size, 2, none⟩ (.string ⟨h2.toArray⟩)) := (Keeps.setCell (S := fun q => q = WA.heap.size) (Keeps.setCell (S := fun q => q = WA.heap.size) (Keeps.refl _ _) (p := ⟨WA.heap.size, 1, none⟩) (fun _ => rfl) _) (p := ⟨WA.heap.size, 2, none⟩) (fun _ => rfl) _)
   have HX109 := Lib.hid hs1
   have HS110 := Lib.hid (((hkE).block _ (lt_of_heap HS104.out) (by have := HN.out; show ¬ _ = _; omega)).trans HS104.out)
   have HS111 := Lib.hid (HS106.out.keeps hkE (by have := HN.out; show ¬ _ = _; omega))
   have HK112 := Lib.hid (HK107.out.trans_new hkE (fun q hq e => by have := HN.out; omega))
   clear hkE hs0 hs1 HX105 HS104 HS106 HK107
   go_upto_region 4 with fail
   clear Sc0 Sf0 Sc1 Sf1 Sc2 Sf2 Sc3 Sf3 Sc4 Sf4 Sc5 Sf5 Xc0 Xf0 Xc1 Xf1 Xc2 Xf2 Xc3 Xf3 Xc4 Xf4 Xc5 Xf5 Xc6 Xf6 Xc7 Xf7 Xc8 Xf8
   generalize ((w103.setCell ⟨WA.heap.size, 1, none⟩ (.string ⟨h1.toArray⟩)).setCell ⟨WA.heap.size, 2, none⟩ (.string ⟨h2.toArray⟩)) = w108 at *
   obtain ⟨Sc0, Sf0, Sc1, Sf1, Sc2, Sf2, Sc3, Sf3, Sc4, Sf4, Sc5, Sf5⟩ := cf6 HS110.out
   obtain ⟨Xc0, Xf0, Xc1, Xf1, Xc2, Xf2, Xc3, Xf3, Xc4, Xf4, Xc5, Xf5, Xc6, Xf6, Xc7, Xf7, Xc8, Xf8⟩ := cf9 HX109.out
   go_wp2_with fail
   refine (HP2.out _ HS111.out).mono ?_
   rintro e w113 ⟨rfl, hk⟩
   have HS114 := Lib.hid (((hk.out.2).block _ (lt_of_heap HS110.out) (by have := HN.out; show ¬ _ = _; omega)).trans HS110.out)
   have HX115 := Lib.hid (((hk.out.2).block _ (lt_of_heap HX109.out) (by have := HN.out; show ¬ _ = _; omega)).trans HX109.out)
   have HS116 := Lib.hid (hk.out.1)
   have HK117 := Lib.hid (HK112.out.trans hk.out.2)
   clear Sc0 Sf0 Sc1 Sf1 Sc2 Sf2 Sc3 Sf3 Sc4 Sf4 Sc5 Sf5 Xc0 Xf0 Xc1 Xf1 Xc2 Xf2 Xc3 Xf3 Xc4 Xf4 Xc5 Xf5 Xc6 Xf6 Xc7 Xf7 Xc8 Xf8
   clear hk HP2 HS110 HX109 HS111 HK112
   obtain ⟨Sc0, Sf0, Sc1, Sf1, Sc2, Sf2, Sc3, Sf3, Sc4, Sf4, Sc5, Sf5⟩ := cf6 HS114.out
   obtain ⟨Xc0, Xf0, Xc1, Xf1, Xc2, Xf2, Xc3, Xf3, Xc4, Xf4, Xc5, Xf5, Xc6, Xf6, Xc7, Xf7, Xc8, Xf8⟩ := cf9 HX115.out
   have hs0 : (w113.setCell ⟨WA.heap.size, 0, none⟩ (.int .i64 3)).heap[WA.heap.size]? = some (.cells #[.int .i64 3, .string ⟨h1.toArray⟩, .string ⟨h2.toArray⟩, .string ⟨#[]⟩, .string ⟨#[]⟩, .string ⟨#[]⟩, .string ⟨#[]⟩, .string ⟨#[]⟩, .string ⟨#[]⟩] 44) := heap_set (HX115.out) 0 (.int .i64 3)
   have hkE : Keeps (fun q => q = WA.heap.size) w113 (w113.setCell ⟨WA.heap.size, 0, none⟩ (.int .i64 3)) := (Keeps.setCell (S := fun q => q = WA.heap.size) (Keeps.refl _ _) (p := ⟨WA.heap.size, 0, none⟩) (fun _ => rfl) _)
   have HX119 := Lib.hid hs0
   have HS120 := Lib.hid (((hkE).block _ (lt_of_heap HS114.out) (by have := HN.out; show ¬ _ = _; omega)).trans HS114.out)
   have HS121 := Lib.hid (HS116.out.keeps hkE (by have := HN.out; show ¬ _ = _; omega))
   have HK122 := Lib.hid (HK117.out.trans_new hkE (fun q hq e => by have := HN.out; omega))
   clear hkE hs0 HX115 HS114 HS116 HK117
   go_upto_region 5 with fail
   clear Sc0 Sf0 Sc1 Sf1 Sc2 Sf2 Sc3 Sf3 Sc4 Sf4 Sc5 Sf5 Xc0 Xf0 Xc1 Xf1 Xc2 Xf2 Xc3 Xf3 Xc4 Xf4 Xc5 Xf5 Xc6 Xf6 Xc7 Xf7 Xc8 Xf8
   generalize (w113.setCell ⟨WA.heap.size, 0, none⟩ (.int .i64 3)) = w118 at *
   obtain ⟨Sc0, Sf0, Sc1, Sf1, Sc2, Sf2, Sc3, Sf3, Sc4, Sf4, Sc5, Sf5⟩ := cf6 HS120.out
   obtain ⟨Xc0, Xf0, Xc1, Xf1, Xc2, Xf2, Xc3, Xf3, Xc4, Xf4, Xc5, Xf5, Xc6, Xf6, Xc7, Xf7, Xc8, Xf8⟩ := cf9 HX119.out
   go_wp2_with fail
   refine (HP3.out _ HS121.out).mono ?_
   rintro e w123 ⟨rfl, hk⟩
   have HS124 := Lib.hid (((hk.out.2).block _ (lt_of_heap HS120.out) (by have := HN.out; show ¬ _ = _; omega)).trans HS120.out)
   have HX125 := Lib.hid (((hk.out.2).block _ (lt_of_heap HX119.out) (by have := HN.out; show ¬ _ = _; omega)).trans HX119.out)
   have HS126 := Lib.hid (hk.out.1)
   have HK127 := Lib.hid (HK122.out.trans hk.out.2)
   clear Sc0 Sf0 Sc1 Sf1 Sc2 Sf2 Sc3 Sf3 Sc4 Sf4 Sc5 Sf5 Xc0 Xf0 Xc1 Xf1 Xc2 Xf2 Xc3 Xf3 Xc4 Xf4 Xc5 Xf5 Xc6 Xf6 Xc7 Xf7 Xc8 Xf8
   clear hk HP3 HS120 HX119 HS121 HK122
   obtain ⟨Sc0, Sf0, Sc1, Sf1, Sc2, Sf2, Sc3, Sf3, Sc4, Sf4, Sc5, Sf5⟩ := cf6 HS124.out
   obtain ⟨Xc0, Xf0, Xc1, Xf1, Xc2, Xf2, Xc3, Xf3, Xc4, Xf4, Xc5, Xf5, Xc6, Xf6, Xc7, Xf7, Xc8, Xf8⟩ := cf9 HX125.out
   have hs0 : (w123.setCell ⟨WA.heap.size, 4, none⟩ (.string ⟨a1.toArray⟩)).heap[WA.heap.size]? = some (.cells #[.int .i64 3, .string ⟨h1.toArray⟩, .string ⟨h2.toArray⟩, .string ⟨#[]⟩, .string ⟨a1.toArray⟩, .string ⟨#[]⟩, .string ⟨#[]⟩, .string ⟨#[]⟩, .string ⟨#[]⟩] 44) := heap_set (HX125.out) 4 (.string ⟨a1.toArray⟩)
   have hs1 : ((w123.setCell ⟨WA.heap.size, 4, none⟩ (.string ⟨a1.toArray⟩)).setCell ⟨WA.heap.size, 5, none⟩ (.string ⟨a2.toArray⟩)).heap[WA.heap.size]? = some (.cells #[.int .i64 3, .string ⟨h1.toArray⟩, .string ⟨h2.toArray⟩, .string ⟨#[]⟩, .string ⟨a1.toArray⟩, .string ⟨a2.toArray⟩, .string ⟨#[]⟩, .string ⟨#[]⟩, .string ⟨#[]⟩] 44) := heap_set (hs0) 5 (.string ⟨a2.toArray⟩)
   have hkE : Keeps (fun q => q = WA.heap.size) w123 ((w123.setCell ⟨WA.heap.size, 4, none⟩ (.string ⟨a1.toArray⟩)).setCell ⟨WA.heap.size, 5, none⟩ (.string ⟨a2.toArray⟩)) := (Keeps.setCell (S := fun q => q = WA.heap.size) (Keeps.setCell (S := fun q => q = WA.heap.size) (Keeps.refl _ _) (p := ⟨WA.heap.size, 4, none⟩) (fun _ => rfl) _) (p := ⟨WA.heap.size, 5, none⟩) (fun _ => rfl) _)
   have HX129 := Lib.hid hs1
   have HS130 := Lib.hid (((hkE).block _ (lt_of_heap HS124.out) (by have := HN.out; show ¬ _ = _; omega)).trans HS124.out)
   have HS131 := Lib.hid (HS126.out.keeps hkE (by have := HN.out; show ¬ _ = _; omega))
   have HK132 := Lib.hid (HK127.out.trans_new hkE (fun q hq e => by have := HN.out; omega))
   clear hkE hs0 hs1 HX125 HS124 HS126 HK127
   go_upto_region 12 with fail
   clear Sc0 Sf0 Sc1 Sf1 Sc2 Sf2 Sc3 Sf3 Sc4 Sf4 Sc5 Sf5 Xc0 Xf0 Xc1 Xf1 Xc2 Xf2 Xc3 Xf3 Xc4 Xf4 Xc5 Xf5 Xc6 Xf6 Xc7 Xf7 Xc8 Xf8
   generalize ((w123.setCell ⟨WA.heap.size, 4, none⟩ (.string ⟨a1.toArray⟩)).setCell ⟨WA.heap.size, 5, none⟩ (.string ⟨a2.toArray⟩)) = w128 at *
   obtain ⟨Sc0, Sf0, Sc1, Sf1, Sc2, Sf2, Sc3, Sf3, Sc4, Sf4, Sc5, Sf5⟩ := cf6 HS130.out
   obtain ⟨Xc0, Xf0, Xc1, Xf1, Xc2, Xf2, Xc3, Xf3, Xc4, Xf4, Xc5, Xf5, Xc6, Xf6, Xc7, Xf7, Xc8, Xf8⟩ := cf9 HX129.out
   go_wp2_with fail
   refine (HP4.out _ HS131.out).mono ?_
   rintro e w133 ⟨rfl, hk⟩
   have HS134 := Lib.hid (((hk.out.2).block _ (lt_of_heap HS130.out) (by have := HN.out; show ¬ _ = _; omega)).trans HS130.out)
   have HX135 := Lib.hid (((hk.out.2).block _ (lt_of_heap HX129.out) (by have := HN.out; show ¬ _ = _; omega)).trans HX129.out)
   have HS136 := Lib.hid (hk.out.1)
   have HK137 := Lib.hid (HK132.out.trans hk.out.2)
   clear Sc0 Sf0 Sc1 Sf1 Sc2 Sf2 Sc3 Sf3 Sc4 Sf4 Sc5 Sf5 Xc0 Xf0 Xc1 Xf1 Xc2 Xf2 Xc3 Xf3 Xc4 Xf4 Xc5 Xf5 Xc6 Xf6 Xc7 Xf7 Xc8 Xf8
   clear hk HP4 HS130 HX129 HS131 HK132
   obtain ⟨Sc0, Sf0, Sc1, Sf1, Sc2, Sf2, Sc3, Sf3, Sc4, Sf4, Sc5, Sf5⟩ := cf6 HS134.out
   obtain ⟨Xc0, Xf0, Xc1, Xf1, Xc2, Xf2, Xc3, Xf3, Xc4, Xf4, Xc5, Xf5, Xc6, Xf6, Xc7, Xf7, Xc8, Xf8⟩ := cf9 HX135.out
   have hs0 : (w133.setCell ⟨WA.heap.size, 8, none⟩ (.string ⟨v.toArray⟩)).heap[WA.heap.size]? = some (.cells #[.int .i64 3, .string ⟨h1.toArray⟩, .string ⟨h2.toArray⟩, .string ⟨#[]⟩, .string ⟨a1.toArray⟩, .string ⟨a2.toArray⟩, .string ⟨#[]⟩, .string ⟨#[]⟩, .string ⟨v.toArray⟩] 44) := heap_set (HX135.out) 8 (.string ⟨v.toArray⟩)
   have hkE : Keeps (fun q => q = WA.heap.size) w133 (w133.setCell ⟨WA.heap.size, 8, none⟩ (.string ⟨v.toArray⟩)) := (Keeps.setCell (S := fun q => q = WA.heap.size) (Keeps.refl _ _) (p := ⟨WA.heap.size, 8, none⟩) (fun _ => rfl) _)
   have HX139 := Lib.hid hs0
   have HS140 := Lib.hid (((hkE).block _ (lt_of_heap HS134.out) (by have := HN.out; show ¬ _ = _; omega)).trans HS134.out)
   have HS141 := Lib.hid (HS136.out.keeps hkE (by have := HN.out; show ¬ _ = _; omega))
   have HK142 := Lib.hid (HK137.out.trans_new hkE (fun q hq e => by have := HN.out; omega))
   clear hkE hs0 HX135 HS134 HS136 HK137
   go_upto_region 16 with fail
   clear Sc0 Sf0 Sc1 Sf1 Sc2 Sf2 Sc3 Sf3 Sc4 Sf4 Sc5 Sf5 Xc0 Xf0 Xc1 Xf1 Xc2 Xf2 Xc3 Xf3 Xc4 Xf4 Xc5 Xf5 Xc6 Xf6 Xc7 Xf7 Xc8 Xf8
   generalize (w133.setCell ⟨WA.heap.size, 8, none⟩ (.string ⟨v.toArray⟩)) = w138 at *
   obtain ⟨Sc0, Sf0, Sc1, Sf1, Sc2, Sf2, Sc3, Sf3, Sc4, Sf4, Sc5, Sf5⟩ := cf6 HS140.out
   obtain ⟨Xc0, Xf0, Xc1, Xf1, Xc2, Xf2, Xc3, Xf3, Xc4, Xf4, Xc5, Xf5, Xc6, Xf6, Xc7, Xf7, Xc8, Xf8⟩ := cf9 HX139.out
   go_wp2_with fail
   refine (HNM.out _).mono ?_
   rintro e w143 ⟨rfl, hk⟩
   have HS144 := Lib.hid (((hk.out).block _ (lt_of_heap HS140.out) (fun x => x)).trans HS140.out)
   have HX145 := Lib.hid (((hk.out).block _ (lt_of_heap HX139.out) (fun x => x)).trans HX139.out)
   have HS146 := Lib.hid (HS141.out.keeps hk.out (fun x => x))
   have HK147 := Lib.hid (HK142.out.trans (hk.out.mono (fun _ _ x => x.elim)))
   clear Sc0 Sf0 Sc1 Sf1 Sc2 Sf2 Sc3 Sf3 Sc4 Sf4 Sc5 Sf5 Xc0 Xf0 Xc1 Xf1 Xc2 Xf2 Xc3 Xf3 Xc4 Xf4 Xc5 Xf5 Xc6 Xf6 Xc7 Xf7 Xc8 Xf8
   clear hk HS140 HX139 HS141 HK142
   clear HNM
   obtain ⟨Sc0, Sf0, Sc1, Sf1, Sc2, Sf2, Sc3, Sf3, Sc4, Sf4, Sc5, Sf5⟩ := cf6 HS144.out
   obtain ⟨Xc0, Xf0, Xc1, Xf1, Xc2, Xf2, Xc3, Xf3, Xc4, Xf4, Xc5, Xf5, Xc6, Xf6, Xc7, Xf7, Xc8, Xf8⟩ := cf9 HX145.out
   obtain ⟨hs0, hkE⟩ := sx9 HX145.out (.int .i64 nk) (.string ⟨nh1.toArray⟩) (.string ⟨nh2.toArray⟩) (.string ⟨no.toArray⟩) (.string ⟨na1.toArray⟩) (.string ⟨na2.toArray⟩) (.string ⟨nb1.toArray⟩) (.string ⟨nb2.toArray⟩) (.string ⟨ni.toArray⟩)
   have HX148 := Lib.hid hs0
   have HS149 := Lib.hid (((hkE).block _ (lt_of_heap HS144.out) (by have := HN.out; show ¬ _ = _; omega)).trans HS144.out)
   have HS150 := Lib.hid (HS146.out.keeps hkE (by have := HN.out; show ¬ _ = _; omega))
   have HK151 := Lib.hid (HK147.out.trans_new hkE (fun q hq e => by have := HN.out; omega))
   clear hkE hs0 HX145 HS144 HS146 HK147
   go_wp2_with fail
   clear Sc0 Sf0 Sc1 Sf1 Sc2 Sf2 Sc3 Sf3 Sc4 Sf4 Sc5 Sf5 Xc0 Xf0 Xc1 Xf1 Xc2 Xf2 Xc3 Xf3 Xc4 Xf4 Xc5 Xf5 Xc6 Xf6 Xc7 Xf7 Xc8 Xf8
   generalize (((((((((w143.setCell ⟨WA.heap.size, 0, none⟩ (.int .i64 nk)).setCell ⟨WA.heap.size, 1, none⟩ (.string ⟨nh1.toArray⟩)).setCell ⟨WA.heap.size, 2, none⟩ (.string ⟨nh2.toArray⟩)).setCell ⟨WA.heap.size, 3, none⟩ (.string ⟨no.toArray⟩)).setCell ⟨WA.heap.size, 4, none⟩ (.string ⟨na1.toArray⟩)).setCell ⟨WA.heap.size, 5, none⟩ (.string ⟨na2.toArray⟩)).setCell ⟨WA.heap.size, 6, none⟩ (.string ⟨nb1.toArray⟩)).setCell ⟨WA.heap.size, 7, none⟩ (.string ⟨nb2.toArray⟩)).setCell ⟨WA.heap.size, 8, none⟩ (.string ⟨ni.toArray⟩)) = WE at *
   obtain ⟨Xc0, Xf0, Xc1, Xf1, Xc2, Xf2, Xc3, Xf3, Xc4, Xf4, Xc5, Xf5, Xc6, Xf6, Xc7, Xf7, Xc8, Xf8⟩ := cf9 HX148.out
   refine bodyPost_ret (v := .agg #[.int .i64 nk, .string ⟨nh1.toArray⟩, .string ⟨nh2.toArray⟩, .string ⟨no.toArray⟩, .string ⟨na1.toArray⟩, .string ⟨na2.toArray⟩, .string ⟨nb1.toArray⟩, .string ⟨nb2.toArray⟩, .string ⟨ni.toArray⟩]) (by simp [results, Tryz.results14, go_sem, *]) rfl ?_
   exact ⟨rfl, HS150.out, HK151.out⟩
  ·obtain ⟨⟨⟨a1, a2⟩, x3⟩, e3⟩ : ∃ q, rolD x2 s = q := ⟨_, rfl⟩
   have HP3 : Hid (∀ W, StB W 67 b x2 → Calls Tryz.prog 12 #[.pointer (some ⟨b, 0, none⟩), ShpV s] W (DrTo W 67 b (.agg #[.string ⟨a1.toArray⟩, .string ⟨a2.toArray⟩]) x3)) := fun W h => drole_at hf e3 W h
   obtain ⟨⟨⟨c1, c2⟩, x4⟩, e4⟩ : ∃ q, rolD x3 s = q := ⟨_, rfl⟩
   have HP4 : Hid (∀ W, StB W 67 b x3 → Calls Tryz.prog 12 #[.pointer (some ⟨b, 0, none⟩), ShpV s] W (DrTo W 67 b (.agg #[.string ⟨c1.toArray⟩, .string ⟨c2.toArray⟩]) x4)) := fun W h => drole_at hf e4 W h
   have HE : Hid (orD s noStm stmD x = (normS ((h1, h2), 4, [], (a1, a2), (c1, c2), []), x4)) := by
    show _ = _
    unfold orD
    rw [if_pos hf]
    unfold stmD bodD
    simp [e1, e2, e3, e4, noRol]
   rw [HE.out]
   have HNM : Hid (∀ W, Calls Tryz.prog 31 #[stmV ((h1, h2), 4, [], (a1, a2), (c1, c2), [])] W fun e W' => e = .returned (stmV (normS ((h1, h2), 4, [], (a1, a2), (c1, c2), []))) ∧ Hid (Keeps (fun _ => False) W W')) := fun W => snorm_spec _
   obtain ⟨nn, hnn⟩ : ∃ q, normS ((h1, h2), 4, [], (a1, a2), (c1, c2), []) = q := ⟨_, rfl⟩
   rw [hnn] at HNM ⊢
   obtain ⟨⟨nh1, nh2⟩, nk, no, ⟨na1, na2⟩, ⟨nb1, nb2⟩, ni⟩ := nn
   clear hnn HE e1 e2 e3 e4 hf HSH
   unfold ShpV stmV at *
   simp only at HNM
   obtain ⟨Sc0, Sf0, Sc1, Sf1, Sc2, Sf2, Sc3, Sf3, Sc4, Sf4, Sc5, Sf5⟩ := cf6 HS0.out
   obtain ⟨Xc0, Xf0, Xc1, Xf1, Xc2, Xf2, Xc3, Xf3, Xc4, Xf4, Xc5, Xf5, Xc6, Xf6, Xc7, Xf7, Xc8, Xf8⟩ := cf9 HX0.out
   go_enter Tryz.func14, Tryz.ntmps14
   go_wp2_with fail
   refine (HM.out _).mono ?_
   rintro e w152 ⟨rfl, hk⟩
   have HS153 := Lib.hid (((hk.out).block _ (lt_of_heap HS0.out) (fun x => x)).trans HS0.out)
   have HX154 := Lib.hid (((hk.out).block _ (lt_of_heap HX0.out) (fun x => x)).trans HX0.out)
   have HS155 := Lib.hid (HST0.out.keeps hk.out (fun x => x))
   have HK156 := Lib.hid (HK0.out.trans hk.out)
   clear Sc0 Sf0 Sc1 Sf1 Sc2 Sf2 Sc3 Sf3 Sc4 Sf4 Sc5 Sf5 Xc0 Xf0 Xc1 Xf1 Xc2 Xf2 Xc3 Xf3 Xc4 Xf4 Xc5 Xf5 Xc6 Xf6 Xc7 Xf7 Xc8 Xf8
   clear hk HS0 HX0 HST0 HK0
   clear HM hWA hWB
   obtain ⟨Sc0, Sf0, Sc1, Sf1, Sc2, Sf2, Sc3, Sf3, Sc4, Sf4, Sc5, Sf5⟩ := cf6 HS153.out
   obtain ⟨Xc0, Xf0, Xc1, Xf1, Xc2, Xf2, Xc3, Xf3, Xc4, Xf4, Xc5, Xf5, Xc6, Xf6, Xc7, Xf7, Xc8, Xf8⟩ := cf9 HX154.out
   go_wp2_with fail
   refine (HP1.out _ HS155.out).mono ?_
   rintro e w157 ⟨rfl, hk⟩
   have HS158 := Lib.hid (((hk.out.2).block _ (lt_of_heap HS153.out) (by have := HN.out; show ¬ _ = _; omega)).trans HS153.out)
   have HX159 := Lib.hid (((hk.out.2).block _ (lt_of_heap HX154.out) (by have := HN.out; show ¬ _ = _; omega)).trans HX154.out)
   have HS160 := Lib.hid (hk.out.1)
   have HK161 := Lib.hid ((HK156.out.mono (fun _ _ x => x.elim)).trans hk.out.2)
   clear Sc0 Sf0 Sc1 Sf1 Sc2 Sf2 Sc3 Sf3 Sc4 Sf4 Sc5 Sf5 Xc0 Xf0 Xc1 Xf1 Xc2 Xf2 Xc3 Xf3 Xc4 Xf4 Xc5 Xf5 Xc6 Xf6 Xc7 Xf7 Xc8 Xf8
   clear hk HP1 HS153 HX154 HS155 HK156
   obtain ⟨Sc0, Sf0, Sc1, Sf1, Sc2, Sf2, Sc3, Sf3, Sc4, Sf4, Sc5, Sf5⟩ := cf6 HS158.out
   obtain ⟨Xc0, Xf0, Xc1, Xf1, Xc2, Xf2, Xc3, Xf3, Xc4, Xf4, Xc5, Xf5, Xc6, Xf6, Xc7, Xf7, Xc8, Xf8⟩ := cf9 HX159.out
   have hs0 : (w157.setCell ⟨WA.heap.size, 1, none⟩ (.string ⟨h1.toArray⟩)).heap[WA.heap.size]? = some (.cells #[.int .i64 0, .string ⟨h1.toArray⟩, .string ⟨#[]⟩, .string ⟨#[]⟩, .string ⟨#[]⟩, .string ⟨#[]⟩, .string ⟨#[]⟩, .string ⟨#[]⟩, .string ⟨#[]⟩] 44) := heap_set (HX159.out) 1 (.string ⟨h1.toArray⟩)
   have hs1 : ((w157.setCell ⟨WA.heap.size, 1, none⟩ (.string ⟨h1.toArray⟩)).setCell ⟨WA.heap.size, 2, none⟩ (.string ⟨h2.toArray⟩)).heap[WA.heap.size]? = some (.cells #[.int .i64 0, .string ⟨h1.toArray⟩, .string ⟨h2.toArray⟩, .string ⟨#[]⟩, .string ⟨#[]⟩, .string ⟨#[]⟩, .string ⟨#[]⟩, .string ⟨#[]⟩, .string ⟨#[]⟩] 44) := heap_set (hs0) 2 (.string ⟨h2.toArray⟩)
   have hkE : Keeps (fun q => q = WA.heap.size) w157 ((w157.setCell ⟨WA.heap.size, 1, none⟩ (.string ⟨h1.toArray⟩)).setCell ⟨WA.heap.size, 2, none⟩ (.string ⟨h2.toArray⟩)) := (Keeps.setCell (S := fun q => q = WA.heap.size) (Keeps.setCell (S := fun q => q = WA.heap.size) (Keeps.refl _ _) (p := ⟨WA.heap.size, 1, none⟩) (fun _ => rfl) _) (p := ⟨WA.heap.size, 2, none⟩) (fun _ => rfl) _)
   have HX163 := Lib.hid hs1
   have HS164 := Lib.hid (((hkE).block _ (lt_of_heap HS158.out) (by have := HN.out; show ¬ _ = _; omega)).trans HS158.out)
   have HS165 := Lib.hid (HS160.out.keeps hkE (by have := HN.out; show ¬ _ = _; omega))
   have HK166 := Lib.hid (HK161.out.trans_new hkE (fun q hq e => by have := HN.out; omega))
   clear hkE hs0 hs1 HX159 HS158 HS160 HK161
   go_upto_region 4 with fail
   clear Sc0 Sf0 Sc1 Sf1 Sc2 Sf2 Sc3 Sf3 Sc4 Sf4 Sc5 Sf5 Xc0 Xf0 Xc1 Xf1 Xc2 Xf2 Xc3 Xf3 Xc4 Xf4 Xc5 Xf5 Xc6 Xf6 Xc7 Xf7 Xc8 Xf8
   generalize ((w157.setCell ⟨WA.heap.size, 1, none⟩ (.string ⟨h1.toArray⟩)).setCell ⟨WA.heap.size, 2, none⟩ (.string ⟨h2.toArray⟩)) = w162 at *
   obtain ⟨Sc0, Sf0, Sc1, Sf1, Sc2, Sf2, Sc3, Sf3, Sc4, Sf4, Sc5, Sf5⟩ := cf6 HS164.out
   obtain ⟨Xc0, Xf0, Xc1, Xf1, Xc2, Xf2, Xc3, Xf3, Xc4, Xf4, Xc5, Xf5, Xc6, Xf6, Xc7, Xf7, Xc8, Xf8⟩ := cf9 HX163.out
   go_wp2_with fail
   refine (HP2.out _ HS165.out).mono ?_
   rintro e w167 ⟨rfl, hk⟩
   have HS168 := Lib.hid (((hk.out.2).block _ (lt_of_heap HS164.out) (by have := HN.out; show ¬ _ = _; omega)).trans HS164.out)
   have HX169 := Lib.hid (((hk.out.2).block _ (lt_of_heap HX163.out) (by have := HN.out; show ¬ _ = _; omega)).trans HX163.out)
   have HS170 := Lib.hid (hk.out.1)
   have HK171 := Lib.hid (HK166.out.trans hk.out.2)
   clear Sc0 Sf0 Sc1 Sf1 Sc2 Sf2 Sc3 Sf3 Sc4 Sf4 Sc5 Sf5 Xc0 Xf0 Xc1 Xf1 Xc2 Xf2 Xc3 Xf3 Xc4 Xf4 Xc5 Xf5 Xc6 Xf6 Xc7 Xf7 Xc8 Xf8
   clear hk HP2 HS164 HX163 HS165 HK166
   obtain ⟨Sc0, Sf0, Sc1, Sf1, Sc2, Sf2, Sc3, Sf3, Sc4, Sf4, Sc5, Sf5⟩ := cf6 HS168.out
   obtain ⟨Xc0, Xf0, Xc1, Xf1, Xc2, Xf2, Xc3, Xf3, Xc4, Xf4, Xc5, Xf5, Xc6, Xf6, Xc7, Xf7, Xc8, Xf8⟩ := cf9 HX169.out
   have hs0 : (w167.setCell ⟨WA.heap.size, 0, none⟩ (.int .i64 4)).heap[WA.heap.size]? = some (.cells #[.int .i64 4, .string ⟨h1.toArray⟩, .string ⟨h2.toArray⟩, .string ⟨#[]⟩, .string ⟨#[]⟩, .string ⟨#[]⟩, .string ⟨#[]⟩, .string ⟨#[]⟩, .string ⟨#[]⟩] 44) := heap_set (HX169.out) 0 (.int .i64 4)
   have hkE : Keeps (fun q => q = WA.heap.size) w167 (w167.setCell ⟨WA.heap.size, 0, none⟩ (.int .i64 4)) := (Keeps.setCell (S := fun q => q = WA.heap.size) (Keeps.refl _ _) (p := ⟨WA.heap.size, 0, none⟩) (fun _ => rfl) _)
   have HX173 := Lib.hid hs0
   have HS174 := Lib.hid (((hkE).block _ (lt_of_heap HS168.out) (by have := HN.out; show ¬ _ = _; omega)).trans HS168.out)
   have HS175 := Lib.hid (HS170.out.keeps hkE (by have := HN.out; show ¬ _ = _; omega))
   have HK176 := Lib.hid (HK171.out.trans_new hkE (fun q hq e => by have := HN.out; omega))
   clear hkE hs0 HX169 HS168 HS170 HK171
   go_upto_region 5 with fail
   clear Sc0 Sf0 Sc1 Sf1 Sc2 Sf2 Sc3 Sf3 Sc4 Sf4 Sc5 Sf5 Xc0 Xf0 Xc1 Xf1 Xc2 Xf2 Xc3 Xf3 Xc4 Xf4 Xc5 Xf5 Xc6 Xf6 Xc7 Xf7 Xc8 Xf8
   generalize (w167.setCell ⟨WA.heap.size, 0, none⟩ (.int .i64 4)) = w172 at *
   obtain ⟨Sc0, Sf0, Sc1, Sf1, Sc2, Sf2, Sc3, Sf3, Sc4, Sf4, Sc5, Sf5⟩ := cf6 HS174.out
   obtain ⟨Xc0, Xf0, Xc1, Xf1, Xc2, Xf2, Xc3, Xf3, Xc4, Xf4, Xc5, Xf5, Xc6, Xf6, Xc7, Xf7, Xc8, Xf8⟩ := cf9 HX173.out
   go_wp2_with fail
   refine (HP3.out _ HS175.out).mono ?_
   rintro e w177 ⟨rfl, hk⟩
   have HS178 := Lib.hid (((hk.out.2).block _ (lt_of_heap HS174.out) (by have := HN.out; show ¬ _ = _; omega)).trans HS174.out)
   have HX179 := Lib.hid (((hk.out.2).block _ (lt_of_heap HX173.out) (by have := HN.out; show ¬ _ = _; omega)).trans HX173.out)
   have HS180 := Lib.hid (hk.out.1)
   have HK181 := Lib.hid (HK176.out.trans hk.out.2)
   clear Sc0 Sf0 Sc1 Sf1 Sc2 Sf2 Sc3 Sf3 Sc4 Sf4 Sc5 Sf5 Xc0 Xf0 Xc1 Xf1 Xc2 Xf2 Xc3 Xf3 Xc4 Xf4 Xc5 Xf5 Xc6 Xf6 Xc7 Xf7 Xc8 Xf8
   clear hk HP3 HS174 HX173 HS175 HK176
   obtain ⟨Sc0, Sf0, Sc1, Sf1, Sc2, Sf2, Sc3, Sf3, Sc4, Sf4, Sc5, Sf5⟩ := cf6 HS178.out
   obtain ⟨Xc0, Xf0, Xc1, Xf1, Xc2, Xf2, Xc3, Xf3, Xc4, Xf4, Xc5, Xf5, Xc6, Xf6, Xc7, Xf7, Xc8, Xf8⟩ := cf9 HX179.out
   have hs0 : (w177.setCell ⟨WA.heap.size, 4, none⟩ (.string ⟨a1.toArray⟩)).heap[WA.heap.size]? = some (.cells #[.int .i64 4, .string ⟨h1.toArray⟩, .string ⟨h2.toArray⟩, .string ⟨#[]⟩, .string ⟨a1.toArray⟩, .string ⟨#[]⟩, .string ⟨#[]⟩, .string ⟨#[]⟩, .string ⟨#[]⟩] 44) := heap_set (HX179.out) 4 (.string ⟨a1.toArray⟩)
   have hs1 : ((w177.setCell ⟨WA.heap.size, 4, none⟩ (.string ⟨a1.toArray⟩)).setCell ⟨WA.heap.size, 5, none⟩ (.string ⟨a2.toArray⟩)).heap[WA.heap.size]? = some (.cells #[.int .i64 4, .string ⟨h1.toArray⟩, .string ⟨h2.toArray⟩, .string ⟨#[]⟩, .string ⟨a1.toArray⟩, .string ⟨a2.toArray⟩, .string ⟨#[]⟩, .string ⟨#[]⟩, .string ⟨#[]⟩] 44) := heap_set (hs0) 5 (.string ⟨a2.toArray⟩)
   have hkE : Keeps (fun q => q = WA.heap.size) w177 ((w177.setCell ⟨WA.heap.size, 4, none⟩ (.string ⟨a1.toArray⟩)).setCell ⟨WA.heap.size, 5, none⟩ (.string ⟨a2.toArray⟩)) := (Keeps.setCell (S := fun q => q = WA.heap.size) (Keeps.setCell (S := fun q => q = WA.heap.size) (Keeps.refl _ _) (p := ⟨WA.heap.size, 4, none⟩) (fun _ => rfl) _) (p := ⟨WA.heap.size, 5, none⟩) (fun _ => rfl) _)
   have HX183 := Lib.hid hs1
   have HS184 := Lib.hid (((hkE).block _ (lt_of_heap HS178.out) (by have := HN.out; show ¬ _ = _; omega)).trans HS178.out)
   have HS185 := Lib.hid (HS180.out.keeps hkE (by have := HN.out; show ¬ _ = _; omega))
   have HK186 := Lib.hid (HK181.out.trans_new hkE (fun q hq e => by have := HN.out; omega))
   clear hkE hs0 hs1 HX179 HS178 HS180 HK181
   go_upto_region 15 with fail
   clear Sc0 Sf0 Sc1 Sf1 Sc2 Sf2 Sc3 Sf3 Sc4 Sf4 Sc5 Sf5 Xc0 Xf0 Xc1 Xf1 Xc2 Xf2 Xc3 Xf3 Xc4 Xf4 Xc5 Xf5 Xc6 Xf6 Xc7 Xf7 Xc8 Xf8
   generalize ((w177.setCell ⟨WA.heap.size, 4, none⟩ (.string ⟨a1.toArray⟩)).setCell ⟨WA.heap.size, 5, none⟩ (.string ⟨a2.toArray⟩)) = w182 at *
   obtain ⟨Sc0, Sf0, Sc1, Sf1, Sc2, Sf2, Sc3, Sf3, Sc4, Sf4, Sc5, Sf5⟩ := cf6 HS184.out
   obtain ⟨Xc0, Xf0, Xc1, Xf1, Xc2, Xf2, Xc3, Xf3, Xc4, Xf4, Xc5, Xf5, Xc6, Xf6, Xc7, Xf7, Xc8, Xf8⟩ := cf9 HX183.out
   go_wp2_with fail
   refine (HP4.out _ HS185.out).mono ?_
   rintro e w187 ⟨rfl, hk⟩
   have HS188 := Lib.hid (((hk.out.2).block _ (lt_of_heap HS184.out) (by have := HN.out; show ¬ _ = _; omega)).trans HS184.out)
   have HX189 := Lib.hid (((hk.out.2).block _ (lt_of_heap HX183.out) (by have := HN.out; show ¬ _ = _; omega)).trans HX183.out)
   have HS190 := Lib.hid (hk.out.1)
   have HK191 := Lib.hid (HK186.out.trans hk.out.2)
   clear Sc0 Sf0 Sc1 Sf1 Sc2 Sf2 Sc3 Sf3 Sc4 Sf4 Sc5 Sf5 Xc0 Xf0 Xc1 Xf1 Xc2 Xf2 Xc3 Xf3 Xc4 Xf4 Xc5 Xf5 Xc6 Xf6 Xc7 Xf7 Xc8 Xf8
   clear hk HP4 HS184 HX183 HS185 HK186
   obtain ⟨Sc0, Sf0, Sc1, Sf1, Sc2, Sf2, Sc3, Sf3, Sc4, Sf4, Sc5, Sf5⟩ := cf6 HS188.out
   obtain ⟨Xc0, Xf0, Xc1, Xf1, Xc2, Xf2, Xc3, Xf3, Xc4, Xf4, Xc5, Xf5, Xc6, Xf6, Xc7, Xf7, Xc8, Xf8⟩ := cf9 HX189.out
   have hs0 : (w187.setCell ⟨WA.heap.size, 6, none⟩ (.string ⟨c1.toArray⟩)).heap[WA.heap.size]? = some (.cells #[.int .i64 4, .string ⟨h1.toArray⟩, .string ⟨h2.toArray⟩, .string ⟨#[]⟩, .string ⟨a1.toArray⟩, .string ⟨a2.toArray⟩, .string ⟨c1.toArray⟩, .string ⟨#[]⟩, .string ⟨#[]⟩] 44) := heap_set (HX189.out) 6 (.string ⟨c1.toArray⟩)
   have hs1 : ((w187.setCell ⟨WA.heap.size, 6, none⟩ (.string ⟨c1.toArray⟩)).setCell ⟨WA.heap.size, 7, none⟩ (.string ⟨c2.toArray⟩)).heap[WA.heap.size]? = some (.cells #[.int .i64 4, .string ⟨h1.toArray⟩, .string ⟨h2.toArray⟩, .string ⟨#[]⟩, .string ⟨a1.toArray⟩, .string ⟨a2.toArray⟩, .string ⟨c1.toArray⟩, .string ⟨c2.toArray⟩, .string ⟨#[]⟩] 44) := heap_set (hs0) 7 (.string ⟨c2.toArray⟩)
   have hkE : Keeps (fun q => q = WA.heap.size) w187 ((w187.setCell ⟨WA.heap.size, 6, none⟩ (.string ⟨c1.toArray⟩)).setCell ⟨WA.heap.size, 7, none⟩ (.string ⟨c2.toArray⟩)) := (Keeps.setCell (S := fun q => q = WA.heap.size) (Keeps.setCell (S := fun q => q = WA.heap.size) (Keeps.refl _ _) (p := ⟨WA.heap.size, 6, none⟩) (fun _ => rfl) _) (p := ⟨WA.heap.size, 7, none⟩) (fun _ => rfl) _)
   have HX193 := Lib.hid hs1
   have HS194 := Lib.hid (((hkE).block _ (lt_of_heap HS188.out) (by have := HN.out; show ¬ _ = _; omega)).trans HS188.out)
   have HS195 := Lib.hid (HS190.out.keeps hkE (by have := HN.out; show ¬ _ = _; omega))
   have HK196 := Lib.hid (HK191.out.trans_new hkE (fun q hq e => by have := HN.out; omega))
   clear hkE hs0 hs1 HX189 HS188 HS190 HK191
   go_upto_region 16 with fail
   clear Sc0 Sf0 Sc1 Sf1 Sc2 Sf2 Sc3 Sf3 Sc4 Sf4 Sc5 Sf5 Xc0 Xf0 Xc1 Xf1 Xc2 Xf2 Xc3 Xf3 Xc4 Xf4 Xc5 Xf5 Xc6 Xf6 Xc7 Xf7 Xc8 Xf8
   generalize ((w187.setCell ⟨WA.heap.size, 6, none⟩ (.string ⟨c1.toArray⟩)).setCell ⟨WA.heap.size, 7, none⟩ (.string ⟨c2.toArray⟩)) = w192 at *
   obtain ⟨Sc0, Sf0, Sc1, Sf1, Sc2, Sf2, Sc3, Sf3, Sc4, Sf4, Sc5, Sf5⟩ := cf6 HS194.out
   obtain ⟨Xc0, Xf0, Xc1, Xf1, Xc2, Xf2, Xc3, Xf3, Xc4, Xf4, Xc5, Xf5, Xc6, Xf6, Xc7, Xf7, Xc8, Xf8⟩ := cf9 HX193.out
   go_wp2_with fail
   refine (HNM.out _).mono ?_
   rintro e w197 ⟨rfl, hk⟩
   have HS198 := Lib.hid (((hk.out).block _ (lt_of_heap HS194.out) (fun x => x)).trans HS194.out)
   have HX199 := Lib.hid (((hk.out).block _ (lt_of_heap HX193.out) (fun x => x)).trans HX193.out)
   have HS200 := Lib.hid (HS195.out.keeps hk.out (fun x => x))
   have HK201 := Lib.hid (HK196.out.trans (hk.out.mono (fun _ _ x => x.elim)))
   clear Sc0 Sf0 Sc1 Sf1 Sc2 Sf2 Sc3 Sf3 Sc4 Sf4 Sc5 Sf5 Xc0 Xf0 Xc1 Xf1 Xc2 Xf2 Xc3 Xf3 Xc4 Xf4 Xc5 Xf5 Xc6 Xf6 Xc7 Xf7 Xc8 Xf8
   clear hk HS194 HX193 HS195 HK196
   clear HNM
   obtain ⟨Sc0, Sf0, Sc1, Sf1, Sc2, Sf2, Sc3, Sf3, Sc4, Sf4, Sc5, Sf5⟩ := cf6 HS198.out
   obtain ⟨Xc0, Xf0, Xc1, Xf1, Xc2, Xf2, Xc3, Xf3, Xc4, Xf4, Xc5, Xf5, Xc6, Xf6, Xc7, Xf7, Xc8, Xf8⟩ := cf9 HX199.out
   obtain ⟨hs0, hkE⟩ := sx9 HX199.out (.int .i64 nk) (.string ⟨nh1.toArray⟩) (.string ⟨nh2.toArray⟩) (.string ⟨no.toArray⟩) (.string ⟨na1.toArray⟩) (.string ⟨na2.toArray⟩) (.string ⟨nb1.toArray⟩) (.string ⟨nb2.toArray⟩) (.string ⟨ni.toArray⟩)
   have HX202 := Lib.hid hs0
   have HS203 := Lib.hid (((hkE).block _ (lt_of_heap HS198.out) (by have := HN.out; show ¬ _ = _; omega)).trans HS198.out)
   have HS204 := Lib.hid (HS200.out.keeps hkE (by have := HN.out; show ¬ _ = _; omega))
   have HK205 := Lib.hid (HK201.out.trans_new hkE (fun q hq e => by have := HN.out; omega))
   clear hkE hs0 HX199 HS198 HS200 HK201
   go_wp2_with fail
   clear Sc0 Sf0 Sc1 Sf1 Sc2 Sf2 Sc3 Sf3 Sc4 Sf4 Sc5 Sf5 Xc0 Xf0 Xc1 Xf1 Xc2 Xf2 Xc3 Xf3 Xc4 Xf4 Xc5 Xf5 Xc6 Xf6 Xc7 Xf7 Xc8 Xf8
   generalize (((((((((w197.setCell ⟨WA.heap.size, 0, none⟩ (.int .i64 nk)).setCell ⟨WA.heap.size, 1, none⟩ (.string ⟨nh1.toArray⟩)).setCell ⟨WA.heap.size, 2, none⟩ (.string ⟨nh2.toArray⟩)).setCell ⟨WA.heap.size, 3, none⟩ (.string ⟨no.toArray⟩)).setCell ⟨WA.heap.size, 4, none⟩ (.string ⟨na1.toArray⟩)).setCell ⟨WA.heap.size, 5, none⟩ (.string ⟨na2.toArray⟩)).setCell ⟨WA.heap.size, 6, none⟩ (.string ⟨nb1.toArray⟩)).setCell ⟨WA.heap.size, 7, none⟩ (.string ⟨nb2.toArray⟩)).setCell ⟨WA.heap.size, 8, none⟩ (.string ⟨ni.toArray⟩)) = WE at *
   obtain ⟨Xc0, Xf0, Xc1, Xf1, Xc2, Xf2, Xc3, Xf3, Xc4, Xf4, Xc5, Xf5, Xc6, Xf6, Xc7, Xf7, Xc8, Xf8⟩ := cf9 HX202.out
   refine bodyPost_ret (v := .agg #[.int .i64 nk, .string ⟨nh1.toArray⟩, .string ⟨nh2.toArray⟩, .string ⟨no.toArray⟩, .string ⟨na1.toArray⟩, .string ⟨na2.toArray⟩, .string ⟨nb1.toArray⟩, .string ⟨nb2.toArray⟩, .string ⟨ni.toArray⟩]) (by simp [results, Tryz.results14, go_sem, *]) rfl ?_
   exact ⟨rfl, HS204.out, HK205.out⟩
theorem rstmt_spec {s : Shp} (hf : fitsD s = true) (h : StB W 30 b x) :
  Calls Tryz.prog 13 #[.pointer (some ⟨b, 0, none⟩), ShpV s] W (DrTo W 30 b (stmV (stmD x s).1) (stmD x s).2) := by
 have hfn : s.prins ≤ 9223372036854775807 ∧ s.links ≤ 9223372036854775807 := by
  have q := hf
  unfold fitsD at q
  rw [decide_eq_true_eq] at q
  omega
 have hbl := lt_of_heap h.1
 have hal := (MapKept.heap_alloc W (.cells #[.int .i64 s.prins, .int .i64 s.links, .int .i64 s.stmts, .int .i64 s.grow, .int .i64 s.shrink, .int .i64 s.asks] 24)).1
 obtain ⟨WA, hWA⟩ : ∃ WA, W.alloc (.cells #[.int .i64 s.prins, .int .i64 s.links, .int .i64 s.stmts, .int .i64 s.grow, .int .i64 s.shrink, .int .i64 s.asks] 24) = WA := ⟨_, rfl⟩
 have hkA : Keeps (fun _ => False) W WA := by rw [← hWA]; exact (Keeps.refl _ _).alloc _
 have hsz : WA.heap.size = W.heap.size + 1 := by rw [← hWA]; simp
 rw [hWA] at hal
 have hal2 := (MapKept.heap_alloc WA (.cells #[.int .i64 0, .string ⟨#[]⟩, .string ⟨#[]⟩, .string ⟨#[]⟩, .string ⟨#[]⟩, .string ⟨#[]⟩, .string ⟨#[]⟩, .string ⟨#[]⟩, .string ⟨#[]⟩] 44)).1
 obtain ⟨WB, hWB⟩ : ∃ WB, WA.alloc (.cells #[.int .i64 0, .string ⟨#[]⟩, .string ⟨#[]⟩, .string ⟨#[]⟩, .string ⟨#[]⟩, .string ⟨#[]⟩, .string ⟨#[]⟩, .string ⟨#[]⟩, .string ⟨#[]⟩] 44) = WB := ⟨_, rfl⟩
 have hkB : Keeps (fun _ => False) WA WB := by rw [← hWB]; exact (Keeps.refl _ _).alloc _
 rw [hWB] at hal2
 have HS0 : Hid (WB.heap[W.heap.size]? = some (.cells #[.int .i64 s.prins, .int .i64 s.links, .int .i64 s.stmts, .int .i64 s.grow, .int .i64 s.shrink, .int .i64 s.asks] 24)) := (hkB.block _ (lt_of_heap hal) (fun x => x)).trans hal
 have HX0 := Lib.hid hal2
 have HK0 := Lib.hid (hkA.trans hkB)
 have HST0 := Lib.hid (h.keeps HK0.out (fun x => x))
 have HN : Hid (W.heap.size ≠ b ∧ WA.heap.size ≠ b ∧ WA.heap.size ≠ W.heap.size ∧ W.heap.size ≤ WA.heap.size ∧ b < W.heap.size) := ⟨by omega, by omega, by omega, by omega, hbl⟩
 clear hal hal2 hkA hkB hsz hbl h
 obtain ⟨⟨⟨h1, h2⟩, x1⟩, e1⟩ : ∃ q, rolD x s = q := ⟨_, rfl⟩
 obtain ⟨⟨k, x2⟩, e2⟩ : ∃ q, belD x1 4 = q := ⟨_, rfl⟩
 have hk := belD_range (x := x1) (n := 4) (by omega)
 rw [e2] at hk
 simp only at hk
 have HP1 : Hid (∀ W, StB W 30 b x → Calls Tryz.prog 11 #[.pointer (some ⟨b, 0, none⟩), ShpV s] W (DrTo W 30 b (.agg #[.string ⟨h1.toArray⟩, .string ⟨h2.toArray⟩]) x1)) := fun W h => rrole_at hf e1 W h
 have HP2 : Hid (∀ W, StB W 30 b x1 → Calls Tryz.prog 9 #[.pointer (some ⟨b, 0, none⟩), .int .i64 4] W (DrTo W 30 b (.int .i64 k) x2)) := fun W h => rbelow_at (by omega) e2 W h
 have hkk : k = 0 ∨ k = 1 ∨ k = 2 ∨ k = 3 := by omega
 clear hk
 rcases hkk with rfl | rfl | rfl | rfl
 ·obtain ⟨⟨k3, x3⟩, e3⟩ : ∃ q, belD x2 s.prins = q := ⟨_, rfl⟩
  have HP3 : Hid (∀ W, StB W 30 b x2 → Calls Tryz.prog 9 #[.pointer (some ⟨b, 0, none⟩), .int .i64 s.prins] W (DrTo W 30 b (.int .i64 k3) x3)) := fun W h => rbelow_at (by omega) e3 W h
  have hr3 := prin_letters (x := x2) hf
  rw [e3] at hr3
  have HL3 : Hid (∀ W : World, Calls Tryz.prog 26 #[.int .u8 65, .int .i64 k3] W fun e W' => e = .returned (encStr8 [(65 + k3).toNat.toUInt8]) ∧ Hid (Keeps (fun _ => False) W W')) := fun W => rletter_spec (.inl rfl) hr3.1 (by have := hr3.2; simp only at this; omega)
  clear hr3
  have eD3 : prinD x2 s = ([(65 + k3).toNat.toUInt8], x3) := by unfold prinD; rw [e3]
  unfold encStr8 at HL3
  obtain ⟨o, ho⟩ : ∃ q, [(65 + k3).toNat.toUInt8] = q := ⟨_, rfl⟩
  rw [ho] at HL3 eD3
  clear ho e3
  have HE : Hid (stmD x s = (normS ((h1, h2), 1, o, ([], []), ([], []), []), x3)) := by
   show _ = _
   unfold stmD bodD
   simp [e1, e2, eD3, noRol]
  rw [HE.out]
  skip
  have hnn : normS ((h1, h2), 1, o, ([], []), ([], []), []) = ((h1, h2), 1, o, ([], []), ([], []), []) := by unfold normS; simp
  rw [hnn] 
  skip
  clear hnn HE e1 e2 eD3 hf hfn
  unfold ShpV stmV at *
  skip
  obtain ⟨Sc0, Sf0, Sc1, Sf1, Sc2, Sf2, Sc3, Sf3, Sc4, Sf4, Sc5, Sf5⟩ := cf6 HS0.out
  obtain ⟨Xc0, Xf0, Xc1, Xf1, Xc2, Xf2, Xc3, Xf3, Xc4, Xf4, Xc5, Xf5, Xc6, Xf6, Xc7, Xf7, Xc8, Xf8⟩ := cf9 HX0.out
  go_enter Tryz.func13, Tryz.ntmps13
  go_wp2_with fail
  refine (HP1.out _ HST0.out).mono ?_
  rintro e w206 ⟨rfl, hk⟩
  have HS207 := Lib.hid (((hk.out.2).block _ (lt_of_heap HS0.out) (by have := HN.out; show ¬ _ = _; omega)).trans HS0.out)
  have HX208 := Lib.hid (((hk.out.2).block _ (lt_of_heap HX0.out) (by have := HN.out; show ¬ _ = _; omega)).trans HX0.out)
  have HS209 := Lib.hid (hk.out.1)
  have HK210 := Lib.hid ((HK0.out.mono (fun _ _ x => x.elim)).trans hk.out.2)
  clear Sc0 Sf0 Sc1 Sf1 Sc2 Sf2 Sc3 Sf3 Sc4 Sf4 Sc5 Sf5 Xc0 Xf0 Xc1 Xf1 Xc2 Xf2 Xc3 Xf3 Xc4 Xf4 Xc5 Xf5 Xc6 Xf6 Xc7 Xf7 Xc8 Xf8
  clear hk HP1 HS0 HX0 HST0 HK0
  clear hWA hWB
  obtain ⟨Sc0, Sf0, Sc1, Sf1, Sc2, Sf2, Sc3, Sf3, Sc4, Sf4, Sc5, Sf5⟩ := cf6 HS207.out
  obtain ⟨Xc0, Xf0, Xc1, Xf1, Xc2, Xf2, Xc3, Xf3, Xc4, Xf4, Xc5, Xf5, Xc6, Xf6, Xc7, Xf7, Xc8, Xf8⟩ := cf9 HX208.out
  have hal := (MapKept.heap_alloc w206 (.cells #[.int .i64 0, .string ⟨h1.toArray⟩, .string ⟨h2.toArray⟩, .string ⟨#[]⟩, .string ⟨#[]⟩, .string ⟨#[]⟩, .string ⟨#[]⟩, .string ⟨#[]⟩, .string ⟨#[]⟩] 44)).1
  have hkE : Keeps (fun _ => False) w206 (w206.alloc (.cells #[.int .i64 0, .string ⟨h1.toArray⟩, .string ⟨h2.toArray⟩, .string ⟨#[]⟩, .string ⟨#[]⟩, .string ⟨#[]⟩, .string ⟨#[]⟩, .string ⟨#[]⟩, .string ⟨#[]⟩] 44)) := (Keeps.refl _ _).alloc _
  obtain ⟨YB, hYB⟩ : ∃ q, w206.heap.size = q := ⟨_, rfl⟩
  rw [hYB] at hal
  have HS213 := Lib.hid (((hkE).block _ (lt_of_heap HS207.out) (fun x => x)).trans HS207.out)
  have HX214 := Lib.hid (((hkE).block _ (lt_of_heap HX208.out) (fun x => x)).trans HX208.out)
  have HN212 : Hid ((W.heap.size ≠ b ∧ WA.heap.size ≠ b ∧ WA.heap.size ≠ W.heap.size ∧ W.heap.size ≤ WA.heap.size ∧ b < W.heap.size) ∧ W.heap.size ≤ YB ∧ W.heap.size < YB ∧ WA.heap.size < YB ∧ b < YB) := ⟨HN.out, by
   have hz := HK210.out.size
   have l0 := lt_of_heap HS207.out
   have l1 := lt_of_heap HX208.out
   have ls := lt_of_heap HS209.out.1
   refine ⟨?_, ?_, ?_, ?_⟩ <;> omega⟩
  have HS215 := Lib.hid (HS209.out.keeps hkE (fun x => x))
  have HK216 := Lib.hid (HK210.out.trans (hkE.mono (fun _ _ x => x.elim)))
  have HY217 := Lib.hid hal
  clear hkE hal HS207 HX208 HN HS209 HK210
  go_upto_region 2 with fail
  clear Sc0 Sf0 Sc1 Sf1 Sc2 Sf2 Sc3 Sf3 Sc4 Sf4 Sc5 Sf5 Xc0 Xf0 Xc1 Xf1 Xc2 Xf2 Xc3 Xf3 Xc4 Xf4 Xc5 Xf5 Xc6 Xf6 Xc7 Xf7 Xc8 Xf8
  clear hYB
  generalize (w206.alloc (.cells #[.int .i64 0, .string ⟨h1.toArray⟩, .string ⟨h2.toArray⟩, .string ⟨#[]⟩, .string ⟨#[]⟩, .string ⟨#[]⟩, .string ⟨#[]⟩, .string ⟨#[]⟩, .string ⟨#[]⟩] 44)) = w211 at *
  obtain ⟨Sc0, Sf0, Sc1, Sf1, Sc2, Sf2, Sc3, Sf3, Sc4, Sf4, Sc5, Sf5⟩ := cf6 HS213.out
  obtain ⟨Xc0, Xf0, Xc1, Xf1, Xc2, Xf2, Xc3, Xf3, Xc4, Xf4, Xc5, Xf5, Xc6, Xf6, Xc7, Xf7, Xc8, Xf8⟩ := cf9 HX214.out
  obtain ⟨Yc0, Yf0, Yc1, Yf1, Yc2, Yf2, Yc3, Yf3, Yc4, Yf4, Yc5, Yf5, Yc6, Yf6, Yc7, Yf7, Yc8, Yf8⟩ := cf9 HY217.out
  go_wp2_with fail
  refine (HP2.out _ HS215.out).mono ?_
  rintro e w218 ⟨rfl, hk⟩
  have HS219 := Lib.hid (((hk.out.2).block _ (lt_of_heap HS213.out) (by have := HN212.out; show ¬ _ = _; omega)).trans HS213.out)
  have HX220 := Lib.hid (((hk.out.2).block _ (lt_of_heap HX214.out) (by have := HN212.out; show ¬ _ = _; omega)).trans HX214.out)
  have HY221 := Lib.hid (((hk.out.2).block _ (lt_of_heap HY217.out) (by have := HN212.out; show ¬ _ = _; omega)).trans HY217.out)
  have HS222 := Lib.hid (hk.out.1)
  have HK223 := Lib.hid (HK216.out.trans hk.out.2)
  clear Sc0 Sf0 Sc1 Sf1 Sc2 Sf2 Sc3 Sf3 Sc4 Sf4 Sc5 Sf5 Xc0 Xf0 Xc1 Xf1 Xc2 Xf2 Xc3 Xf3 Xc4 Xf4 Xc5 Xf5 Xc6 Xf6 Xc7 Xf7 Xc8 Xf8 Yc0 Yf0 Yc1 Yf1 Yc2 Yf2 Yc3 Yf3 Yc4 Yf4 Yc5 Yf5 Yc6 Yf6 Yc7 Yf7 Yc8 Yf8
  clear hk HP2 HS213 HX214 HY217 HS215 HK216
  obtain ⟨Sc0, Sf0, Sc1, Sf1, Sc2, Sf2, Sc3, Sf3, Sc4, Sf4, Sc5, Sf5⟩ := cf6 HS219.out
  obtain ⟨Xc0, Xf0, Xc1, Xf1, Xc2, Xf2, Xc3, Xf3, Xc4, Xf4, Xc5, Xf5, Xc6, Xf6, Xc7, Xf7, Xc8, Xf8⟩ := cf9 HX220.out
  obtain ⟨Yc0, Yf0, Yc1, Yf1, Yc2, Yf2, Yc3, Yf3, Yc4, Yf4, Yc5, Yf5, Yc6, Yf6, Yc7, Yf7, Yc8, Yf8⟩ := cf9 HY221.out
  have hs0 : (w218.setCell ⟨YB, 0, none⟩ (.int .i64 1)).heap[YB]? = some (.cells #[.int .i64 1, .string ⟨h1.toArray⟩, .string ⟨h2.toArray⟩, .string ⟨#[]⟩, .string ⟨#[]⟩, .string ⟨#[]⟩, .string ⟨#[]⟩, .string ⟨#[]⟩, .string ⟨#[]⟩] 44) := heap_set (HY221.out) 0 (.int .i64 1)
  have hkE : Keeps (fun q => q = YB) w218 (w218.setCell ⟨YB, 0, none⟩ (.int .i64 1)) := (Keeps.setCell (S := fun q => q = YB) (Keeps.refl _ _) (p := ⟨YB, 0, none⟩) (fun _ => rfl) _)
  have HY225 := Lib.hid hs0
  have HS226 := Lib.hid (((hkE).block _ (lt_of_heap HS219.out) (by have := HN212.out; show ¬ _ = _; omega)).trans HS219.out)
  have HX227 := Lib.hid (((hkE).block _ (lt_of_heap HX220.out) (by have := HN212.out; show ¬ _ = _; omega)).trans HX220.out)
  have HS228 := Lib.hid (HS222.out.keeps hkE (by have := HN212.out; show ¬ _ = _; omega))
  have HK229 := Lib.hid (HK223.out.trans_new hkE (fun q hq e => by have := HN212.out; omega))
  clear hkE hs0 HY221 HS219 HX220 HS222 HK223
  go_upto_region 3 with fail
  clear Sc0 Sf0 Sc1 Sf1 Sc2 Sf2 Sc3 Sf3 Sc4 Sf4 Sc5 Sf5 Xc0 Xf0 Xc1 Xf1 Xc2 Xf2 Xc3 Xf3 Xc4 Xf4 Xc5 Xf5 Xc6 Xf6 Xc7 Xf7 Xc8 Xf8 Yc0 Yf0 Yc1 Yf1 Yc2 Yf2 Yc3 Yf3 Yc4 Yf4 Yc5 Yf5 Yc6 Yf6 Yc7 Yf7 Yc8 Yf8
  generalize (w218.setCell ⟨YB, 0, none⟩ (.int .i64 1)) = w224 at *
  obtain ⟨Sc0, Sf0, Sc1, Sf1, Sc2, Sf2, Sc3, Sf3, Sc4, Sf4, Sc5, Sf5⟩ := cf6 HS226.out
  obtain ⟨Xc0, Xf0, Xc1, Xf1, Xc2, Xf2, Xc3, Xf3, Xc4, Xf4, Xc5, Xf5, Xc6, Xf6, Xc7, Xf7, Xc8, Xf8⟩ := cf9 HX227.out
  obtain ⟨Yc0, Yf0, Yc1, Yf1, Yc2, Yf2, Yc3, Yf3, Yc4, Yf4, Yc5, Yf5, Yc6, Yf6, Yc7, Yf7, Yc8, Yf8⟩ := cf9 HY225.out
  go_wp2_with fail
  refine (HP3.out _ HS228.out).mono ?_
  rintro e w230 ⟨rfl, hk⟩
  have HS231 := Lib.hid (((hk.out.2).block _ (lt_of_heap HS226.out) (by have := HN212.out; show ¬ _ = _; omega)).trans HS226.out)
  have HX232 := Lib.hid (((hk.out.2).block _ (lt_of_heap HX227.out) (by have := HN212.out; show ¬ _ = _; omega)).trans HX227.out)
  have HY233 := Lib.hid (((hk.out.2).block _ (lt_of_heap HY225.out) (by have := HN212.out; show ¬ _ = _; omega)).trans HY225.out)
  have HS234 := Lib.hid (hk.out.1)
  have HK235 := Lib.hid (HK229.out.trans hk.out.2)
  clear Sc0 Sf0 Sc1 Sf1 Sc2 Sf2 Sc3 Sf3 Sc4 Sf4 Sc5 Sf5 Xc0 Xf0 Xc1 Xf1 Xc2 Xf2 Xc3 Xf3 Xc4 Xf4 Xc5 Xf5 Xc6 Xf6 Xc7 Xf7 Xc8 Xf8 Yc0 Yf0 Yc1 Yf1 Yc2 Yf2 Yc3 Yf3 Yc4 Yf4 Yc5 Yf5 Yc6 Yf6 Yc7 Yf7 Yc8 Yf8
  clear hk HP3 HS226 HX227 HY225 HS228 HK229
  obtain ⟨Sc0, Sf0, Sc1, Sf1, Sc2, Sf2, Sc3, Sf3, Sc4, Sf4, Sc5, Sf5⟩ := cf6 HS231.out
  obtain ⟨Xc0, Xf0, Xc1, Xf1, Xc2, Xf2, Xc3, Xf3, Xc4, Xf4, Xc5, Xf5, Xc6, Xf6, Xc7, Xf7, Xc8, Xf8⟩ := cf9 HX232.out
  obtain ⟨Yc0, Yf0, Yc1, Yf1, Yc2, Yf2, Yc3, Yf3, Yc4, Yf4, Yc5, Yf5, Yc6, Yf6, Yc7, Yf7, Yc8, Yf8⟩ := cf9 HY233.out
  go_wp2_with fail
  refine (HL3.out _).mono ?_
  rintro e w236 ⟨rfl, hk⟩
  have HS237 := Lib.hid (((hk.out).block _ (lt_of_heap HS231.out) (fun x => x)).trans HS231.out)
  have HX238 := Lib.hid (((hk.out).block _ (lt_of_heap HX232.out) (fun x => x)).trans HX232.out)
  have HY239 := Lib.hid (((hk.out).block _ (lt_of_heap HY233.out) (fun x => x)).trans HY233.out)
  have HS240 := Lib.hid (HS234.out.keeps hk.out (fun x => x))
  have HK241 := Lib.hid (HK235.out.trans (hk.out.mono (fun _ _ x => x.elim)))
  clear Sc0 Sf0 Sc1 Sf1 Sc2 Sf2 Sc3 Sf3 Sc4 Sf4 Sc5 Sf5 Xc0 Xf0 Xc1 Xf1 Xc2 Xf2 Xc3 Xf3 Xc4 Xf4 Xc5 Xf5 Xc6 Xf6 Xc7 Xf7 Xc8 Xf8 Yc0 Yf0 Yc1 Yf1 Yc2 Yf2 Yc3 Yf3 Yc4 Yf4 Yc5 Yf5 Yc6 Yf6 Yc7 Yf7 Yc8 Yf8
  clear hk HS231 HX232 HY233 HS234 HK235
  clear HL3
  obtain ⟨Sc0, Sf0, Sc1, Sf1, Sc2, Sf2, Sc3, Sf3, Sc4, Sf4, Sc5, Sf5⟩ := cf6 HS237.out
  obtain ⟨Xc0, Xf0, Xc1, Xf1, Xc2, Xf2, Xc3, Xf3, Xc4, Xf4, Xc5, Xf5, Xc6, Xf6, Xc7, Xf7, Xc8, Xf8⟩ := cf9 HX238.out
  obtain ⟨Yc0, Yf0, Yc1, Yf1, Yc2, Yf2, Yc3, Yf3, Yc4, Yf4, Yc5, Yf5, Yc6, Yf6, Yc7, Yf7, Yc8, Yf8⟩ := cf9 HY239.out
  have hs0 : (w236.setCell ⟨YB, 3, none⟩ (.string ⟨o.toArray⟩)).heap[YB]? = some (.cells #[.int .i64 1, .string ⟨h1.toArray⟩, .string ⟨h2.toArray⟩, .string ⟨o.toArray⟩, .string ⟨#[]⟩, .string ⟨#[]⟩, .string ⟨#[]⟩, .string ⟨#[]⟩, .string ⟨#[]⟩] 44) := heap_set (HY239.out) 3 (.string ⟨o.toArray⟩)
  have hkE : Keeps (fun q => q = YB) w236 (w236.setCell ⟨YB, 3, none⟩ (.string ⟨o.toArray⟩)) := (Keeps.setCell (S := fun q => q = YB) (Keeps.refl _ _) (p := ⟨YB, 3, none⟩) (fun _ => rfl) _)
  have HY243 := Lib.hid hs0
  have HS244 := Lib.hid (((hkE).block _ (lt_of_heap HS237.out) (by have := HN212.out; show ¬ _ = _; omega)).trans HS237.out)
  have HX245 := Lib.hid (((hkE).block _ (lt_of_heap HX238.out) (by have := HN212.out; show ¬ _ = _; omega)).trans HX238.out)
  have HS246 := Lib.hid (HS240.out.keeps hkE (by have := HN212.out; show ¬ _ = _; omega))
  have HK247 := Lib.hid (HK241.out.trans_new hkE (fun q hq e => by have := HN212.out; omega))
  clear hkE hs0 HY239 HS237 HX238 HS240 HK241
  go_upto_region 5 with fail
  clear Sc0 Sf0 Sc1 Sf1 Sc2 Sf2 Sc3 Sf3 Sc4 Sf4 Sc5 Sf5 Xc0 Xf0 Xc1 Xf1 Xc2 Xf2 Xc3 Xf3 Xc4 Xf4 Xc5 Xf5 Xc6 Xf6 Xc7 Xf7 Xc8 Xf8 Yc0 Yf0 Yc1 Yf1 Yc2 Yf2 Yc3 Yf3 Yc4 Yf4 Yc5 Yf5 Yc6 Yf6 Yc7 Yf7 Yc8 Yf8
  generalize (w236.setCell ⟨YB, 3, none⟩ (.string ⟨o.toArray⟩)) = w242 at *
  obtain ⟨Sc0, Sf0, Sc1, Sf1, Sc2, Sf2, Sc3, Sf3, Sc4, Sf4, Sc5, Sf5⟩ := cf6 HS244.out
  obtain ⟨Xc0, Xf0, Xc1, Xf1, Xc2, Xf2, Xc3, Xf3, Xc4, Xf4, Xc5, Xf5, Xc6, Xf6, Xc7, Xf7, Xc8, Xf8⟩ := cf9 HX245.out
  obtain ⟨Yc0, Yf0, Yc1, Yf1, Yc2, Yf2, Yc3, Yf3, Yc4, Yf4, Yc5, Yf5, Yc6, Yf6, Yc7, Yf7, Yc8, Yf8⟩ := cf9 HY243.out
  obtain ⟨hs0, hkE⟩ := sx9 HX245.out (.int .i64 1) (.string ⟨h1.toArray⟩) (.string ⟨h2.toArray⟩) (.string ⟨o.toArray⟩) (.string ⟨#[]⟩) (.string ⟨#[]⟩) (.string ⟨#[]⟩) (.string ⟨#[]⟩) (.string ⟨#[]⟩)
  have HX248 := Lib.hid hs0
  have HS249 := Lib.hid (((hkE).block _ (lt_of_heap HS244.out) (by have := HN212.out; show ¬ _ = _; omega)).trans HS244.out)
  have HY250 := Lib.hid (((hkE).block _ (lt_of_heap HY243.out) (by have := HN212.out; show ¬ _ = _; omega)).trans HY243.out)
  have HS251 := Lib.hid (HS246.out.keeps hkE (by have := HN212.out; show ¬ _ = _; omega))
  have HK252 := Lib.hid (HK247.out.trans_new hkE (fun q hq e => by have := HN212.out; omega))
  clear hkE hs0 HX245 HS244 HY243 HS246 HK247
  go_wp2_with fail
  clear Sc0 Sf0 Sc1 Sf1 Sc2 Sf2 Sc3 Sf3 Sc4 Sf4 Sc5 Sf5 Xc0 Xf0 Xc1 Xf1 Xc2 Xf2 Xc3 Xf3 Xc4 Xf4 Xc5 Xf5 Xc6 Xf6 Xc7 Xf7 Xc8 Xf8 Yc0 Yf0 Yc1 Yf1 Yc2 Yf2 Yc3 Yf3 Yc4 Yf4 Yc5 Yf5 Yc6 Yf6 Yc7 Yf7 Yc8 Yf8
  generalize (((((((((w242.setCell ⟨WA.heap.size, 0, none⟩ (.int .i64 1)).setCell ⟨WA.heap.size, 1, none⟩ (.string ⟨h1.toArray⟩)).setCell ⟨WA.heap.size, 2, none⟩ (.string ⟨h2.toArray⟩)).setCell ⟨WA.heap.size, 3, none⟩ (.string ⟨o.toArray⟩)).setCell ⟨WA.heap.size, 4, none⟩ (.string ⟨#[]⟩)).setCell ⟨WA.heap.size, 5, none⟩ (.string ⟨#[]⟩)).setCell ⟨WA.heap.size, 6, none⟩ (.string ⟨#[]⟩)).setCell ⟨WA.heap.size, 7, none⟩ (.string ⟨#[]⟩)).setCell ⟨WA.heap.size, 8, none⟩ (.string ⟨#[]⟩)) = WE at *
  obtain ⟨Xc0, Xf0, Xc1, Xf1, Xc2, Xf2, Xc3, Xf3, Xc4, Xf4, Xc5, Xf5, Xc6, Xf6, Xc7, Xf7, Xc8, Xf8⟩ := cf9 HX248.out
  refine bodyPost_ret (v := .agg #[.int .i64 1, .string ⟨h1.toArray⟩, .string ⟨h2.toArray⟩, .string ⟨o.toArray⟩, .string ⟨#[]⟩, .string ⟨#[]⟩, .string ⟨#[]⟩, .string ⟨#[]⟩, .string ⟨#[]⟩]) (by simp [results, Tryz.results13, go_sem, *]) rfl ?_
  exact ⟨rfl, HS251.out, HK252.out⟩
 ·obtain ⟨⟨⟨a1, a2⟩, x3⟩, e3⟩ : ∃ q, rolD x2 s = q := ⟨_, rfl⟩
  have HP3 : Hid (∀ W, StB W 30 b x2 → Calls Tryz.prog 11 #[.pointer (some ⟨b, 0, none⟩), ShpV s] W (DrTo W 30 b (.agg #[.string ⟨a1.toArray⟩, .string ⟨a2.toArray⟩]) x3)) := fun W h => rrole_at hf e3 W h
  have HE : Hid (stmD x s = (normS ((h1, h2), 2, [], (a1, a2), ([], []), []), x3)) := by
   show _ = _
   unfold stmD bodD
   simp [e1, e2, e3, noRol]
  rw [HE.out]
  have HNM : Hid (∀ W, Calls Tryz.prog 30 #[stmV ((h1, h2), 2, [], (a1, a2), ([], []), [])] W fun e W' => e = .returned (stmV (normS ((h1, h2), 2, [], (a1, a2), ([], []), []))) ∧ Hid (Keeps (fun _ => False) W W')) := fun W => rnorm_spec _
  obtain ⟨nn, hnn⟩ : ∃ q, normS ((h1, h2), 2, [], (a1, a2), ([], []), []) = q := ⟨_, rfl⟩
  rw [hnn] at HNM ⊢
  obtain ⟨⟨nh1, nh2⟩, nk, no, ⟨na1, na2⟩, ⟨nb1, nb2⟩, ni⟩ := nn
  clear hnn HE e1 e2 e3 hf hfn
  unfold ShpV stmV at *
  simp only at HNM
  obtain ⟨Sc0, Sf0, Sc1, Sf1, Sc2, Sf2, Sc3, Sf3, Sc4, Sf4, Sc5, Sf5⟩ := cf6 HS0.out
  obtain ⟨Xc0, Xf0, Xc1, Xf1, Xc2, Xf2, Xc3, Xf3, Xc4, Xf4, Xc5, Xf5, Xc6, Xf6, Xc7, Xf7, Xc8, Xf8⟩ := cf9 HX0.out
  go_enter Tryz.func13, Tryz.ntmps13
  go_wp2_with fail
  refine (HP1.out _ HST0.out).mono ?_
  rintro e w253 ⟨rfl, hk⟩
  have HS254 := Lib.hid (((hk.out.2).block _ (lt_of_heap HS0.out) (by have := HN.out; show ¬ _ = _; omega)).trans HS0.out)
  have HX255 := Lib.hid (((hk.out.2).block _ (lt_of_heap HX0.out) (by have := HN.out; show ¬ _ = _; omega)).trans HX0.out)
  have HS256 := Lib.hid (hk.out.1)
  have HK257 := Lib.hid ((HK0.out.mono (fun _ _ x => x.elim)).trans hk.out.2)
  clear Sc0 Sf0 Sc1 Sf1 Sc2 Sf2 Sc3 Sf3 Sc4 Sf4 Sc5 Sf5 Xc0 Xf0 Xc1 Xf1 Xc2 Xf2 Xc3 Xf3 Xc4 Xf4 Xc5 Xf5 Xc6 Xf6 Xc7 Xf7 Xc8 Xf8
  clear hk HP1 HS0 HX0 HST0 HK0
  clear hWA hWB
  obtain ⟨Sc0, Sf0, Sc1, Sf1, Sc2, Sf2, Sc3, Sf3, Sc4, Sf4, Sc5, Sf5⟩ := cf6 HS254.out
  obtain ⟨Xc0, Xf0, Xc1, Xf1, Xc2, Xf2, Xc3, Xf3, Xc4, Xf4, Xc5, Xf5, Xc6, Xf6, Xc7, Xf7, Xc8, Xf8⟩ := cf9 HX255.out
  have hal := (MapKept.heap_alloc w253 (.cells #[.int .i64 0, .string ⟨h1.toArray⟩, .string ⟨h2.toArray⟩, .string ⟨#[]⟩, .string ⟨#[]⟩, .string ⟨#[]⟩, .string ⟨#[]⟩, .string ⟨#[]⟩, .string ⟨#[]⟩] 44)).1
  have hkE : Keeps (fun _ => False) w253 (w253.alloc (.cells #[.int .i64 0, .string ⟨h1.toArray⟩, .string ⟨h2.toArray⟩, .string ⟨#[]⟩, .string ⟨#[]⟩, .string ⟨#[]⟩, .string ⟨#[]⟩, .string ⟨#[]⟩, .string ⟨#[]⟩] 44)) := (Keeps.refl _ _).alloc _
  obtain ⟨YB, hYB⟩ : ∃ q, w253.heap.size = q := ⟨_, rfl⟩
  rw [hYB] at hal
  have HS260 := Lib.hid (((hkE).block _ (lt_of_heap HS254.out) (fun x => x)).trans HS254.out)
  have HX261 := Lib.hid (((hkE).block _ (lt_of_heap HX255.out) (fun x => x)).trans HX255.out)
  have HN259 : Hid ((W.heap.size ≠ b ∧ WA.heap.size ≠ b ∧ WA.heap.size ≠ W.heap.size ∧ W.heap.size ≤ WA.heap.size ∧ b < W.heap.size) ∧ W.heap.size ≤ YB ∧ W.heap.size < YB ∧ WA.heap.size < YB ∧ b < YB) := ⟨HN.out, by
   have hz := HK257.out.size
   have l0 := lt_of_heap HS254.out
   have l1 := lt_of_heap HX255.out
   have ls := lt_of_heap HS256.out.1
   refine ⟨?_, ?_, ?_, ?_⟩ <;> omega⟩
  have HS262 := Lib.hid (HS256.out.keeps hkE (fun x => x))
  have HK263 := Lib.hid (HK257.out.trans (hkE.mono (fun _ _ x => x.elim)))
  have HY264 := Lib.hid hal
  clear hkE hal HS254 HX255 HN HS256 HK257
  go_upto_region 2 with fail
  clear Sc0 Sf0 Sc1 Sf1 Sc2 Sf2 Sc3 Sf3 Sc4 Sf4 Sc5 Sf5 Xc0 Xf0 Xc1 Xf1 Xc2 Xf2 Xc3 Xf3 Xc4 Xf4 Xc5 Xf5 Xc6 Xf6 Xc7 Xf7 Xc8 Xf8
  clear hYB
  generalize (w253.alloc (.cells #[.int .i64 0, .string ⟨h1.toArray⟩, .string ⟨h2.toArray⟩, .string ⟨#[]⟩, .string ⟨#[]⟩, .string ⟨#[]⟩, .string ⟨#[]⟩, .string ⟨#[]⟩, .string ⟨#[]⟩] 44)) = w258 at *
  obtain ⟨Sc0, Sf0, Sc1, Sf1, Sc2, Sf2, Sc3, Sf3, Sc4, Sf4, Sc5, Sf5⟩ := cf6 HS260.out
  obtain ⟨Xc0, Xf0, Xc1, Xf1, Xc2, Xf2, Xc3, Xf3, Xc4, Xf4, Xc5, Xf5, Xc6, Xf6, Xc7, Xf7, Xc8, Xf8⟩ := cf9 HX261.out
  obtain ⟨Yc0, Yf0, Yc1, Yf1, Yc2, Yf2, Yc3, Yf3, Yc4, Yf4, Yc5, Yf5, Yc6, Yf6, Yc7, Yf7, Yc8, Yf8⟩ := cf9 HY264.out
  go_wp2_with fail
  refine (HP2.out _ HS262.out).mono ?_
  rintro e w265 ⟨rfl, hk⟩
  have HS266 := Lib.hid (((hk.out.2).block _ (lt_of_heap HS260.out) (by have := HN259.out; show ¬ _ = _; omega)).trans HS260.out)
  have HX267 := Lib.hid (((hk.out.2).block _ (lt_of_heap HX261.out) (by have := HN259.out; show ¬ _ = _; omega)).trans HX261.out)
  have HY268 := Lib.hid (((hk.out.2).block _ (lt_of_heap HY264.out) (by have := HN259.out; show ¬ _ = _; omega)).trans HY264.out)
  have HS269 := Lib.hid (hk.out.1)
  have HK270 := Lib.hid (HK263.out.trans hk.out.2)
  clear Sc0 Sf0 Sc1 Sf1 Sc2 Sf2 Sc3 Sf3 Sc4 Sf4 Sc5 Sf5 Xc0 Xf0 Xc1 Xf1 Xc2 Xf2 Xc3 Xf3 Xc4 Xf4 Xc5 Xf5 Xc6 Xf6 Xc7 Xf7 Xc8 Xf8 Yc0 Yf0 Yc1 Yf1 Yc2 Yf2 Yc3 Yf3 Yc4 Yf4 Yc5 Yf5 Yc6 Yf6 Yc7 Yf7 Yc8 Yf8
  clear hk HP2 HS260 HX261 HY264 HS262 HK263
  obtain ⟨Sc0, Sf0, Sc1, Sf1, Sc2, Sf2, Sc3, Sf3, Sc4, Sf4, Sc5, Sf5⟩ := cf6 HS266.out
  obtain ⟨Xc0, Xf0, Xc1, Xf1, Xc2, Xf2, Xc3, Xf3, Xc4, Xf4, Xc5, Xf5, Xc6, Xf6, Xc7, Xf7, Xc8, Xf8⟩ := cf9 HX267.out
  obtain ⟨Yc0, Yf0, Yc1, Yf1, Yc2, Yf2, Yc3, Yf3, Yc4, Yf4, Yc5, Yf5, Yc6, Yf6, Yc7, Yf7, Yc8, Yf8⟩ := cf9 HY268.out
  have hs0 : (w265.setCell ⟨YB, 0, none⟩ (.int .i64 2)).heap[YB]? = some (.cells #[.int .i64 2, .string ⟨h1.toArray⟩, .string ⟨h2.toArray⟩, .string ⟨#[]⟩, .string ⟨#[]⟩, .string ⟨#[]⟩, .string ⟨#[]⟩, .string ⟨#[]⟩, .string ⟨#[]⟩] 44) := heap_set (HY268.out) 0 (.int .i64 2)
  have hkE : Keeps (fun q => q = YB) w265 (w265.setCell ⟨YB, 0, none⟩ (.int .i64 2)) := (Keeps.setCell (S := fun q => q = YB) (Keeps.refl _ _) (p := ⟨YB, 0, none⟩) (fun _ => rfl) _)
  have HY272 := Lib.hid hs0
  have HS273 := Lib.hid (((hkE).block _ (lt_of_heap HS266.out) (by have := HN259.out; show ¬ _ = _; omega)).trans HS266.out)
  have HX274 := Lib.hid (((hkE).block _ (lt_of_heap HX267.out) (by have := HN259.out; show ¬ _ = _; omega)).trans HX267.out)
  have HS275 := Lib.hid (HS269.out.keeps hkE (by have := HN259.out; show ¬ _ = _; omega))
  have HK276 := Lib.hid (HK270.out.trans_new hkE (fun q hq e => by have := HN259.out; omega))
  clear hkE hs0 HY268 HS266 HX267 HS269 HK270
  go_upto_region 3 with fail
  clear Sc0 Sf0 Sc1 Sf1 Sc2 Sf2 Sc3 Sf3 Sc4 Sf4 Sc5 Sf5 Xc0 Xf0 Xc1 Xf1 Xc2 Xf2 Xc3 Xf3 Xc4 Xf4 Xc5 Xf5 Xc6 Xf6 Xc7 Xf7 Xc8 Xf8 Yc0 Yf0 Yc1 Yf1 Yc2 Yf2 Yc3 Yf3 Yc4 Yf4 Yc5 Yf5 Yc6 Yf6 Yc7 Yf7 Yc8 Yf8
  generalize (w265.setCell ⟨YB, 0, none⟩ (.int .i64 2)) = w271 at *
  obtain ⟨Sc0, Sf0, Sc1, Sf1, Sc2, Sf2, Sc3, Sf3, Sc4, Sf4, Sc5, Sf5⟩ := cf6 HS273.out
  obtain ⟨Xc0, Xf0, Xc1, Xf1, Xc2, Xf2, Xc3, Xf3, Xc4, Xf4, Xc5, Xf5, Xc6, Xf6, Xc7, Xf7, Xc8, Xf8⟩ := cf9 HX274.out
  obtain ⟨Yc0, Yf0, Yc1, Yf1, Yc2, Yf2, Yc3, Yf3, Yc4, Yf4, Yc5, Yf5, Yc6, Yf6, Yc7, Yf7, Yc8, Yf8⟩ := cf9 HY272.out
  go_wp2_with fail
  refine (HP3.out _ HS275.out).mono ?_
  rintro e w277 ⟨rfl, hk⟩
  have HS278 := Lib.hid (((hk.out.2).block _ (lt_of_heap HS273.out) (by have := HN259.out; show ¬ _ = _; omega)).trans HS273.out)
  have HX279 := Lib.hid (((hk.out.2).block _ (lt_of_heap HX274.out) (by have := HN259.out; show ¬ _ = _; omega)).trans HX274.out)
  have HY280 := Lib.hid (((hk.out.2).block _ (lt_of_heap HY272.out) (by have := HN259.out; show ¬ _ = _; omega)).trans HY272.out)
  have HS281 := Lib.hid (hk.out.1)
  have HK282 := Lib.hid (HK276.out.trans hk.out.2)
  clear Sc0 Sf0 Sc1 Sf1 Sc2 Sf2 Sc3 Sf3 Sc4 Sf4 Sc5 Sf5 Xc0 Xf0 Xc1 Xf1 Xc2 Xf2 Xc3 Xf3 Xc4 Xf4 Xc5 Xf5 Xc6 Xf6 Xc7 Xf7 Xc8 Xf8 Yc0 Yf0 Yc1 Yf1 Yc2 Yf2 Yc3 Yf3 Yc4 Yf4 Yc5 Yf5 Yc6 Yf6 Yc7 Yf7 Yc8 Yf8
  clear hk HP3 HS273 HX274 HY272 HS275 HK276
  obtain ⟨Sc0, Sf0, Sc1, Sf1, Sc2, Sf2, Sc3, Sf3, Sc4, Sf4, Sc5, Sf5⟩ := cf6 HS278.out
  obtain ⟨Xc0, Xf0, Xc1, Xf1, Xc2, Xf2, Xc3, Xf3, Xc4, Xf4, Xc5, Xf5, Xc6, Xf6, Xc7, Xf7, Xc8, Xf8⟩ := cf9 HX279.out
  obtain ⟨Yc0, Yf0, Yc1, Yf1, Yc2, Yf2, Yc3, Yf3, Yc4, Yf4, Yc5, Yf5, Yc6, Yf6, Yc7, Yf7, Yc8, Yf8⟩ := cf9 HY280.out
  have hs0 : (w277.setCell ⟨YB, 4, none⟩ (.string ⟨a1.toArray⟩)).heap[YB]? = some (.cells #[.int .i64 2, .string ⟨h1.toArray⟩, .string ⟨h2.toArray⟩, .string ⟨#[]⟩, .string ⟨a1.toArray⟩, .string ⟨#[]⟩, .string ⟨#[]⟩, .string ⟨#[]⟩, .string ⟨#[]⟩] 44) := heap_set (HY280.out) 4 (.string ⟨a1.toArray⟩)
  have hs1 : ((w277.setCell ⟨YB, 4, none⟩ (.string ⟨a1.toArray⟩)).setCell ⟨YB, 5, none⟩ (.string ⟨a2.toArray⟩)).heap[YB]? = some (.cells #[.int .i64 2, .string ⟨h1.toArray⟩, .string ⟨h2.toArray⟩, .string ⟨#[]⟩, .string ⟨a1.toArray⟩, .string ⟨a2.toArray⟩, .string ⟨#[]⟩, .string ⟨#[]⟩, .string ⟨#[]⟩] 44) := heap_set (hs0) 5 (.string ⟨a2.toArray⟩)
  have hkE : Keeps (fun q => q = YB) w277 ((w277.setCell ⟨YB, 4, none⟩ (.string ⟨a1.toArray⟩)).setCell ⟨YB, 5, none⟩ (.string ⟨a2.toArray⟩)) := (Keeps.setCell (S := fun q => q = YB) (Keeps.setCell (S := fun q => q = YB) (Keeps.refl _ _) (p := ⟨YB, 4, none⟩) (fun _ => rfl) _) (p := ⟨YB, 5, none⟩) (fun _ => rfl) _)
  have HY284 := Lib.hid hs1
  have HS285 := Lib.hid (((hkE).block _ (lt_of_heap HS278.out) (by have := HN259.out; show ¬ _ = _; omega)).trans HS278.out)
  have HX286 := Lib.hid (((hkE).block _ (lt_of_heap HX279.out) (by have := HN259.out; show ¬ _ = _; omega)).trans HX279.out)
  have HS287 := Lib.hid (HS281.out.keeps hkE (by have := HN259.out; show ¬ _ = _; omega))
  have HK288 := Lib.hid (HK282.out.trans_new hkE (fun q hq e => by have := HN259.out; omega))
  clear hkE hs0 hs1 HY280 HS278 HX279 HS281 HK282
  go_upto_region 11 with fail
  clear Sc0 Sf0 Sc1 Sf1 Sc2 Sf2 Sc3 Sf3 Sc4 Sf4 Sc5 Sf5 Xc0 Xf0 Xc1 Xf1 Xc2 Xf2 Xc3 Xf3 Xc4 Xf4 Xc5 Xf5 Xc6 Xf6 Xc7 Xf7 Xc8 Xf8 Yc0 Yf0 Yc1 Yf1 Yc2 Yf2 Yc3 Yf3 Yc4 Yf4 Yc5 Yf5 Yc6 Yf6 Yc7 Yf7 Yc8 Yf8
  generalize ((w277.setCell ⟨YB, 4, none⟩ (.string ⟨a1.toArray⟩)).setCell ⟨YB, 5, none⟩ (.string ⟨a2.toArray⟩)) = w283 at *
  obtain ⟨Sc0, Sf0, Sc1, Sf1, Sc2, Sf2, Sc3, Sf3, Sc4, Sf4, Sc5, Sf5⟩ := cf6 HS285.out
  obtain ⟨Xc0, Xf0, Xc1, Xf1, Xc2, Xf2, Xc3, Xf3, Xc4, Xf4, Xc5, Xf5, Xc6, Xf6, Xc7, Xf7, Xc8, Xf8⟩ := cf9 HX286.out
  obtain ⟨Yc0, Yf0, Yc1, Yf1, Yc2, Yf2, Yc3, Yf3, Yc4, Yf4, Yc5, Yf5, Yc6, Yf6, Yc7, Yf7, Yc8, Yf8⟩ := cf9 HY284.out
  go_wp2_with fail
  refine (HNM.out _).mono ?_
  rintro e w289 ⟨rfl, hk⟩
  have HS290 := Lib.hid (((hk.out).block _ (lt_of_heap HS285.out) (fun x => x)).trans HS285.out)
  have HX291 := Lib.hid (((hk.out).block _ (lt_of_heap HX286.out) (fun x => x)).trans HX286.out)
  have HY292 := Lib.hid (((hk.out).block _ (lt_of_heap HY284.out) (fun x => x)).trans HY284.out)
  have HS293 := Lib.hid (HS287.out.keeps hk.out (fun x => x))
  have HK294 := Lib.hid (HK288.out.trans (hk.out.mono (fun _ _ x => x.elim)))
  clear Sc0 Sf0 Sc1 Sf1 Sc2 Sf2 Sc3 Sf3 Sc4 Sf4 Sc5 Sf5 Xc0 Xf0 Xc1 Xf1 Xc2 Xf2 Xc3 Xf3 Xc4 Xf4 Xc5 Xf5 Xc6 Xf6 Xc7 Xf7 Xc8 Xf8 Yc0 Yf0 Yc1 Yf1 Yc2 Yf2 Yc3 Yf3 Yc4 Yf4 Yc5 Yf5 Yc6 Yf6 Yc7 Yf7 Yc8 Yf8
  clear hk HS285 HX286 HY284 HS287 HK288
  clear HNM
  obtain ⟨Sc0, Sf0, Sc1, Sf1, Sc2, Sf2, Sc3, Sf3, Sc4, Sf4, Sc5, Sf5⟩ := cf6 HS290.out
  obtain ⟨Xc0, Xf0, Xc1, Xf1, Xc2, Xf2, Xc3, Xf3, Xc4, Xf4, Xc5, Xf5, Xc6, Xf6, Xc7, Xf7, Xc8, Xf8⟩ := cf9 HX291.out
  obtain ⟨Yc0, Yf0, Yc1, Yf1, Yc2, Yf2, Yc3, Yf3, Yc4, Yf4, Yc5, Yf5, Yc6, Yf6, Yc7, Yf7, Yc8, Yf8⟩ := cf9 HY292.out
  obtain ⟨hs0, hkE⟩ := sx9 HX291.out (.int .i64 nk) (.string ⟨nh1.toArray⟩) (.string ⟨nh2.toArray⟩) (.string ⟨no.toArray⟩) (.string ⟨na1.toArray⟩) (.string ⟨na2.toArray⟩) (.string ⟨nb1.toArray⟩) (.string ⟨nb2.toArray⟩) (.string ⟨ni.toArray⟩)
  have HX295 := Lib.hid hs0
  have HS296 := Lib.hid (((hkE).block _ (lt_of_heap HS290.out) (by have := HN259.out; show ¬ _ = _; omega)).trans HS290.out)
  have HY297 := Lib.hid (((hkE).block _ (lt_of_heap HY292.out) (by have := HN259.out; show ¬ _ = _; omega)).trans HY292.out)
  have HS298 := Lib.hid (HS293.out.keeps hkE (by have := HN259.out; show ¬ _ = _; omega))
  have HK299 := Lib.hid (HK294.out.trans_new hkE (fun q hq e => by have := HN259.out; omega))
  clear hkE hs0 HX291 HS290 HY292 HS293 HK294
  go_wp2_with fail
  clear Sc0 Sf0 Sc1 Sf1 Sc2 Sf2 Sc3 Sf3 Sc4 Sf4 Sc5 Sf5 Xc0 Xf0 Xc1 Xf1 Xc2 Xf2 Xc3 Xf3 Xc4 Xf4 Xc5 Xf5 Xc6 Xf6 Xc7 Xf7 Xc8 Xf8 Yc0 Yf0 Yc1 Yf1 Yc2 Yf2 Yc3 Yf3 Yc4 Yf4 Yc5 Yf5 Yc6 Yf6 Yc7 Yf7 Yc8 Yf8
  generalize (((((((((w289.setCell ⟨WA.heap.size, 0, none⟩ (.int .i64 nk)).setCell ⟨WA.heap.size, 1, none⟩ (.string ⟨nh1.toArray⟩)).setCell ⟨WA.heap.size, 2, none⟩ (.string ⟨nh2.toArray⟩)).setCell ⟨WA.heap.size, 3, none⟩ (.string ⟨no.toArray⟩)).setCell ⟨WA.heap.size, 4, none⟩ (.string ⟨na1.toArray⟩)).setCell ⟨WA.heap.size, 5, none⟩ (.string ⟨na2.toArray⟩)).setCell ⟨WA.heap.size, 6, none⟩ (.string ⟨nb1.toArray⟩)).setCell ⟨WA.heap.size, 7, none⟩ (.string ⟨nb2.toArray⟩)).setCell ⟨WA.heap.size, 8, none⟩ (.string ⟨ni.toArray⟩)) = WE at *
  obtain ⟨Xc0, Xf0, Xc1, Xf1, Xc2, Xf2, Xc3, Xf3, Xc4, Xf4, Xc5, Xf5, Xc6, Xf6, Xc7, Xf7, Xc8, Xf8⟩ := cf9 HX295.out
  refine bodyPost_ret (v := .agg #[.int .i64 nk, .string ⟨nh1.toArray⟩, .string ⟨nh2.toArray⟩, .string ⟨no.toArray⟩, .string ⟨na1.toArray⟩, .string ⟨na2.toArray⟩, .string ⟨nb1.toArray⟩, .string ⟨nb2.toArray⟩, .string ⟨ni.toArray⟩]) (by simp [results, Tryz.results13, go_sem, *]) rfl ?_
  exact ⟨rfl, HS298.out, HK299.out⟩
 ·obtain ⟨⟨⟨a1, a2⟩, x3⟩, e3⟩ : ∃ q, rolD x2 s = q := ⟨_, rfl⟩
  have HP3 : Hid (∀ W, StB W 30 b x2 → Calls Tryz.prog 11 #[.pointer (some ⟨b, 0, none⟩), ShpV s] W (DrTo W 30 b (.agg #[.string ⟨a1.toArray⟩, .string ⟨a2.toArray⟩]) x3)) := fun W h => rrole_at hf e3 W h
  obtain ⟨⟨k4, x4⟩, e4⟩ : ∃ q, belD x3 s.links = q := ⟨_, rfl⟩
  have HP4 : Hid (∀ W, StB W 30 b x3 → Calls Tryz.prog 9 #[.pointer (some ⟨b, 0, none⟩), .int .i64 s.links] W (DrTo W 30 b (.int .i64 k4) x4)) := fun W h => rbelow_at (by omega) e4 W h
  have hr4 := name_letters (x := x3) hf
  rw [e4] at hr4
  have HL4 : Hid (∀ W : World, Calls Tryz.prog 26 #[.int .u8 114, .int .i64 k4] W fun e W' => e = .returned (encStr8 [(114 + k4).toNat.toUInt8]) ∧ Hid (Keeps (fun _ => False) W W')) := fun W => rletter_spec (.inr rfl) hr4.1 (by have := hr4.2; simp only at this; omega)
  clear hr4
  have eD4 : nameD x3 s = ([(114 + k4).toNat.toUInt8], x4) := by unfold nameD; rw [e4]
  unfold encStr8 at HL4
  obtain ⟨v, hv⟩ : ∃ q, [(114 + k4).toNat.toUInt8] = q := ⟨_, rfl⟩
  rw [hv] at HL4 eD4
  clear hv e4
  have HE : Hid (stmD x s = (normS ((h1, h2), 3, [], (a1, a2), ([], []), v), x4)) := by
   show _ = _
   unfold stmD bodD
   simp [e1, e2, e3, eD4, noRol]
  rw [HE.out]
  have HNM : Hid (∀ W, Calls Tryz.prog 30 #[stmV ((h1, h2), 3, [], (a1, a2), ([], []), v)] W fun e W' => e = .returned (stmV (normS ((h1, h2), 3, [], (a1, a2), ([], []), v))) ∧ Hid (Keeps (fun _ => False) W W')) := fun W => rnorm_spec _
  obtain ⟨nn, hnn⟩ : ∃ q, normS ((h1, h2), 3, [], (a1, a2), ([], []), v) = q := ⟨_, rfl⟩
  rw [hnn] at HNM ⊢
  obtain ⟨⟨nh1, nh2⟩, nk, no, ⟨na1, na2⟩, ⟨nb1, nb2⟩, ni⟩ := nn
  clear hnn HE e1 e2 e3 eD4 hf hfn
  unfold ShpV stmV at *
  simp only at HNM
  obtain ⟨Sc0, Sf0, Sc1, Sf1, Sc2, Sf2, Sc3, Sf3, Sc4, Sf4, Sc5, Sf5⟩ := cf6 HS0.out
  obtain ⟨Xc0, Xf0, Xc1, Xf1, Xc2, Xf2, Xc3, Xf3, Xc4, Xf4, Xc5, Xf5, Xc6, Xf6, Xc7, Xf7, Xc8, Xf8⟩ := cf9 HX0.out
  go_enter Tryz.func13, Tryz.ntmps13
  go_wp2_with fail
  refine (HP1.out _ HST0.out).mono ?_
  rintro e w300 ⟨rfl, hk⟩
  have HS301 := Lib.hid (((hk.out.2).block _ (lt_of_heap HS0.out) (by have := HN.out; show ¬ _ = _; omega)).trans HS0.out)
  have HX302 := Lib.hid (((hk.out.2).block _ (lt_of_heap HX0.out) (by have := HN.out; show ¬ _ = _; omega)).trans HX0.out)
  have HS303 := Lib.hid (hk.out.1)
  have HK304 := Lib.hid ((HK0.out.mono (fun _ _ x => x.elim)).trans hk.out.2)
  clear Sc0 Sf0 Sc1 Sf1 Sc2 Sf2 Sc3 Sf3 Sc4 Sf4 Sc5 Sf5 Xc0 Xf0 Xc1 Xf1 Xc2 Xf2 Xc3 Xf3 Xc4 Xf4 Xc5 Xf5 Xc6 Xf6 Xc7 Xf7 Xc8 Xf8
  clear hk HP1 HS0 HX0 HST0 HK0
  clear hWA hWB
  obtain ⟨Sc0, Sf0, Sc1, Sf1, Sc2, Sf2, Sc3, Sf3, Sc4, Sf4, Sc5, Sf5⟩ := cf6 HS301.out
  obtain ⟨Xc0, Xf0, Xc1, Xf1, Xc2, Xf2, Xc3, Xf3, Xc4, Xf4, Xc5, Xf5, Xc6, Xf6, Xc7, Xf7, Xc8, Xf8⟩ := cf9 HX302.out
  have hal := (MapKept.heap_alloc w300 (.cells #[.int .i64 0, .string ⟨h1.toArray⟩, .string ⟨h2.toArray⟩, .string ⟨#[]⟩, .string ⟨#[]⟩, .string ⟨#[]⟩, .string ⟨#[]⟩, .string ⟨#[]⟩, .string ⟨#[]⟩] 44)).1
  have hkE : Keeps (fun _ => False) w300 (w300.alloc (.cells #[.int .i64 0, .string ⟨h1.toArray⟩, .string ⟨h2.toArray⟩, .string ⟨#[]⟩, .string ⟨#[]⟩, .string ⟨#[]⟩, .string ⟨#[]⟩, .string ⟨#[]⟩, .string ⟨#[]⟩] 44)) := (Keeps.refl _ _).alloc _
  obtain ⟨YB, hYB⟩ : ∃ q, w300.heap.size = q := ⟨_, rfl⟩
  rw [hYB] at hal
  have HS307 := Lib.hid (((hkE).block _ (lt_of_heap HS301.out) (fun x => x)).trans HS301.out)
  have HX308 := Lib.hid (((hkE).block _ (lt_of_heap HX302.out) (fun x => x)).trans HX302.out)
  have HN306 : Hid ((W.heap.size ≠ b ∧ WA.heap.size ≠ b ∧ WA.heap.size ≠ W.heap.size ∧ W.heap.size ≤ WA.heap.size ∧ b < W.heap.size) ∧ W.heap.size ≤ YB ∧ W.heap.size < YB ∧ WA.heap.size < YB ∧ b < YB) := ⟨HN.out, by
   have hz := HK304.out.size
   have l0 := lt_of_heap HS301.out
   have l1 := lt_of_heap HX302.out
   have ls := lt_of_heap HS303.out.1
   refine ⟨?_, ?_, ?_, ?_⟩ <;> omega⟩
  have HS309 := Lib.hid (HS303.out.keeps hkE (fun x => x))
  have HK310 := Lib.hid (HK304.out.trans (hkE.mono (fun _ _ x => x.elim)))
  have HY311 := Lib.hid hal
  clear hkE hal HS301 HX302 HN HS303 HK304
  go_upto_region 2 with fail
  clear Sc0 Sf0 Sc1 Sf1 Sc2 Sf2 Sc3 Sf3 Sc4 Sf4 Sc5 Sf5 Xc0 Xf0 Xc1 Xf1 Xc2 Xf2 Xc3 Xf3 Xc4 Xf4 Xc5 Xf5 Xc6 Xf6 Xc7 Xf7 Xc8 Xf8
  clear hYB
  generalize (w300.alloc (.cells #[.int .i64 0, .string ⟨h1.toArray⟩, .string ⟨h2.toArray⟩, .string ⟨#[]⟩, .string ⟨#[]⟩, .string ⟨#[]⟩, .string ⟨#[]⟩, .string ⟨#[]⟩, .string ⟨#[]⟩] 44)) = w305 at *
  obtain ⟨Sc0, Sf0, Sc1, Sf1, Sc2, Sf2, Sc3, Sf3, Sc4, Sf4, Sc5, Sf5⟩ := cf6 HS307.out
  obtain ⟨Xc0, Xf0, Xc1, Xf1, Xc2, Xf2, Xc3, Xf3, Xc4, Xf4, Xc5, Xf5, Xc6, Xf6, Xc7, Xf7, Xc8, Xf8⟩ := cf9 HX308.out
  obtain ⟨Yc0, Yf0, Yc1, Yf1, Yc2, Yf2, Yc3, Yf3, Yc4, Yf4, Yc5, Yf5, Yc6, Yf6, Yc7, Yf7, Yc8, Yf8⟩ := cf9 HY311.out
  go_wp2_with fail
  refine (HP2.out _ HS309.out).mono ?_
  rintro e w312 ⟨rfl, hk⟩
  have HS313 := Lib.hid (((hk.out.2).block _ (lt_of_heap HS307.out) (by have := HN306.out; show ¬ _ = _; omega)).trans HS307.out)
  have HX314 := Lib.hid (((hk.out.2).block _ (lt_of_heap HX308.out) (by have := HN306.out; show ¬ _ = _; omega)).trans HX308.out)
  have HY315 := Lib.hid (((hk.out.2).block _ (lt_of_heap HY311.out) (by have := HN306.out; show ¬ _ = _; omega)).trans HY311.out)
  have HS316 := Lib.hid (hk.out.1)
  have HK317 := Lib.hid (HK310.out.trans hk.out.2)
  clear Sc0 Sf0 Sc1 Sf1 Sc2 Sf2 Sc3 Sf3 Sc4 Sf4 Sc5 Sf5 Xc0 Xf0 Xc1 Xf1 Xc2 Xf2 Xc3 Xf3 Xc4 Xf4 Xc5 Xf5 Xc6 Xf6 Xc7 Xf7 Xc8 Xf8 Yc0 Yf0 Yc1 Yf1 Yc2 Yf2 Yc3 Yf3 Yc4 Yf4 Yc5 Yf5 Yc6 Yf6 Yc7 Yf7 Yc8 Yf8
  clear hk HP2 HS307 HX308 HY311 HS309 HK310
  obtain ⟨Sc0, Sf0, Sc1, Sf1, Sc2, Sf2, Sc3, Sf3, Sc4, Sf4, Sc5, Sf5⟩ := cf6 HS313.out
  obtain ⟨Xc0, Xf0, Xc1, Xf1, Xc2, Xf2, Xc3, Xf3, Xc4, Xf4, Xc5, Xf5, Xc6, Xf6, Xc7, Xf7, Xc8, Xf8⟩ := cf9 HX314.out
  obtain ⟨Yc0, Yf0, Yc1, Yf1, Yc2, Yf2, Yc3, Yf3, Yc4, Yf4, Yc5, Yf5, Yc6, Yf6, Yc7, Yf7, Yc8, Yf8⟩ := cf9 HY315.out
  have hs0 : (w312.setCell ⟨YB, 0, none⟩ (.int .i64 3)).heap[YB]? = some (.cells #[.int .i64 3, .string ⟨h1.toArray⟩, .string ⟨h2.toArray⟩, .string ⟨#[]⟩, .string ⟨#[]⟩, .string ⟨#[]⟩, .string ⟨#[]⟩, .string ⟨#[]⟩, .string ⟨#[]⟩] 44) := heap_set (HY315.out) 0 (.int .i64 3)
  have hkE : Keeps (fun q => q = YB) w312 (w312.setCell ⟨YB, 0, none⟩ (.int .i64 3)) := (Keeps.setCell (S := fun q => q = YB) (Keeps.refl _ _) (p := ⟨YB, 0, none⟩) (fun _ => rfl) _)
  have HY319 := Lib.hid hs0
  have HS320 := Lib.hid (((hkE).block _ (lt_of_heap HS313.out) (by have := HN306.out; show ¬ _ = _; omega)).trans HS313.out)
  have HX321 := Lib.hid (((hkE).block _ (lt_of_heap HX314.out) (by have := HN306.out; show ¬ _ = _; omega)).trans HX314.out)
  have HS322 := Lib.hid (HS316.out.keeps hkE (by have := HN306.out; show ¬ _ = _; omega))
  have HK323 := Lib.hid (HK317.out.trans_new hkE (fun q hq e => by have := HN306.out; omega))
  clear hkE hs0 HY315 HS313 HX314 HS316 HK317
  go_upto_region 3 with fail
  clear Sc0 Sf0 Sc1 Sf1 Sc2 Sf2 Sc3 Sf3 Sc4 Sf4 Sc5 Sf5 Xc0 Xf0 Xc1 Xf1 Xc2 Xf2 Xc3 Xf3 Xc4 Xf4 Xc5 Xf5 Xc6 Xf6 Xc7 Xf7 Xc8 Xf8 Yc0 Yf0 Yc1 Yf1 Yc2 Yf2 Yc3 Yf3 Yc4 Yf4 Yc5 Yf5 Yc6 Yf6 Yc7 Yf7 Yc8 Yf8
  generalize (w312.setCell ⟨YB, 0, none⟩ (.int .i64 3)) = w318 at *
  obtain ⟨Sc0, Sf0, Sc1, Sf1, Sc2, Sf2, Sc3, Sf3, Sc4, Sf4, Sc5, Sf5⟩ := cf6 HS320.out
  obtain ⟨Xc0, Xf0, Xc1, Xf1, Xc2, Xf2, Xc3, Xf3, Xc4, Xf4, Xc5, Xf5, Xc6, Xf6, Xc7, Xf7, Xc8, Xf8⟩ := cf9 HX321.out
  obtain ⟨Yc0, Yf0, Yc1, Yf1, Yc2, Yf2, Yc3, Yf3, Yc4, Yf4, Yc5, Yf5, Yc6, Yf6, Yc7, Yf7, Yc8, Yf8⟩ := cf9 HY319.out
  go_wp2_with fail
  refine (HP3.out _ HS322.out).mono ?_
  rintro e w324 ⟨rfl, hk⟩
  have HS325 := Lib.hid (((hk.out.2).block _ (lt_of_heap HS320.out) (by have := HN306.out; show ¬ _ = _; omega)).trans HS320.out)
  have HX326 := Lib.hid (((hk.out.2).block _ (lt_of_heap HX321.out) (by have := HN306.out; show ¬ _ = _; omega)).trans HX321.out)
  have HY327 := Lib.hid (((hk.out.2).block _ (lt_of_heap HY319.out) (by have := HN306.out; show ¬ _ = _; omega)).trans HY319.out)
  have HS328 := Lib.hid (hk.out.1)
  have HK329 := Lib.hid (HK323.out.trans hk.out.2)
  clear Sc0 Sf0 Sc1 Sf1 Sc2 Sf2 Sc3 Sf3 Sc4 Sf4 Sc5 Sf5 Xc0 Xf0 Xc1 Xf1 Xc2 Xf2 Xc3 Xf3 Xc4 Xf4 Xc5 Xf5 Xc6 Xf6 Xc7 Xf7 Xc8 Xf8 Yc0 Yf0 Yc1 Yf1 Yc2 Yf2 Yc3 Yf3 Yc4 Yf4 Yc5 Yf5 Yc6 Yf6 Yc7 Yf7 Yc8 Yf8
  clear hk HP3 HS320 HX321 HY319 HS322 HK323
  obtain ⟨Sc0, Sf0, Sc1, Sf1, Sc2, Sf2, Sc3, Sf3, Sc4, Sf4, Sc5, Sf5⟩ := cf6 HS325.out
  obtain ⟨Xc0, Xf0, Xc1, Xf1, Xc2, Xf2, Xc3, Xf3, Xc4, Xf4, Xc5, Xf5, Xc6, Xf6, Xc7, Xf7, Xc8, Xf8⟩ := cf9 HX326.out
  obtain ⟨Yc0, Yf0, Yc1, Yf1, Yc2, Yf2, Yc3, Yf3, Yc4, Yf4, Yc5, Yf5, Yc6, Yf6, Yc7, Yf7, Yc8, Yf8⟩ := cf9 HY327.out
  have hs0 : (w324.setCell ⟨YB, 4, none⟩ (.string ⟨a1.toArray⟩)).heap[YB]? = some (.cells #[.int .i64 3, .string ⟨h1.toArray⟩, .string ⟨h2.toArray⟩, .string ⟨#[]⟩, .string ⟨a1.toArray⟩, .string ⟨#[]⟩, .string ⟨#[]⟩, .string ⟨#[]⟩, .string ⟨#[]⟩] 44) := heap_set (HY327.out) 4 (.string ⟨a1.toArray⟩)
  have hs1 : ((w324.setCell ⟨YB, 4, none⟩ (.string ⟨a1.toArray⟩)).setCell ⟨YB, 5, none⟩ (.string ⟨a2.toArray⟩)).heap[YB]? = some (.cells #[.int .i64 3, .string ⟨h1.toArray⟩, .string ⟨h2.toArray⟩, .string ⟨#[]⟩, .string ⟨a1.toArray⟩, .string ⟨a2.toArray⟩, .string ⟨#[]⟩, .string ⟨#[]⟩, .string ⟨#[]⟩] 44) := heap_set (hs0) 5 (.string ⟨a2.toArray⟩)
  have hkE : Keeps (fun q => q = YB) w324 ((w324.setCell ⟨YB, 4, none⟩ (.string ⟨a1.toArray⟩)).setCell ⟨YB, 5, none⟩ (.string ⟨a2.toArray⟩)) := (Keeps.setCell (S := fun q => q = YB) (Keeps.setCell (S := fun q => q = YB) (Keeps.refl _ _) (p := ⟨YB, 4, none⟩) (fun _ => rfl) _) (p := ⟨YB, 5, none⟩) (fun _ => rfl) _)
  have HY331 := Lib.hid hs1
  have HS332 := Lib.hid (((hkE).block _ (lt_of_heap HS325.out) (by have := HN306.out; show ¬ _ = _; omega)).trans HS325.out)
  have HX333 := Lib.hid (((hkE).block _ (lt_of_heap HX326.out) (by have := HN306.out; show ¬ _ = _; omega)).trans HX326.out)
  have HS334 := Lib.hid (HS328.out.keeps hkE (by have := HN306.out; show ¬ _ = _; omega))
  have HK335 := Lib.hid (HK329.out.trans_new hkE (fun q hq e => by have := HN306.out; omega))
  clear hkE hs0 hs1 HY327 HS325 HX326 HS328 HK329
  go_upto_region 8 with fail
  clear Sc0 Sf0 Sc1 Sf1 Sc2 Sf2 Sc3 Sf3 Sc4 Sf4 Sc5 Sf5 Xc0 Xf0 Xc1 Xf1 Xc2 Xf2 Xc3 Xf3 Xc4 Xf4 Xc5 Xf5 Xc6 Xf6 Xc7 Xf7 Xc8 Xf8 Yc0 Yf0 Yc1 Yf1 Yc2 Yf2 Yc3 Yf3 Yc4 Yf4 Yc5 Yf5 Yc6 Yf6 Yc7 Yf7 Yc8 Yf8
  generalize ((w324.setCell ⟨YB, 4, none⟩ (.string ⟨a1.toArray⟩)).setCell ⟨YB, 5, none⟩ (.string ⟨a2.toArray⟩)) = w330 at *
  obtain ⟨Sc0, Sf0, Sc1, Sf1, Sc2, Sf2, Sc3, Sf3, Sc4, Sf4, Sc5, Sf5⟩ := cf6 HS332.out
  obtain ⟨Xc0, Xf0, Xc1, Xf1, Xc2, Xf2, Xc3, Xf3, Xc4, Xf4, Xc5, Xf5, Xc6, Xf6, Xc7, Xf7, Xc8, Xf8⟩ := cf9 HX333.out
  obtain ⟨Yc0, Yf0, Yc1, Yf1, Yc2, Yf2, Yc3, Yf3, Yc4, Yf4, Yc5, Yf5, Yc6, Yf6, Yc7, Yf7, Yc8, Yf8⟩ := cf9 HY331.out
  go_wp2_with fail
  refine (HP4.out _ HS334.out).mono ?_
  rintro e w336 ⟨rfl, hk⟩
  have HS337 := Lib.hid (((hk.out.2).block _ (lt_of_heap HS332.out) (by have := HN306.out; show ¬ _ = _; omega)).trans HS332.out)
  have HX338 := Lib.hid (((hk.out.2).block _ (lt_of_heap HX333.out) (by have := HN306.out; show ¬ _ = _; omega)).trans HX333.out)
  have HY339 := Lib.hid (((hk.out.2).block _ (lt_of_heap HY331.out) (by have := HN306.out; show ¬ _ = _; omega)).trans HY331.out)
  have HS340 := Lib.hid (hk.out.1)
  have HK341 := Lib.hid (HK335.out.trans hk.out.2)
  clear Sc0 Sf0 Sc1 Sf1 Sc2 Sf2 Sc3 Sf3 Sc4 Sf4 Sc5 Sf5 Xc0 Xf0 Xc1 Xf1 Xc2 Xf2 Xc3 Xf3 Xc4 Xf4 Xc5 Xf5 Xc6 Xf6 Xc7 Xf7 Xc8 Xf8 Yc0 Yf0 Yc1 Yf1 Yc2 Yf2 Yc3 Yf3 Yc4 Yf4 Yc5 Yf5 Yc6 Yf6 Yc7 Yf7 Yc8 Yf8
  clear hk HP4 HS332 HX333 HY331 HS334 HK335
  obtain ⟨Sc0, Sf0, Sc1, Sf1, Sc2, Sf2, Sc3, Sf3, Sc4, Sf4, Sc5, Sf5⟩ := cf6 HS337.out
  obtain ⟨Xc0, Xf0, Xc1, Xf1, Xc2, Xf2, Xc3, Xf3, Xc4, Xf4, Xc5, Xf5, Xc6, Xf6, Xc7, Xf7, Xc8, Xf8⟩ := cf9 HX338.out
  obtain ⟨Yc0, Yf0, Yc1, Yf1, Yc2, Yf2, Yc3, Yf3, Yc4, Yf4, Yc5, Yf5, Yc6, Yf6, Yc7, Yf7, Yc8, Yf8⟩ := cf9 HY339.out
  go_wp2_with fail
  refine (HL4.out _).mono ?_
  rintro e w342 ⟨rfl, hk⟩
  have HS343 := Lib.hid (((hk.out).block _ (lt_of_heap HS337.out) (fun x => x)).trans HS337.out)
  have HX344 := Lib.hid (((hk.out).block _ (lt_of_heap HX338.out) (fun x => x)).trans HX338.out)
  have HY345 := Lib.hid (((hk.out).block _ (lt_of_heap HY339.out) (fun x => x)).trans HY339.out)
  have HS346 := Lib.hid (HS340.out.keeps hk.out (fun x => x))
  have HK347 := Lib.hid (HK341.out.trans (hk.out.mono (fun _ _ x => x.elim)))
  clear Sc0 Sf0 Sc1 Sf1 Sc2 Sf2 Sc3 Sf3 Sc4 Sf4 Sc5 Sf5 Xc0 Xf0 Xc1 Xf1 Xc2 Xf2 Xc3 Xf3 Xc4 Xf4 Xc5 Xf5 Xc6 Xf6 Xc7 Xf7 Xc8 Xf8 Yc0 Yf0 Yc1 Yf1 Yc2 Yf2 Yc3 Yf3 Yc4 Yf4 Yc5 Yf5 Yc6 Yf6 Yc7 Yf7 Yc8 Yf8
  clear hk HS337 HX338 HY339 HS340 HK341
  clear HL4
  obtain ⟨Sc0, Sf0, Sc1, Sf1, Sc2, Sf2, Sc3, Sf3, Sc4, Sf4, Sc5, Sf5⟩ := cf6 HS343.out
  obtain ⟨Xc0, Xf0, Xc1, Xf1, Xc2, Xf2, Xc3, Xf3, Xc4, Xf4, Xc5, Xf5, Xc6, Xf6, Xc7, Xf7, Xc8, Xf8⟩ := cf9 HX344.out
  obtain ⟨Yc0, Yf0, Yc1, Yf1, Yc2, Yf2, Yc3, Yf3, Yc4, Yf4, Yc5, Yf5, Yc6, Yf6, Yc7, Yf7, Yc8, Yf8⟩ := cf9 HY345.out
  have hs0 : (w342.setCell ⟨YB, 8, none⟩ (.string ⟨v.toArray⟩)).heap[YB]? = some (.cells #[.int .i64 3, .string ⟨h1.toArray⟩, .string ⟨h2.toArray⟩, .string ⟨#[]⟩, .string ⟨a1.toArray⟩, .string ⟨a2.toArray⟩, .string ⟨#[]⟩, .string ⟨#[]⟩, .string ⟨v.toArray⟩] 44) := heap_set (HY345.out) 8 (.string ⟨v.toArray⟩)
  have hkE : Keeps (fun q => q = YB) w342 (w342.setCell ⟨YB, 8, none⟩ (.string ⟨v.toArray⟩)) := (Keeps.setCell (S := fun q => q = YB) (Keeps.refl _ _) (p := ⟨YB, 8, none⟩) (fun _ => rfl) _)
  have HY349 := Lib.hid hs0
  have HS350 := Lib.hid (((hkE).block _ (lt_of_heap HS343.out) (by have := HN306.out; show ¬ _ = _; omega)).trans HS343.out)
  have HX351 := Lib.hid (((hkE).block _ (lt_of_heap HX344.out) (by have := HN306.out; show ¬ _ = _; omega)).trans HX344.out)
  have HS352 := Lib.hid (HS346.out.keeps hkE (by have := HN306.out; show ¬ _ = _; omega))
  have HK353 := Lib.hid (HK347.out.trans_new hkE (fun q hq e => by have := HN306.out; omega))
  clear hkE hs0 HY345 HS343 HX344 HS346 HK347
  go_upto_region 11 with fail
  clear Sc0 Sf0 Sc1 Sf1 Sc2 Sf2 Sc3 Sf3 Sc4 Sf4 Sc5 Sf5 Xc0 Xf0 Xc1 Xf1 Xc2 Xf2 Xc3 Xf3 Xc4 Xf4 Xc5 Xf5 Xc6 Xf6 Xc7 Xf7 Xc8 Xf8 Yc0 Yf0 Yc1 Yf1 Yc2 Yf2 Yc3 Yf3 Yc4 Yf4 Yc5 Yf5 Yc6 Yf6 Yc7 Yf7 Yc8 Yf8
  generalize (w342.setCell ⟨YB, 8, none⟩ (.string ⟨v.toArray⟩)) = w348 at *
  obtain ⟨Sc0, Sf0, Sc1, Sf1, Sc2, Sf2, Sc3, Sf3, Sc4, Sf4, Sc5, Sf5⟩ := cf6 HS350.out
  obtain ⟨Xc0, Xf0, Xc1, Xf1, Xc2, Xf2, Xc3, Xf3, Xc4, Xf4, Xc5, Xf5, Xc6, Xf6, Xc7, Xf7, Xc8, Xf8⟩ := cf9 HX351.out
  obtain ⟨Yc0, Yf0, Yc1, Yf1, Yc2, Yf2, Yc3, Yf3, Yc4, Yf4, Yc5, Yf5, Yc6, Yf6, Yc7, Yf7, Yc8, Yf8⟩ := cf9 HY349.out
  go_wp2_with fail
  refine (HNM.out _).mono ?_
  rintro e w354 ⟨rfl, hk⟩
  have HS355 := Lib.hid (((hk.out).block _ (lt_of_heap HS350.out) (fun x => x)).trans HS350.out)
  have HX356 := Lib.hid (((hk.out).block _ (lt_of_heap HX351.out) (fun x => x)).trans HX351.out)
  have HY357 := Lib.hid (((hk.out).block _ (lt_of_heap HY349.out) (fun x => x)).trans HY349.out)
  have HS358 := Lib.hid (HS352.out.keeps hk.out (fun x => x))
  have HK359 := Lib.hid (HK353.out.trans (hk.out.mono (fun _ _ x => x.elim)))
  clear Sc0 Sf0 Sc1 Sf1 Sc2 Sf2 Sc3 Sf3 Sc4 Sf4 Sc5 Sf5 Xc0 Xf0 Xc1 Xf1 Xc2 Xf2 Xc3 Xf3 Xc4 Xf4 Xc5 Xf5 Xc6 Xf6 Xc7 Xf7 Xc8 Xf8 Yc0 Yf0 Yc1 Yf1 Yc2 Yf2 Yc3 Yf3 Yc4 Yf4 Yc5 Yf5 Yc6 Yf6 Yc7 Yf7 Yc8 Yf8
  clear hk HS350 HX351 HY349 HS352 HK353
  clear HNM
  obtain ⟨Sc0, Sf0, Sc1, Sf1, Sc2, Sf2, Sc3, Sf3, Sc4, Sf4, Sc5, Sf5⟩ := cf6 HS355.out
  obtain ⟨Xc0, Xf0, Xc1, Xf1, Xc2, Xf2, Xc3, Xf3, Xc4, Xf4, Xc5, Xf5, Xc6, Xf6, Xc7, Xf7, Xc8, Xf8⟩ := cf9 HX356.out
  obtain ⟨Yc0, Yf0, Yc1, Yf1, Yc2, Yf2, Yc3, Yf3, Yc4, Yf4, Yc5, Yf5, Yc6, Yf6, Yc7, Yf7, Yc8, Yf8⟩ := cf9 HY357.out
  obtain ⟨hs0, hkE⟩ := sx9 HX356.out (.int .i64 nk) (.string ⟨nh1.toArray⟩) (.string ⟨nh2.toArray⟩) (.string ⟨no.toArray⟩) (.string ⟨na1.toArray⟩) (.string ⟨na2.toArray⟩) (.string ⟨nb1.toArray⟩) (.string ⟨nb2.toArray⟩) (.string ⟨ni.toArray⟩)
  have HX360 := Lib.hid hs0
  have HS361 := Lib.hid (((hkE).block _ (lt_of_heap HS355.out) (by have := HN306.out; show ¬ _ = _; omega)).trans HS355.out)
  have HY362 := Lib.hid (((hkE).block _ (lt_of_heap HY357.out) (by have := HN306.out; show ¬ _ = _; omega)).trans HY357.out)
  have HS363 := Lib.hid (HS358.out.keeps hkE (by have := HN306.out; show ¬ _ = _; omega))
  have HK364 := Lib.hid (HK359.out.trans_new hkE (fun q hq e => by have := HN306.out; omega))
  clear hkE hs0 HX356 HS355 HY357 HS358 HK359
  go_wp2_with fail
  clear Sc0 Sf0 Sc1 Sf1 Sc2 Sf2 Sc3 Sf3 Sc4 Sf4 Sc5 Sf5 Xc0 Xf0 Xc1 Xf1 Xc2 Xf2 Xc3 Xf3 Xc4 Xf4 Xc5 Xf5 Xc6 Xf6 Xc7 Xf7 Xc8 Xf8 Yc0 Yf0 Yc1 Yf1 Yc2 Yf2 Yc3 Yf3 Yc4 Yf4 Yc5 Yf5 Yc6 Yf6 Yc7 Yf7 Yc8 Yf8
  generalize (((((((((w354.setCell ⟨WA.heap.size, 0, none⟩ (.int .i64 nk)).setCell ⟨WA.heap.size, 1, none⟩ (.string ⟨nh1.toArray⟩)).setCell ⟨WA.heap.size, 2, none⟩ (.string ⟨nh2.toArray⟩)).setCell ⟨WA.heap.size, 3, none⟩ (.string ⟨no.toArray⟩)).setCell ⟨WA.heap.size, 4, none⟩ (.string ⟨na1.toArray⟩)).setCell ⟨WA.heap.size, 5, none⟩ (.string ⟨na2.toArray⟩)).setCell ⟨WA.heap.size, 6, none⟩ (.string ⟨nb1.toArray⟩)).setCell ⟨WA.heap.size, 7, none⟩ (.string ⟨nb2.toArray⟩)).setCell ⟨WA.heap.size, 8, none⟩ (.string ⟨ni.toArray⟩)) = WE at *
  obtain ⟨Xc0, Xf0, Xc1, Xf1, Xc2, Xf2, Xc3, Xf3, Xc4, Xf4, Xc5, Xf5, Xc6, Xf6, Xc7, Xf7, Xc8, Xf8⟩ := cf9 HX360.out
  refine bodyPost_ret (v := .agg #[.int .i64 nk, .string ⟨nh1.toArray⟩, .string ⟨nh2.toArray⟩, .string ⟨no.toArray⟩, .string ⟨na1.toArray⟩, .string ⟨na2.toArray⟩, .string ⟨nb1.toArray⟩, .string ⟨nb2.toArray⟩, .string ⟨ni.toArray⟩]) (by simp [results, Tryz.results13, go_sem, *]) rfl ?_
  exact ⟨rfl, HS363.out, HK364.out⟩
 ·obtain ⟨⟨⟨a1, a2⟩, x3⟩, e3⟩ : ∃ q, rolD x2 s = q := ⟨_, rfl⟩
  have HP3 : Hid (∀ W, StB W 30 b x2 → Calls Tryz.prog 11 #[.pointer (some ⟨b, 0, none⟩), ShpV s] W (DrTo W 30 b (.agg #[.string ⟨a1.toArray⟩, .string ⟨a2.toArray⟩]) x3)) := fun W h => rrole_at hf e3 W h
  obtain ⟨⟨⟨c1, c2⟩, x4⟩, e4⟩ : ∃ q, rolD x3 s = q := ⟨_, rfl⟩
  have HP4 : Hid (∀ W, StB W 30 b x3 → Calls Tryz.prog 11 #[.pointer (some ⟨b, 0, none⟩), ShpV s] W (DrTo W 30 b (.agg #[.string ⟨c1.toArray⟩, .string ⟨c2.toArray⟩]) x4)) := fun W h => rrole_at hf e4 W h
  have HE : Hid (stmD x s = (normS ((h1, h2), 4, [], (a1, a2), (c1, c2), []), x4)) := by
   show _ = _
   unfold stmD bodD
   simp [e1, e2, e3, e4, noRol]
  rw [HE.out]
  have HNM : Hid (∀ W, Calls Tryz.prog 30 #[stmV ((h1, h2), 4, [], (a1, a2), (c1, c2), [])] W fun e W' => e = .returned (stmV (normS ((h1, h2), 4, [], (a1, a2), (c1, c2), []))) ∧ Hid (Keeps (fun _ => False) W W')) := fun W => rnorm_spec _
  obtain ⟨nn, hnn⟩ : ∃ q, normS ((h1, h2), 4, [], (a1, a2), (c1, c2), []) = q := ⟨_, rfl⟩
  rw [hnn] at HNM ⊢
  obtain ⟨⟨nh1, nh2⟩, nk, no, ⟨na1, na2⟩, ⟨nb1, nb2⟩, ni⟩ := nn
  clear hnn HE e1 e2 e3 e4 hf hfn
  unfold ShpV stmV at *
  simp only at HNM
  obtain ⟨Sc0, Sf0, Sc1, Sf1, Sc2, Sf2, Sc3, Sf3, Sc4, Sf4, Sc5, Sf5⟩ := cf6 HS0.out
  obtain ⟨Xc0, Xf0, Xc1, Xf1, Xc2, Xf2, Xc3, Xf3, Xc4, Xf4, Xc5, Xf5, Xc6, Xf6, Xc7, Xf7, Xc8, Xf8⟩ := cf9 HX0.out
  go_enter Tryz.func13, Tryz.ntmps13
  go_wp2_with fail
  refine (HP1.out _ HST0.out).mono ?_
  rintro e w365 ⟨rfl, hk⟩
  have HS366 := Lib.hid (((hk.out.2).block _ (lt_of_heap HS0.out) (by have := HN.out; show ¬ _ = _; omega)).trans HS0.out)
  have HX367 := Lib.hid (((hk.out.2).block _ (lt_of_heap HX0.out) (by have := HN.out; show ¬ _ = _; omega)).trans HX0.out)
  have HS368 := Lib.hid (hk.out.1)
  have HK369 := Lib.hid ((HK0.out.mono (fun _ _ x => x.elim)).trans hk.out.2)
  clear Sc0 Sf0 Sc1 Sf1 Sc2 Sf2 Sc3 Sf3 Sc4 Sf4 Sc5 Sf5 Xc0 Xf0 Xc1 Xf1 Xc2 Xf2 Xc3 Xf3 Xc4 Xf4 Xc5 Xf5 Xc6 Xf6 Xc7 Xf7 Xc8 Xf8
  clear hk HP1 HS0 HX0 HST0 HK0
  clear hWA hWB
  obtain ⟨Sc0, Sf0, Sc1, Sf1, Sc2, Sf2, Sc3, Sf3, Sc4, Sf4, Sc5, Sf5⟩ := cf6 HS366.out
  obtain ⟨Xc0, Xf0, Xc1, Xf1, Xc2, Xf2, Xc3, Xf3, Xc4, Xf4, Xc5, Xf5, Xc6, Xf6, Xc7, Xf7, Xc8, Xf8⟩ := cf9 HX367.out
  have hal := (MapKept.heap_alloc w365 (.cells #[.int .i64 0, .string ⟨h1.toArray⟩, .string ⟨h2.toArray⟩, .string ⟨#[]⟩, .string ⟨#[]⟩, .string ⟨#[]⟩, .string ⟨#[]⟩, .string ⟨#[]⟩, .string ⟨#[]⟩] 44)).1
  have hkE : Keeps (fun _ => False) w365 (w365.alloc (.cells #[.int .i64 0, .string ⟨h1.toArray⟩, .string ⟨h2.toArray⟩, .string ⟨#[]⟩, .string ⟨#[]⟩, .string ⟨#[]⟩, .string ⟨#[]⟩, .string ⟨#[]⟩, .string ⟨#[]⟩] 44)) := (Keeps.refl _ _).alloc _
  obtain ⟨YB, hYB⟩ : ∃ q, w365.heap.size = q := ⟨_, rfl⟩
  rw [hYB] at hal
  have HS372 := Lib.hid (((hkE).block _ (lt_of_heap HS366.out) (fun x => x)).trans HS366.out)
  have HX373 := Lib.hid (((hkE).block _ (lt_of_heap HX367.out) (fun x => x)).trans HX367.out)
  have HN371 : Hid ((W.heap.size ≠ b ∧ WA.heap.size ≠ b ∧ WA.heap.size ≠ W.heap.size ∧ W.heap.size ≤ WA.heap.size ∧ b < W.heap.size) ∧ W.heap.size ≤ YB ∧ W.heap.size < YB ∧ WA.heap.size < YB ∧ b < YB) := ⟨HN.out, by
   have hz := HK369.out.size
   have l0 := lt_of_heap HS366.out
   have l1 := lt_of_heap HX367.out
   have ls := lt_of_heap HS368.out.1
   refine ⟨?_, ?_, ?_, ?_⟩ <;> omega⟩
  have HS374 := Lib.hid (HS368.out.keeps hkE (fun x => x))
  have HK375 := Lib.hid (HK369.out.trans (hkE.mono (fun _ _ x => x.elim)))
  have HY376 := Lib.hid hal
  clear hkE hal HS366 HX367 HN HS368 HK369
  go_upto_region 2 with fail
  clear Sc0 Sf0 Sc1 Sf1 Sc2 Sf2 Sc3 Sf3 Sc4 Sf4 Sc5 Sf5 Xc0 Xf0 Xc1 Xf1 Xc2 Xf2 Xc3 Xf3 Xc4 Xf4 Xc5 Xf5 Xc6 Xf6 Xc7 Xf7 Xc8 Xf8
  clear hYB
  generalize (w365.alloc (.cells #[.int .i64 0, .string ⟨h1.toArray⟩, .string ⟨h2.toArray⟩, .string ⟨#[]⟩, .string ⟨#[]⟩, .string ⟨#[]⟩, .string ⟨#[]⟩, .string ⟨#[]⟩, .string ⟨#[]⟩] 44)) = w370 at *
  obtain ⟨Sc0, Sf0, Sc1, Sf1, Sc2, Sf2, Sc3, Sf3, Sc4, Sf4, Sc5, Sf5⟩ := cf6 HS372.out
  obtain ⟨Xc0, Xf0, Xc1, Xf1, Xc2, Xf2, Xc3, Xf3, Xc4, Xf4, Xc5, Xf5, Xc6, Xf6, Xc7, Xf7, Xc8, Xf8⟩ := cf9 HX373.out
  obtain ⟨Yc0, Yf0, Yc1, Yf1, Yc2, Yf2, Yc3, Yf3, Yc4, Yf4, Yc5, Yf5, Yc6, Yf6, Yc7, Yf7, Yc8, Yf8⟩ := cf9 HY376.out
  go_wp2_with fail
  refine (HP2.out _ HS374.out).mono ?_
  rintro e w377 ⟨rfl, hk⟩
  have HS378 := Lib.hid (((hk.out.2).block _ (lt_of_heap HS372.out) (by have := HN371.out; show ¬ _ = _; omega)).trans HS372.out)
  have HX379 := Lib.hid (((hk.out.2).block _ (lt_of_heap HX373.out) (by have := HN371.out; show ¬ _ = _; omega)).trans HX373.out)
  have HY380 := Lib.hid (((hk.out.2).block _ (lt_of_heap HY376.out) (by have := HN371.out; show ¬ _ = _; omega)).trans HY376.out)
  have HS381 := Lib.hid (hk.out.1)
  have HK382 := Lib.hid (HK375.out.trans hk.out.2)
  clear Sc0 Sf0 Sc1 Sf1 Sc2 Sf2 Sc3 Sf3 Sc4 Sf4 Sc5 Sf5 Xc0 Xf0 Xc1 Xf1 Xc2 Xf2 Xc3 Xf3 Xc4 Xf4 Xc5 Xf5 Xc6 Xf6 Xc7 Xf7 Xc8 Xf8 Yc0 Yf0 Yc1 Yf1 Yc2 Yf2 Yc3 Yf3 Yc4 Yf4 Yc5 Yf5 Yc6 Yf6 Yc7 Yf7 Yc8 Yf8
  clear hk HP2 HS372 HX373 HY376 HS374 HK375
  obtain ⟨Sc0, Sf0, Sc1, Sf1, Sc2, Sf2, Sc3, Sf3, Sc4, Sf4, Sc5, Sf5⟩ := cf6 HS378.out
  obtain ⟨Xc0, Xf0, Xc1, Xf1, Xc2, Xf2, Xc3, Xf3, Xc4, Xf4, Xc5, Xf5, Xc6, Xf6, Xc7, Xf7, Xc8, Xf8⟩ := cf9 HX379.out
  obtain ⟨Yc0, Yf0, Yc1, Yf1, Yc2, Yf2, Yc3, Yf3, Yc4, Yf4, Yc5, Yf5, Yc6, Yf6, Yc7, Yf7, Yc8, Yf8⟩ := cf9 HY380.out
  have hs0 : (w377.setCell ⟨YB, 0, none⟩ (.int .i64 4)).heap[YB]? = some (.cells #[.int .i64 4, .string ⟨h1.toArray⟩, .string ⟨h2.toArray⟩, .string ⟨#[]⟩, .string ⟨#[]⟩, .string ⟨#[]⟩, .string ⟨#[]⟩, .string ⟨#[]⟩, .string ⟨#[]⟩] 44) := heap_set (HY380.out) 0 (.int .i64 4)
  have hkE : Keeps (fun q => q = YB) w377 (w377.setCell ⟨YB, 0, none⟩ (.int .i64 4)) := (Keeps.setCell (S := fun q => q = YB) (Keeps.refl _ _) (p := ⟨YB, 0, none⟩) (fun _ => rfl) _)
  have HY384 := Lib.hid hs0
  have HS385 := Lib.hid (((hkE).block _ (lt_of_heap HS378.out) (by have := HN371.out; show ¬ _ = _; omega)).trans HS378.out)
  have HX386 := Lib.hid (((hkE).block _ (lt_of_heap HX379.out) (by have := HN371.out; show ¬ _ = _; omega)).trans HX379.out)
  have HS387 := Lib.hid (HS381.out.keeps hkE (by have := HN371.out; show ¬ _ = _; omega))
  have HK388 := Lib.hid (HK382.out.trans_new hkE (fun q hq e => by have := HN371.out; omega))
  clear hkE hs0 HY380 HS378 HX379 HS381 HK382
  go_upto_region 3 with fail
  clear Sc0 Sf0 Sc1 Sf1 Sc2 Sf2 Sc3 Sf3 Sc4 Sf4 Sc5 Sf5 Xc0 Xf0 Xc1 Xf1 Xc2 Xf2 Xc3 Xf3 Xc4 Xf4 Xc5 Xf5 Xc6 Xf6 Xc7 Xf7 Xc8 Xf8 Yc0 Yf0 Yc1 Yf1 Yc2 Yf2 Yc3 Yf3 Yc4 Yf4 Yc5 Yf5 Yc6 Yf6 Yc7 Yf7 Yc8 Yf8
  generalize (w377.setCell ⟨YB, 0, none⟩ (.int .i64 4)) = w383 at *
  obtain ⟨Sc0, Sf0, Sc1, Sf1, Sc2, Sf2, Sc3, Sf3, Sc4, Sf4, Sc5, Sf5⟩ := cf6 HS385.out
  obtain ⟨Xc0, Xf0, Xc1, Xf1, Xc2, Xf2, Xc3, Xf3, Xc4, Xf4, Xc5, Xf5, Xc6, Xf6, Xc7, Xf7, Xc8, Xf8⟩ := cf9 HX386.out
  obtain ⟨Yc0, Yf0, Yc1, Yf1, Yc2, Yf2, Yc3, Yf3, Yc4, Yf4, Yc5, Yf5, Yc6, Yf6, Yc7, Yf7, Yc8, Yf8⟩ := cf9 HY384.out
  go_wp2_with fail
  refine (HP3.out _ HS387.out).mono ?_
  rintro e w389 ⟨rfl, hk⟩
  have HS390 := Lib.hid (((hk.out.2).block _ (lt_of_heap HS385.out) (by have := HN371.out; show ¬ _ = _; omega)).trans HS385.out)
  have HX391 := Lib.hid (((hk.out.2).block _ (lt_of_heap HX386.out) (by have := HN371.out; show ¬ _ = _; omega)).trans HX386.out)
  have HY392 := Lib.hid (((hk.out.2).block _ (lt_of_heap HY384.out) (by have := HN371.out; show ¬ _ = _; omega)).trans HY384.out)
  have HS393 := Lib.hid (hk.out.1)
  have HK394 := Lib.hid (HK388.out.trans hk.out.2)
  clear Sc0 Sf0 Sc1 Sf1 Sc2 Sf2 Sc3 Sf3 Sc4 Sf4 Sc5 Sf5 Xc0 Xf0 Xc1 Xf1 Xc2 Xf2 Xc3 Xf3 Xc4 Xf4 Xc5 Xf5 Xc6 Xf6 Xc7 Xf7 Xc8 Xf8 Yc0 Yf0 Yc1 Yf1 Yc2 Yf2 Yc3 Yf3 Yc4 Yf4 Yc5 Yf5 Yc6 Yf6 Yc7 Yf7 Yc8 Yf8
  clear hk HP3 HS385 HX386 HY384 HS387 HK388
  obtain ⟨Sc0, Sf0, Sc1, Sf1, Sc2, Sf2, Sc3, Sf3, Sc4, Sf4, Sc5, Sf5⟩ := cf6 HS390.out
  obtain ⟨Xc0, Xf0, Xc1, Xf1, Xc2, Xf2, Xc3, Xf3, Xc4, Xf4, Xc5, Xf5, Xc6, Xf6, Xc7, Xf7, Xc8, Xf8⟩ := cf9 HX391.out
  obtain ⟨Yc0, Yf0, Yc1, Yf1, Yc2, Yf2, Yc3, Yf3, Yc4, Yf4, Yc5, Yf5, Yc6, Yf6, Yc7, Yf7, Yc8, Yf8⟩ := cf9 HY392.out
  have hs0 : (w389.setCell ⟨YB, 4, none⟩ (.string ⟨a1.toArray⟩)).heap[YB]? = some (.cells #[.int .i64 4, .string ⟨h1.toArray⟩, .string ⟨h2.toArray⟩, .string ⟨#[]⟩, .string ⟨a1.toArray⟩, .string ⟨#[]⟩, .string ⟨#[]⟩, .string ⟨#[]⟩, .string ⟨#[]⟩] 44) := heap_set (HY392.out) 4 (.string ⟨a1.toArray⟩)
  have hs1 : ((w389.setCell ⟨YB, 4, none⟩ (.string ⟨a1.toArray⟩)).setCell ⟨YB, 5, none⟩ (.string ⟨a2.toArray⟩)).heap[YB]? = some (.cells #[.int .i64 4, .string ⟨h1.toArray⟩, .string ⟨h2.toArray⟩, .string ⟨#[]⟩, .string ⟨a1.toArray⟩, .string ⟨a2.toArray⟩, .string ⟨#[]⟩, .string ⟨#[]⟩, .string ⟨#[]⟩] 44) := heap_set (hs0) 5 (.string ⟨a2.toArray⟩)
  have hkE : Keeps (fun q => q = YB) w389 ((w389.setCell ⟨YB, 4, none⟩ (.string ⟨a1.toArray⟩)).setCell ⟨YB, 5, none⟩ (.string ⟨a2.toArray⟩)) := (Keeps.setCell (S := fun q => q = YB) (Keeps.setCell (S := fun q => q = YB) (Keeps.refl _ _) (p := ⟨YB, 4, none⟩) (fun _ => rfl) _) (p := ⟨YB, 5, none⟩) (fun _ => rfl) _)
  have HY396 := Lib.hid hs1
  have HS397 := Lib.hid (((hkE).block _ (lt_of_heap HS390.out) (by have := HN371.out; show ¬ _ = _; omega)).trans HS390.out)
  have HX398 := Lib.hid (((hkE).block _ (lt_of_heap HX391.out) (by have := HN371.out; show ¬ _ = _; omega)).trans HX391.out)
  have HS399 := Lib.hid (HS393.out.keeps hkE (by have := HN371.out; show ¬ _ = _; omega))
  have HK400 := Lib.hid (HK394.out.trans_new hkE (fun q hq e => by have := HN371.out; omega))
  clear hkE hs0 hs1 HY392 HS390 HX391 HS393 HK394
  go_upto_region 10 with fail
  clear Sc0 Sf0 Sc1 Sf1 Sc2 Sf2 Sc3 Sf3 Sc4 Sf4 Sc5 Sf5 Xc0 Xf0 Xc1 Xf1 Xc2 Xf2 Xc3 Xf3 Xc4 Xf4 Xc5 Xf5 Xc6 Xf6 Xc7 Xf7 Xc8 Xf8 Yc0 Yf0 Yc1 Yf1 Yc2 Yf2 Yc3 Yf3 Yc4 Yf4 Yc5 Yf5 Yc6 Yf6 Yc7 Yf7 Yc8 Yf8
  generalize ((w389.setCell ⟨YB, 4, none⟩ (.string ⟨a1.toArray⟩)).setCell ⟨YB, 5, none⟩ (.string ⟨a2.toArray⟩)) = w395 at *
  obtain ⟨Sc0, Sf0, Sc1, Sf1, Sc2, Sf2, Sc3, Sf3, Sc4, Sf4, Sc5, Sf5⟩ := cf6 HS397.out
  obtain ⟨Xc0, Xf0, Xc1, Xf1, Xc2, Xf2, Xc3, Xf3, Xc4, Xf4, Xc5, Xf5, Xc6, Xf6, Xc7, Xf7, Xc8, Xf8⟩ := cf9 HX398.out
  obtain ⟨Yc0, Yf0, Yc1, Yf1, Yc2, Yf2, Yc3, Yf3, Yc4, Yf4, Yc5, Yf5, Yc6, Yf6, Yc7, Yf7, Yc8, Yf8⟩ := cf9 HY396.out
  go_wp2_with fail
  refine (HP4.out _ HS399.out).mono ?_
  rintro e w401 ⟨rfl, hk⟩
  have HS402 := Lib.hid (((hk.out.2).block _ (lt_of_heap HS397.out) (by have := HN371.out; show ¬ _ = _; omega)).trans HS397.out)
  have HX403 := Lib.hid (((hk.out.2).block _ (lt_of_heap HX398.out) (by have := HN371.out; show ¬ _ = _; omega)).trans HX398.out)
  have HY404 := Lib.hid (((hk.out.2).block _ (lt_of_heap HY396.out) (by have := HN371.out; show ¬ _ = _; omega)).trans HY396.out)
  have HS405 := Lib.hid (hk.out.1)
  have HK406 := Lib.hid (HK400.out.trans hk.out.2)
  clear Sc0 Sf0 Sc1 Sf1 Sc2 Sf2 Sc3 Sf3 Sc4 Sf4 Sc5 Sf5 Xc0 Xf0 Xc1 Xf1 Xc2 Xf2 Xc3 Xf3 Xc4 Xf4 Xc5 Xf5 Xc6 Xf6 Xc7 Xf7 Xc8 Xf8 Yc0 Yf0 Yc1 Yf1 Yc2 Yf2 Yc3 Yf3 Yc4 Yf4 Yc5 Yf5 Yc6 Yf6 Yc7 Yf7 Yc8 Yf8
  clear hk HP4 HS397 HX398 HY396 HS399 HK400
  obtain ⟨Sc0, Sf0, Sc1, Sf1, Sc2, Sf2, Sc3, Sf3, Sc4, Sf4, Sc5, Sf5⟩ := cf6 HS402.out
  obtain ⟨Xc0, Xf0, Xc1, Xf1, Xc2, Xf2, Xc3, Xf3, Xc4, Xf4, Xc5, Xf5, Xc6, Xf6, Xc7, Xf7, Xc8, Xf8⟩ := cf9 HX403.out
  obtain ⟨Yc0, Yf0, Yc1, Yf1, Yc2, Yf2, Yc3, Yf3, Yc4, Yf4, Yc5, Yf5, Yc6, Yf6, Yc7, Yf7, Yc8, Yf8⟩ := cf9 HY404.out
  have hs0 : (w401.setCell ⟨YB, 6, none⟩ (.string ⟨c1.toArray⟩)).heap[YB]? = some (.cells #[.int .i64 4, .string ⟨h1.toArray⟩, .string ⟨h2.toArray⟩, .string ⟨#[]⟩, .string ⟨a1.toArray⟩, .string ⟨a2.toArray⟩, .string ⟨c1.toArray⟩, .string ⟨#[]⟩, .string ⟨#[]⟩] 44) := heap_set (HY404.out) 6 (.string ⟨c1.toArray⟩)
  have hs1 : ((w401.setCell ⟨YB, 6, none⟩ (.string ⟨c1.toArray⟩)).setCell ⟨YB, 7, none⟩ (.string ⟨c2.toArray⟩)).heap[YB]? = some (.cells #[.int .i64 4, .string ⟨h1.toArray⟩, .string ⟨h2.toArray⟩, .string ⟨#[]⟩, .string ⟨a1.toArray⟩, .string ⟨a2.toArray⟩, .string ⟨c1.toArray⟩, .string ⟨c2.toArray⟩, .string ⟨#[]⟩] 44) := heap_set (hs0) 7 (.string ⟨c2.toArray⟩)
  have hkE : Keeps (fun q => q = YB) w401 ((w401.setCell ⟨YB, 6, none⟩ (.string ⟨c1.toArray⟩)).setCell ⟨YB, 7, none⟩ (.string ⟨c2.toArray⟩)) := (Keeps.setCell (S := fun q => q = YB) (Keeps.setCell (S := fun q => q = YB) (Keeps.refl _ _) (p := ⟨YB, 6, none⟩) (fun _ => rfl) _) (p := ⟨YB, 7, none⟩) (fun _ => rfl) _)
  have HY408 := Lib.hid hs1
  have HS409 := Lib.hid (((hkE).block _ (lt_of_heap HS402.out) (by have := HN371.out; show ¬ _ = _; omega)).trans HS402.out)
  have HX410 := Lib.hid (((hkE).block _ (lt_of_heap HX403.out) (by have := HN371.out; show ¬ _ = _; omega)).trans HX403.out)
  have HS411 := Lib.hid (HS405.out.keeps hkE (by have := HN371.out; show ¬ _ = _; omega))
  have HK412 := Lib.hid (HK406.out.trans_new hkE (fun q hq e => by have := HN371.out; omega))
  clear hkE hs0 hs1 HY404 HS402 HX403 HS405 HK406
  go_upto_region 11 with fail
  clear Sc0 Sf0 Sc1 Sf1 Sc2 Sf2 Sc3 Sf3 Sc4 Sf4 Sc5 Sf5 Xc0 Xf0 Xc1 Xf1 Xc2 Xf2 Xc3 Xf3 Xc4 Xf4 Xc5 Xf5 Xc6 Xf6 Xc7 Xf7 Xc8 Xf8 Yc0 Yf0 Yc1 Yf1 Yc2 Yf2 Yc3 Yf3 Yc4 Yf4 Yc5 Yf5 Yc6 Yf6 Yc7 Yf7 Yc8 Yf8
  generalize ((w401.setCell ⟨YB, 6, none⟩ (.string ⟨c1.toArray⟩)).setCell ⟨YB, 7, none⟩ (.string ⟨c2.toArray⟩)) = w407 at *
  obtain ⟨Sc0, Sf0, Sc1, Sf1, Sc2, Sf2, Sc3, Sf3, Sc4, Sf4, Sc5, Sf5⟩ := cf6 HS409.out
  obtain ⟨Xc0, Xf0, Xc1, Xf1, Xc2, Xf2, Xc3, Xf3, Xc4, Xf4, Xc5, Xf5, Xc6, Xf6, Xc7, Xf7, Xc8, Xf8⟩ := cf9 HX410.out
  obtain ⟨Yc0, Yf0, Yc1, Yf1, Yc2, Yf2, Yc3, Yf3, Yc4, Yf4, Yc5, Yf5, Yc6, Yf6, Yc7, Yf7, Yc8, Yf8⟩ := cf9 HY408.out
  go_wp2_with fail
  refine (HNM.out _).mono ?_
  rintro e w413 ⟨rfl, hk⟩
  have HS414 := Lib.hid (((hk.out).block _ (lt_of_heap HS409.out) (fun x => x)).trans HS409.out)
  have HX415 := Lib.hid (((hk.out).block _ (lt_of_heap HX410.out) (fun x => x)).trans HX410.out)
  have HY416 := Lib.hid (((hk.out).block _ (lt_of_heap HY408.out) (fun x => x)).trans HY408.out)
  have HS417 := Lib.hid (HS411.out.keeps hk.out (fun x => x))
  have HK418 := Lib.hid (HK412.out.trans (hk.out.mono (fun _ _ x => x.elim)))
  clear Sc0 Sf0 Sc1 Sf1 Sc2 Sf2 Sc3 Sf3 Sc4 Sf4 Sc5 Sf5 Xc0 Xf0 Xc1 Xf1 Xc2 Xf2 Xc3 Xf3 Xc4 Xf4 Xc5 Xf5 Xc6 Xf6 Xc7 Xf7 Xc8 Xf8 Yc0 Yf0 Yc1 Yf1 Yc2 Yf2 Yc3 Yf3 Yc4 Yf4 Yc5 Yf5 Yc6 Yf6 Yc7 Yf7 Yc8 Yf8
  clear hk HS409 HX410 HY408 HS411 HK412
  clear HNM
  obtain ⟨Sc0, Sf0, Sc1, Sf1, Sc2, Sf2, Sc3, Sf3, Sc4, Sf4, Sc5, Sf5⟩ := cf6 HS414.out
  obtain ⟨Xc0, Xf0, Xc1, Xf1, Xc2, Xf2, Xc3, Xf3, Xc4, Xf4, Xc5, Xf5, Xc6, Xf6, Xc7, Xf7, Xc8, Xf8⟩ := cf9 HX415.out
  obtain ⟨Yc0, Yf0, Yc1, Yf1, Yc2, Yf2, Yc3, Yf3, Yc4, Yf4, Yc5, Yf5, Yc6, Yf6, Yc7, Yf7, Yc8, Yf8⟩ := cf9 HY416.out
  obtain ⟨hs0, hkE⟩ := sx9 HX415.out (.int .i64 nk) (.string ⟨nh1.toArray⟩) (.string ⟨nh2.toArray⟩) (.string ⟨no.toArray⟩) (.string ⟨na1.toArray⟩) (.string ⟨na2.toArray⟩) (.string ⟨nb1.toArray⟩) (.string ⟨nb2.toArray⟩) (.string ⟨ni.toArray⟩)
  have HX419 := Lib.hid hs0
  have HS420 := Lib.hid (((hkE).block _ (lt_of_heap HS414.out) (by have := HN371.out; show ¬ _ = _; omega)).trans HS414.out)
  have HY421 := Lib.hid (((hkE).block _ (lt_of_heap HY416.out) (by have := HN371.out; show ¬ _ = _; omega)).trans HY416.out)
  have HS422 := Lib.hid (HS417.out.keeps hkE (by have := HN371.out; show ¬ _ = _; omega))
  have HK423 := Lib.hid (HK418.out.trans_new hkE (fun q hq e => by have := HN371.out; omega))
  clear hkE hs0 HX415 HS414 HY416 HS417 HK418
  go_wp2_with fail
  clear Sc0 Sf0 Sc1 Sf1 Sc2 Sf2 Sc3 Sf3 Sc4 Sf4 Sc5 Sf5 Xc0 Xf0 Xc1 Xf1 Xc2 Xf2 Xc3 Xf3 Xc4 Xf4 Xc5 Xf5 Xc6 Xf6 Xc7 Xf7 Xc8 Xf8 Yc0 Yf0 Yc1 Yf1 Yc2 Yf2 Yc3 Yf3 Yc4 Yf4 Yc5 Yf5 Yc6 Yf6 Yc7 Yf7 Yc8 Yf8
  generalize (((((((((w413.setCell ⟨WA.heap.size, 0, none⟩ (.int .i64 nk)).setCell ⟨WA.heap.size, 1, none⟩ (.string ⟨nh1.toArray⟩)).setCell ⟨WA.heap.size, 2, none⟩ (.string ⟨nh2.toArray⟩)).setCell ⟨WA.heap.size, 3, none⟩ (.string ⟨no.toArray⟩)).setCell ⟨WA.heap.size, 4, none⟩ (.string ⟨na1.toArray⟩)).setCell ⟨WA.heap.size, 5, none⟩ (.string ⟨na2.toArray⟩)).setCell ⟨WA.heap.size, 6, none⟩ (.string ⟨nb1.toArray⟩)).setCell ⟨WA.heap.size, 7, none⟩ (.string ⟨nb2.toArray⟩)).setCell ⟨WA.heap.size, 8, none⟩ (.string ⟨ni.toArray⟩)) = WE at *
  obtain ⟨Xc0, Xf0, Xc1, Xf1, Xc2, Xf2, Xc3, Xf3, Xc4, Xf4, Xc5, Xf5, Xc6, Xf6, Xc7, Xf7, Xc8, Xf8⟩ := cf9 HX419.out
  refine bodyPost_ret (v := .agg #[.int .i64 nk, .string ⟨nh1.toArray⟩, .string ⟨nh2.toArray⟩, .string ⟨no.toArray⟩, .string ⟨na1.toArray⟩, .string ⟨na2.toArray⟩, .string ⟨nb1.toArray⟩, .string ⟨nb2.toArray⟩, .string ⟨ni.toArray⟩]) (by simp [results, Tryz.results13, go_sem, *]) rfl ?_
  exact ⟨rfl, HS422.out, HK423.out⟩
end
end Go.Proofs.YtcdfpnlaklaafaaGreat
