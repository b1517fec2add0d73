/-
 A statement's normal form: the program's and the document's.
-/
import Derived.Test.YtcdfpnlaklaafaaGreatStmOrder
import Derived.Test.YtcdfpnlaklaafaaGreatDrillPlain
set_option linter.unusedVariables false
set_option linter.unusedSimpArgs false
set_option linter.unnecessarySimpa false
namespace Go.Proofs.YtcdfpnlaklaafaaGreat
open Go.ChangeShapes Go.WideShapes Go.ChangeAt Go.RowKit Go.Deep
/-- A statement's value. -/
def stmV (s : Stm) : Value := .agg #[.int .i64 s.2.1, .string ⟨s.1.1.toArray⟩, .string ⟨s.1.2.toArray⟩, .string ⟨s.2.2.1.toArray⟩, .string ⟨s.2.2.2.1.1.toArray⟩, .string ⟨s.2.2.2.1.2.toArray⟩, .string ⟨s.2.2.2.2.1.1.toArray⟩, .string ⟨s.2.2.2.2.1.2.toArray⟩, .string ⟨s.2.2.2.2.2.toArray⟩]
section
variable {W : World} {T : TypeId}
theorem cells9 {B : Nat} {u0 u1 u2 u3 u4 u5 u6 u7 u8 : Value} (h : W.heap[B]? = some (.cells #[u0, u1, u2, u3, u4, u5, u6, u7, u8] T)) : W.cell? ⟨B, 0, none⟩ = some u0 ∧ W.cell? ⟨B, 1, none⟩ = some u1 ∧ W.cell? ⟨B, 2, none⟩ = some u2 ∧ W.cell? ⟨B, 3, none⟩ = some u3 ∧ W.cell? ⟨B, 4, none⟩ = some u4 ∧ W.cell? ⟨B, 5, none⟩ = some u5 ∧ W.cell? ⟨B, 6, none⟩ = some u6 ∧ W.cell? ⟨B, 7, none⟩ = some u7 ∧ W.cell? ⟨B, 8, none⟩ = some u8 := by
 refine ⟨?_, ?_, ?_, ?_, ?_, ?_, ?_, ?_, ?_⟩ <;> (rw [cell_of_heap h]; rfl)
theorem frozen9 {B : Nat} {u0 u1 u2 u3 u4 u5 u6 u7 u8 : Value} (h : W.heap[B]? = some (.cells #[u0, u1, u2, u3, u4, u5, u6, u7, u8] T)) : W.frozen? ⟨B, 0, none⟩ = false ∧ W.frozen? ⟨B, 1, none⟩ = false ∧ W.frozen? ⟨B, 2, none⟩ = false ∧ W.frozen? ⟨B, 3, none⟩ = false ∧ W.frozen? ⟨B, 4, none⟩ = false ∧ W.frozen? ⟨B, 5, none⟩ = false ∧ W.frozen? ⟨B, 6, none⟩ = false ∧ W.frozen? ⟨B, 7, none⟩ = false ∧ W.frozen? ⟨B, 8, none⟩ = false := ⟨Lib.frozen_of_heap h 0, Lib.frozen_of_heap h 1, Lib.frozen_of_heap h 2, Lib.frozen_of_heap h 3, Lib.frozen_of_heap h 4, Lib.frozen_of_heap h 5, Lib.frozen_of_heap h 6, Lib.frozen_of_heap h 7, Lib.frozen_of_heap h 8⟩
set_option maxHeartbeats 1600000 in
theorem set9 {B : Nat} {u0 u1 u2 u3 u4 u5 u6 u7 u8 : Value} (h : W.heap[B]? = some (.cells #[u0, u1, u2, u3, u4, u5, u6, u7, u8] T)) (v0 v1 v2 v3 v4 v5 v6 v7 v8 : Value) :
  (((((((((W.setCell ⟨B, 0, none⟩ v0).setCell ⟨B, 1, none⟩ v1).setCell ⟨B, 2, none⟩ v2).setCell ⟨B, 3, none⟩ v3).setCell ⟨B, 4, none⟩ v4).setCell ⟨B, 5, none⟩ v5).setCell ⟨B, 6, none⟩ v6).setCell ⟨B, 7, none⟩ v7).setCell ⟨B, 8, none⟩ v8).heap[B]? = some (.cells #[v0, v1, v2, v3, v4, v5, v6, v7, v8] T) ∧ Keeps (fun q => q = B) W (((((((((W.setCell ⟨B, 0, none⟩ v0).setCell ⟨B, 1, none⟩ v1).setCell ⟨B, 2, none⟩ v2).setCell ⟨B, 3, none⟩ v3).setCell ⟨B, 4, none⟩ v4).setCell ⟨B, 5, none⟩ v5).setCell ⟨B, 6, none⟩ v6).setCell ⟨B, 7, none⟩ v7).setCell ⟨B, 8, none⟩ v8) :=
 by
 have s0 : (W.setCell ⟨B, 0, none⟩ v0).heap[B]? = some (.cells #[v0, u1, u2, u3, u4, u5, u6, u7, u8] T) := heap_set h 0 v0
 have s1 : ((W.setCell ⟨B, 0, none⟩ v0).setCell ⟨B, 1, none⟩ v1).heap[B]? = some (.cells #[v0, v1, u2, u3, u4, u5, u6, u7, u8] T) := heap_set s0 1 v1
 have s2 : (((W.setCell ⟨B, 0, none⟩ v0).setCell ⟨B, 1, none⟩ v1).setCell ⟨B, 2, none⟩ v2).heap[B]? = some (.cells #[v0, v1, v2, u3, u4, u5, u6, u7, u8] T) := heap_set s1 2 v2
 have s3 : ((((W.setCell ⟨B, 0, none⟩ v0).setCell ⟨B, 1, none⟩ v1).setCell ⟨B, 2, none⟩ v2).setCell ⟨B, 3, none⟩ v3).heap[B]? = some (.cells #[v0, v1, v2, v3, u4, u5, u6, u7, u8] T) := heap_set s2 3 v3
 have s4 : (((((W.setCell ⟨B, 0, none⟩ v0).setCell ⟨B, 1, none⟩ v1).setCell ⟨B, 2, none⟩ v2).setCell ⟨B, 3, none⟩ v3).setCell ⟨B, 4, none⟩ v4).heap[B]? = some (.cells #[v0, v1, v2, v3, v4, u5, u6, u7, u8] T) := heap_set s3 4 v4
 have s5 : ((((((W.setCell ⟨B, 0, none⟩ v0).setCell ⟨B, 1, none⟩ v1).setCell ⟨B, 2, none⟩ v2).setCell ⟨B, 3, none⟩ v3).setCell ⟨B, 4, none⟩ v4).setCell ⟨B, 5, none⟩ v5).heap[B]? = some (.cells #[v0, v1, v2, v3, v4, v5, u6, u7, u8] T) := heap_set s4 5 v5
 have s6 : (((((((W.setCell ⟨B, 0, none⟩ v0).setCell ⟨B, 1, none⟩ v1).setCell ⟨B, 2, none⟩ v2).setCell ⟨B, 3, none⟩ v3).setCell ⟨B, 4, none⟩ v4).setCell ⟨B, 5, none⟩ v5).setCell ⟨B, 6, none⟩ v6).heap[B]? = some (.cells #[v0, v1, v2, v3, v4, v5, v6, u7, u8] T) := heap_set s5 6 v6
 have s7 : ((((((((W.setCell ⟨B, 0, none⟩ v0).setCell ⟨B, 1, none⟩ v1).setCell ⟨B, 2, none⟩ v2).setCell ⟨B, 3, none⟩ v3).setCell ⟨B, 4, none⟩ v4).setCell ⟨B, 5, none⟩ v5).setCell ⟨B, 6, none⟩ v6).setCell ⟨B, 7, none⟩ v7).heap[B]? = some (.cells #[v0, v1, v2, v3, v4, v5, v6, v7, u8] T) := heap_set s6 7 v7
 have s8 : (((((((((W.setCell ⟨B, 0, none⟩ v0).setCell ⟨B, 1, none⟩ v1).setCell ⟨B, 2, none⟩ v2).setCell ⟨B, 3, none⟩ v3).setCell ⟨B, 4, none⟩ v4).setCell ⟨B, 5, none⟩ v5).setCell ⟨B, 6, none⟩ v6).setCell ⟨B, 7, none⟩ v7).setCell ⟨B, 8, none⟩ v8).heap[B]? = some (.cells #[v0, v1, v2, v3, v4, v5, v6, v7, v8] T) := heap_set s7 8 v8
 exact ⟨s8, (Keeps.setCell (S := fun q => q = B) (Keeps.setCell (S := fun q => q = B) (Keeps.setCell (S := fun q => q = B) (Keeps.setCell (S := fun q => q = B) (Keeps.setCell (S := fun q => q = B) (Keeps.setCell (S := fun q => q = B) (Keeps.setCell (S := fun q => q = B) (Keeps.setCell (S := fun q => q = B) (Keeps.setCell (S := fun q => q = B) (Keeps.refl _ _) (p := ⟨B, 0, none⟩) (fun _ => rfl) _) (p := ⟨B, 1, none⟩) (fun _ => rfl) _) (p := ⟨B, 2, none⟩) (fun _ => rfl) _) (p := ⟨B, 3, none⟩) (fun _ => rfl) _) (p := ⟨B, 4, none⟩) (fun _ => rfl) _) (p := ⟨B, 5, none⟩) (fun _ => rfl) _) (p := ⟨B, 6, none⟩) (fun _ => rfl) _) (p := ⟨B, 7, none⟩) (fun _ => rfl) _) (p := ⟨B, 8, none⟩) (fun _ => rfl) _)⟩
set_option maxRecDepth 100000
set_option maxHeartbeats 3200000
theorem snorm_spec (s : Stm) : Calls Tryz.prog 31 #[stmV s] W fun e W' => e = .returned (stmV (normS s)) ∧ Hid (Keeps (fun _ => False) W W') := by
 obtain ⟨⟨h1, h2⟩, k, o, ⟨a1, a2⟩, ⟨b1, b2⟩, i⟩ := s
 obtain ⟨WA, hWA⟩ : ∃ WA, W.alloc (.cells #[.int .i64 k, .string ⟨h1.toArray⟩, .string ⟨h2.toArray⟩, .string ⟨o.toArray⟩, .string ⟨a1.toArray⟩, .string ⟨a2.toArray⟩, .string ⟨b1.toArray⟩, .string ⟨b2.toArray⟩, .string ⟨i.toArray⟩] 44) = WA := ⟨_, rfl⟩
 have hal := (MapKept.heap_alloc W (.cells #[.int .i64 k, .string ⟨h1.toArray⟩, .string ⟨h2.toArray⟩, .string ⟨o.toArray⟩, .string ⟨a1.toArray⟩, .string ⟨a2.toArray⟩, .string ⟨b1.toArray⟩, .string ⟨b2.toArray⟩, .string ⟨i.toArray⟩] 44)).1
 have hkA : Keeps (fun _ => False) W WA := by rw [← hWA]; exact (Keeps.refl _ _).alloc _
 have hsz : WA.heap.size = W.heap.size + 1 := by rw [← hWA]; simp
 rw [hWA] at hal
 obtain ⟨WB, hWB⟩ : ∃ WB, WA.alloc (.cells #[.int .i64 0, .string ⟨#[]⟩, .string ⟨#[]⟩, .string ⟨#[]⟩, .string ⟨#[]⟩, .string ⟨#[]⟩, .string ⟨#[]⟩, .string ⟨#[]⟩, .string ⟨#[]⟩] 44) = WB := ⟨_, rfl⟩
 have hal2 := (MapKept.heap_alloc WA (.cells #[.int .i64 0, .string ⟨#[]⟩, .string ⟨#[]⟩, .string ⟨#[]⟩, .string ⟨#[]⟩, .string ⟨#[]⟩, .string ⟨#[]⟩, .string ⟨#[]⟩, .string ⟨#[]⟩] 44)).1
 have hkB : Keeps (fun _ => False) WA WB := by rw [← hWB]; exact (Keeps.refl _ _).alloc _
 rw [hWB] at hal2
 have halB := (hkB.block _ (lt_of_heap hal) (fun x => x)).trans hal
 have HKB : Hid (Keeps (fun _ => False) W WB) := hkA.trans hkB
 have HN : Hid (WA.heap.size = W.heap.size + 1) := hsz
 have HA := Lib.hid halB
 have HB := Lib.hid hal2
 clear hal halB hal2 hkA hkB hsz
 by_cases h4 : k = 4
 ·have HL : Hid (∀ W : World, Calls Tryz.prog 48 #[.agg #[.string ⟨b1.toArray⟩, .string ⟨b2.toArray⟩], .agg #[.string ⟨a1.toArray⟩, .string ⟨a2.toArray⟩]] W fun e W' => e = .returned (.bool (decide (rolLt (b1, b2) (a1, a2)))) ∧ Hid (Keeps (fun _ => False) W W')) := fun W => sless_spec (b1, b2) (a1, a2)
  by_cases hlt : rolLt (b1, b2) (a1, a2)
  ·rw [decide_eq_true hlt] at HL
   have HE : Hid (normS ((h1, h2), k, o, (a1, a2), (b1, b2), i) = ((h1, h2), k, o, (b1, b2), (a1, a2), i)) := by show _ = _; unfold normS; exact if_pos ⟨h4, hlt⟩
   rw [HE.out]
   subst h4
   clear hlt HE
   obtain ⟨p0, p1, p2, p3, p4, p5, p6, p7, p8⟩ := cells9 HA.out
   unfold stmV
   go_enter Tryz.func31, Tryz.ntmps31
   go_wp2_with fail
   refine (HL.out _).mono ?_
   rintro e w1 ⟨rfl, hk1⟩
   have HA1 := Lib.hid ((hk1.out.block _ (lt_of_heap HA.out) (fun x => x)).trans HA.out)
   have HB1 := Lib.hid ((hk1.out.block _ (lt_of_heap HB.out) (fun x => x)).trans HB.out)
   have HK1 := Lib.hid (HKB.out.trans hk1.out)
   clear HL HA HB HKB hk1 p0 p1 p2 p3 p4 p5 p6 p7 p8 hWA hWB
   obtain ⟨p0, p1, p2, p3, p4, p5, p6, p7, p8⟩ := cells9 HA1.out
   obtain ⟨f0, f1, f2, f3, f4, f5, f6, f7, f8⟩ := frozen9 HA1.out
   obtain ⟨q0, q1, q2, q3, q4, q5, q6, q7, q8⟩ := cells9 HB1.out
   obtain ⟨g0, g1, g2, g3, g4, g5, g6, g7, g8⟩ := frozen9 HB1.out
   have hne : ¬ WA.heap.size = W.heap.size := by have := HN.out; omega
   have hne2 : ¬ W.heap.size = WA.heap.size := by have := HN.out; omega
   go_upto_region 3 with fail
   have hs1 : ((((w1.setCell ⟨W.heap.size, 4, none⟩ (.string ⟨b1.toArray⟩)).setCell ⟨W.heap.size, 5, none⟩ (.string ⟨b2.toArray⟩)).setCell ⟨W.heap.size, 6, none⟩ (.string ⟨a1.toArray⟩)).setCell ⟨W.heap.size, 7, none⟩ (.string ⟨a2.toArray⟩)).heap[W.heap.size]? = some (.cells #[.int .i64 4, .string ⟨h1.toArray⟩, .string ⟨h2.toArray⟩, .string ⟨o.toArray⟩, .string ⟨b1.toArray⟩, .string ⟨b2.toArray⟩, .string ⟨a1.toArray⟩, .string ⟨a2.toArray⟩, .string ⟨i.toArray⟩] 44) := by
    have s0 := heap_set HA1.out 4 (.string ⟨b1.toArray⟩)
    have s1 := heap_set s0 5 (.string ⟨b2.toArray⟩)
    have s2 := heap_set s1 6 (.string ⟨a1.toArray⟩)
    exact heap_set s2 7 (.string ⟨a2.toArray⟩)
   have hkS : Keeps (fun q => q = W.heap.size) w1 ((((w1.setCell ⟨W.heap.size, 4, none⟩ (.string ⟨b1.toArray⟩)).setCell ⟨W.heap.size, 5, none⟩ (.string ⟨b2.toArray⟩)).setCell ⟨W.heap.size, 6, none⟩ (.string ⟨a1.toArray⟩)).setCell ⟨W.heap.size, 7, none⟩ (.string ⟨a2.toArray⟩)) := Keeps.setCell (S := fun q => q = W.heap.size) (Keeps.setCell (S := fun q => q = W.heap.size) (Keeps.setCell (S := fun q => q = W.heap.size) (Keeps.setCell (S := fun q => q = W.heap.size) (Keeps.refl _ _) (p := ⟨W.heap.size, 4, none⟩) (fun _ => rfl) _) (p := ⟨W.heap.size, 5, none⟩) (fun _ => rfl) _) (p := ⟨W.heap.size, 6, none⟩) (fun _ => rfl) _) (p := ⟨W.heap.size, 7, none⟩) (fun _ => rfl) _
   have HB2 := Lib.hid ((hkS.block _ (lt_of_heap HB1.out) hne).trans HB1.out)
   have HA2 := Lib.hid hs1
   have HK2 : Hid (Keeps (fun _ => False) W ((((w1.setCell ⟨W.heap.size, 4, none⟩ (.string ⟨b1.toArray⟩)).setCell ⟨W.heap.size, 5, none⟩ (.string ⟨b2.toArray⟩)).setCell ⟨W.heap.size, 6, none⟩ (.string ⟨a1.toArray⟩)).setCell ⟨W.heap.size, 7, none⟩ (.string ⟨a2.toArray⟩))) := HK1.out.trans_new hkS (fun q hq e => by omega)
   clear p0 p1 p2 p3 p4 p5 p6 p7 p8 f0 f1 f2 f3 f4 f5 f6 f7 f8 q0 q1 q2 q3 q4 q5 q6 q7 q8 g0 g1 g2 g3 g4 g5 g6 g7 g8 hs1 hkS HA1 HB1 HK1
   generalize ((((w1.setCell ⟨W.heap.size, 4, none⟩ (.string ⟨b1.toArray⟩)).setCell ⟨W.heap.size, 5, none⟩ (.string ⟨b2.toArray⟩)).setCell ⟨W.heap.size, 6, none⟩ (.string ⟨a1.toArray⟩)).setCell ⟨W.heap.size, 7, none⟩ (.string ⟨a2.toArray⟩)) = w2 at *
   obtain ⟨p0, p1, p2, p3, p4, p5, p6, p7, p8⟩ := cells9 HA2.out
   obtain ⟨q0, q1, q2, q3, q4, q5, q6, q7, q8⟩ := cells9 HB2.out
   obtain ⟨g0, g1, g2, g3, g4, g5, g6, g7, g8⟩ := frozen9 HB2.out
   obtain ⟨e1, e2⟩ := set9 HB2.out (.int .i64 4) (.string ⟨h1.toArray⟩) (.string ⟨h2.toArray⟩) (.string ⟨o.toArray⟩) (.string ⟨b1.toArray⟩) (.string ⟨b2.toArray⟩) (.string ⟨a1.toArray⟩) (.string ⟨a2.toArray⟩) (.string ⟨i.toArray⟩)
   have HKE : Hid (Keeps (fun _ => False) W (((((((((w2.setCell ⟨WA.heap.size, 0, none⟩ (.int .i64 4)).setCell ⟨WA.heap.size, 1, none⟩ (.string ⟨h1.toArray⟩)).setCell ⟨WA.heap.size, 2, none⟩ (.string ⟨h2.toArray⟩)).setCell ⟨WA.heap.size, 3, none⟩ (.string ⟨o.toArray⟩)).setCell ⟨WA.heap.size, 4, none⟩ (.string ⟨b1.toArray⟩)).setCell ⟨WA.heap.size, 5, none⟩ (.string ⟨b2.toArray⟩)).setCell ⟨WA.heap.size, 6, none⟩ (.string ⟨a1.toArray⟩)).setCell ⟨WA.heap.size, 7, none⟩ (.string ⟨a2.toArray⟩)).setCell ⟨WA.heap.size, 8, none⟩ (.string ⟨i.toArray⟩))) := HK2.out.trans_new e2 (fun q hq e => by have := HN.out; omega)
   have HE1 := Lib.hid e1
   clear e1 e2 HA2 HB2 HK2
   go_wp2_with fail
   clear p0 p1 p2 p3 p4 p5 p6 p7 p8 q0 q1 q2 q3 q4 q5 q6 q7 q8 g0 g1 g2 g3 g4 g5 g6 g7 g8 hne hne2
   generalize (((((((((w2.setCell ⟨WA.heap.size, 0, none⟩ (.int .i64 4)).setCell ⟨WA.heap.size, 1, none⟩ (.string ⟨h1.toArray⟩)).setCell ⟨WA.heap.size, 2, none⟩ (.string ⟨h2.toArray⟩)).setCell ⟨WA.heap.size, 3, none⟩ (.string ⟨o.toArray⟩)).setCell ⟨WA.heap.size, 4, none⟩ (.string ⟨b1.toArray⟩)).setCell ⟨WA.heap.size, 5, none⟩ (.string ⟨b2.toArray⟩)).setCell ⟨WA.heap.size, 6, none⟩ (.string ⟨a1.toArray⟩)).setCell ⟨WA.heap.size, 7, none⟩ (.string ⟨a2.toArray⟩)).setCell ⟨WA.heap.size, 8, none⟩ (.string ⟨i.toArray⟩)) = WE at *
   obtain ⟨d0, d1, d2, d3, d4, d5, d6, d7, d8⟩ := cells9 HE1.out
   refine bodyPost_ret (v := .agg #[.int .i64 4, .string ⟨h1.toArray⟩, .string ⟨h2.toArray⟩, .string ⟨o.toArray⟩, .string ⟨b1.toArray⟩, .string ⟨b2.toArray⟩, .string ⟨a1.toArray⟩, .string ⟨a2.toArray⟩, .string ⟨i.toArray⟩]) (by simp [results, Tryz.results31, go_sem, *]) rfl ?_
   exact ⟨rfl, HKE⟩
  ·rw [decide_eq_false hlt] at HL
   have HE : Hid (normS ((h1, h2), k, o, (a1, a2), (b1, b2), i) = ((h1, h2), k, o, (a1, a2), (b1, b2), i)) := by show _ = _; unfold normS; exact if_neg (fun h => hlt h.2)
   rw [HE.out]
   subst h4
   clear hlt HE
   obtain ⟨p0, p1, p2, p3, p4, p5, p6, p7, p8⟩ := cells9 HA.out
   unfold stmV
   go_enter Tryz.func31, Tryz.ntmps31
   go_wp2_with fail
   refine (HL.out _).mono ?_
   rintro e w2 ⟨rfl, hk1⟩
   have HA2 := Lib.hid ((hk1.out.block _ (lt_of_heap HA.out) (fun x => x)).trans HA.out)
   have HB2 := Lib.hid ((hk1.out.block _ (lt_of_heap HB.out) (fun x => x)).trans HB.out)
   have HK2 := Lib.hid (HKB.out.trans hk1.out)
   have hne : ¬ WA.heap.size = W.heap.size := by have := HN.out; omega
   have hne2 : ¬ W.heap.size = WA.heap.size := by have := HN.out; omega
   clear HL HA HB HKB hk1 p0 p1 p2 p3 p4 p5 p6 p7 p8 hWA hWB
   obtain ⟨p0, p1, p2, p3, p4, p5, p6, p7, p8⟩ := cells9 HA2.out
   obtain ⟨q0, q1, q2, q3, q4, q5, q6, q7, q8⟩ := cells9 HB2.out
   obtain ⟨g0, g1, g2, g3, g4, g5, g6, g7, g8⟩ := frozen9 HB2.out
   obtain ⟨e1, e2⟩ := set9 HB2.out (.int .i64 4) (.string ⟨h1.toArray⟩) (.string ⟨h2.toArray⟩) (.string ⟨o.toArray⟩) (.string ⟨a1.toArray⟩) (.string ⟨a2.toArray⟩) (.string ⟨b1.toArray⟩) (.string ⟨b2.toArray⟩) (.string ⟨i.toArray⟩)
   have HKE : Hid (Keeps (fun _ => False) W (((((((((w2.setCell ⟨WA.heap.size, 0, none⟩ (.int .i64 4)).setCell ⟨WA.heap.size, 1, none⟩ (.string ⟨h1.toArray⟩)).setCell ⟨WA.heap.size, 2, none⟩ (.string ⟨h2.toArray⟩)).setCell ⟨WA.heap.size, 3, none⟩ (.string ⟨o.toArray⟩)).setCell ⟨WA.heap.size, 4, none⟩ (.string ⟨a1.toArray⟩)).setCell ⟨WA.heap.size, 5, none⟩ (.string ⟨a2.toArray⟩)).setCell ⟨WA.heap.size, 6, none⟩ (.string ⟨b1.toArray⟩)).setCell ⟨WA.heap.size, 7, none⟩ (.string ⟨b2.toArray⟩)).setCell ⟨WA.heap.size, 8, none⟩ (.string ⟨i.toArray⟩))) := HK2.out.trans_new e2 (fun q hq e => by have := HN.out; omega)
   have HE1 := Lib.hid e1
   clear e1 e2 HA2 HB2 HK2
   go_wp2_with fail
   clear p0 p1 p2 p3 p4 p5 p6 p7 p8 q0 q1 q2 q3 q4 q5 q6 q7 q8 g0 g1 g2 g3 g4 g5 g6 g7 g8 hne hne2
   generalize (((((((((w2.setCell ⟨WA.heap.size, 0, none⟩ (.int .i64 4)).setCell ⟨WA.heap.size, 1, none⟩ (.string ⟨h1.toArray⟩)).setCell ⟨WA.heap.size, 2, none⟩ (.string ⟨h2.toArray⟩)).setCell ⟨WA.heap.size, 3, none⟩ (.string ⟨o.toArray⟩)).setCell ⟨WA.heap.size, 4, none⟩ (.string ⟨a1.toArray⟩)).setCell ⟨WA.heap.size, 5, none⟩ (.string ⟨a2.toArray⟩)).setCell ⟨WA.heap.size, 6, none⟩ (.string ⟨b1.toArray⟩)).setCell ⟨WA.heap.size, 7, none⟩ (.string ⟨b2.toArray⟩)).setCell ⟨WA.heap.size, 8, none⟩ (.string ⟨i.toArray⟩)) = WE at *
   obtain ⟨d0, d1, d2, d3, d4, d5, d6, d7, d8⟩ := cells9 HE1.out
   refine bodyPost_ret (v := .agg #[.int .i64 4, .string ⟨h1.toArray⟩, .string ⟨h2.toArray⟩, .string ⟨o.toArray⟩, .string ⟨a1.toArray⟩, .string ⟨a2.toArray⟩, .string ⟨b1.toArray⟩, .string ⟨b2.toArray⟩, .string ⟨i.toArray⟩]) (by simp [results, Tryz.results31, go_sem, *]) rfl ?_
   exact ⟨rfl, HKE⟩
 ·have HE : Hid (normS ((h1, h2), k, o, (a1, a2), (b1, b2), i) = ((h1, h2), k, o, (a1, a2), (b1, b2), i)) := by show _ = _; unfold normS; exact if_neg (fun h => h4 h.1)
  rw [HE.out]
  have h4b : (k == 4) = false := by simpa using h4
  clear HE h4
  have hne : ¬ WA.heap.size = W.heap.size := by have := HN.out; omega
  have hne2 : ¬ W.heap.size = WA.heap.size := by have := HN.out; omega
  obtain ⟨p0, p1, p2, p3, p4, p5, p6, p7, p8⟩ := cells9 HA.out
  unfold stmV
  go_enter Tryz.func31, Tryz.ntmps31
  go_upto_region 3 with fail
  have HA2 := HA
  have HB2 := HB
  have HK2 := HKB
  clear HA HB HKB p0 p1 p2 p3 p4 p5 p6 p7 p8
  clear hWA hWB
  generalize WB = w2 at *
  obtain ⟨p0, p1, p2, p3, p4, p5, p6, p7, p8⟩ := cells9 HA2.out
  obtain ⟨q0, q1, q2, q3, q4, q5, q6, q7, q8⟩ := cells9 HB2.out
  obtain ⟨g0, g1, g2, g3, g4, g5, g6, g7, g8⟩ := frozen9 HB2.out
  obtain ⟨e1, e2⟩ := set9 HB2.out (.int .i64 k) (.string ⟨h1.toArray⟩) (.string ⟨h2.toArray⟩) (.string ⟨o.toArray⟩) (.string ⟨a1.toArray⟩) (.string ⟨a2.toArray⟩) (.string ⟨b1.toArray⟩) (.string ⟨b2.toArray⟩) (.string ⟨i.toArray⟩)
  have HKE : Hid (Keeps (fun _ => False) W (((((((((w2.setCell ⟨WA.heap.size, 0, none⟩ (.int .i64 k)).setCell ⟨WA.heap.size, 1, none⟩ (.string ⟨h1.toArray⟩)).setCell ⟨WA.heap.size, 2, none⟩ (.string ⟨h2.toArray⟩)).setCell ⟨WA.heap.size, 3, none⟩ (.string ⟨o.toArray⟩)).setCell ⟨WA.heap.size, 4, none⟩ (.string ⟨a1.toArray⟩)).setCell ⟨WA.heap.size, 5, none⟩ (.string ⟨a2.toArray⟩)).setCell ⟨WA.heap.size, 6, none⟩ (.string ⟨b1.toArray⟩)).setCell ⟨WA.heap.size, 7, none⟩ (.string ⟨b2.toArray⟩)).setCell ⟨WA.heap.size, 8, none⟩ (.string ⟨i.toArray⟩))) := HK2.out.trans_new e2 (fun q hq e => by have := HN.out; omega)
  have HE1 := Lib.hid e1
  clear e1 e2 HA2 HB2 HK2
  go_wp2_with fail
  clear p0 p1 p2 p3 p4 p5 p6 p7 p8 q0 q1 q2 q3 q4 q5 q6 q7 q8 g0 g1 g2 g3 g4 g5 g6 g7 g8 hne hne2
  generalize (((((((((w2.setCell ⟨WA.heap.size, 0, none⟩ (.int .i64 k)).setCell ⟨WA.heap.size, 1, none⟩ (.string ⟨h1.toArray⟩)).setCell ⟨WA.heap.size, 2, none⟩ (.string ⟨h2.toArray⟩)).setCell ⟨WA.heap.size, 3, none⟩ (.string ⟨o.toArray⟩)).setCell ⟨WA.heap.size, 4, none⟩ (.string ⟨a1.toArray⟩)).setCell ⟨WA.heap.size, 5, none⟩ (.string ⟨a2.toArray⟩)).setCell ⟨WA.heap.size, 6, none⟩ (.string ⟨b1.toArray⟩)).setCell ⟨WA.heap.size, 7, none⟩ (.string ⟨b2.toArray⟩)).setCell ⟨WA.heap.size, 8, none⟩ (.string ⟨i.toArray⟩)) = WE at *
  obtain ⟨d0, d1, d2, d3, d4, d5, d6, d7, d8⟩ := cells9 HE1.out
  refine bodyPost_ret (v := .agg #[.int .i64 k, .string ⟨h1.toArray⟩, .string ⟨h2.toArray⟩, .string ⟨o.toArray⟩, .string ⟨a1.toArray⟩, .string ⟨a2.toArray⟩, .string ⟨b1.toArray⟩, .string ⟨b2.toArray⟩, .string ⟨i.toArray⟩]) (by simp [results, Tryz.results31, go_sem, *]) rfl ?_
  exact ⟨rfl, HKE⟩
theorem rnorm_spec (s : Stm) : Calls Tryz.prog 30 #[stmV s] W fun e W' => e = .returned (stmV (normS s)) ∧ Hid (Keeps (fun _ => False) W W') := by
 obtain ⟨⟨h1, h2⟩, k, o, ⟨a1, a2⟩, ⟨b1, b2⟩, i⟩ := s
 obtain ⟨WA, hWA⟩ : ∃ WA, W.alloc (.cells #[.int .i64 k, .string ⟨h1.toArray⟩, .string ⟨h2.toArray⟩, .string ⟨o.toArray⟩, .string ⟨a1.toArray⟩, .string ⟨a2.toArray⟩, .string ⟨b1.toArray⟩, .string ⟨b2.toArray⟩, .string ⟨i.toArray⟩] 44) = WA := ⟨_, rfl⟩
 have hal := (MapKept.heap_alloc W (.cells #[.int .i64 k, .string ⟨h1.toArray⟩, .string ⟨h2.toArray⟩, .string ⟨o.toArray⟩, .string ⟨a1.toArray⟩, .string ⟨a2.toArray⟩, .string ⟨b1.toArray⟩, .string ⟨b2.toArray⟩, .string ⟨i.toArray⟩] 44)).1
 have hkA : Keeps (fun _ => False) W WA := by rw [← hWA]; exact (Keeps.refl _ _).alloc _
 have hsz : WA.heap.size = W.heap.size + 1 := by rw [← hWA]; simp
 rw [hWA] at hal
 obtain ⟨WB, hWB⟩ : ∃ WB, WA.alloc (.cells #[.int .i64 0, .string ⟨#[]⟩, .string ⟨#[]⟩, .string ⟨#[]⟩, .string ⟨#[]⟩, .string ⟨#[]⟩, .string ⟨#[]⟩, .string ⟨#[]⟩, .string ⟨#[]⟩] 44) = WB := ⟨_, rfl⟩
 have hal2 := (MapKept.heap_alloc WA (.cells #[.int .i64 0, .string ⟨#[]⟩, .string ⟨#[]⟩, .string ⟨#[]⟩, .string ⟨#[]⟩, .string ⟨#[]⟩, .string ⟨#[]⟩, .string ⟨#[]⟩, .string ⟨#[]⟩] 44)).1
 have hkB : Keeps (fun _ => False) WA WB := by rw [← hWB]; exact (Keeps.refl _ _).alloc _
 rw [hWB] at hal2
 have halB := (hkB.block _ (lt_of_heap hal) (fun x => x)).trans hal
 have HKB : Hid (Keeps (fun _ => False) W WB) := hkA.trans hkB
 have HN : Hid (WA.heap.size = W.heap.size + 1) := hsz
 have HA := Lib.hid halB
 have HB := Lib.hid hal2
 clear hal halB hal2 hkA hkB hsz
 by_cases h4 : k = 4
 ·have HL : Hid (∀ W : World, Calls Tryz.prog 47 #[.agg #[.string ⟨b1.toArray⟩, .string ⟨b2.toArray⟩], .agg #[.string ⟨a1.toArray⟩, .string ⟨a2.toArray⟩]] W fun e W' => e = .returned (.bool (decide (rolLt (b1, b2) (a1, a2)))) ∧ Hid (Keeps (fun _ => False) W W')) := fun W => rless_spec (b1, b2) (a1, a2)
  by_cases hlt : rolLt (b1, b2) (a1, a2)
  ·rw [decide_eq_true hlt] at HL
   have HE : Hid (normS ((h1, h2), k, o, (a1, a2), (b1, b2), i) = ((h1, h2), k, o, (b1, b2), (a1, a2), i)) := by show _ = _; unfold normS; exact if_pos ⟨h4, hlt⟩
   rw [HE.out]
   subst h4
   clear hlt HE
   obtain ⟨p0, p1, p2, p3, p4, p5, p6, p7, p8⟩ := cells9 HA.out
   unfold stmV
   go_enter Tryz.func30, Tryz.ntmps30
   go_wp2_with fail
   refine (HL.out _).mono ?_
   rintro e w1 ⟨rfl, hk1⟩
   have HA1 := Lib.hid ((hk1.out.block _ (lt_of_heap HA.out) (fun x => x)).trans HA.out)
   have HB1 := Lib.hid ((hk1.out.block _ (lt_of_heap HB.out) (fun x => x)).trans HB.out)
   have HK1 := Lib.hid (HKB.out.trans hk1.out)
   clear HL HA HB HKB hk1 p0 p1 p2 p3 p4 p5 p6 p7 p8 hWA hWB
   obtain ⟨p0, p1, p2, p3, p4, p5, p6, p7, p8⟩ := cells9 HA1.out
   obtain ⟨f0, f1, f2, f3, f4, f5, f6, f7, f8⟩ := frozen9 HA1.out
   obtain ⟨q0, q1, q2, q3, q4, q5, q6, q7, q8⟩ := cells9 HB1.out
   obtain ⟨g0, g1, g2, g3, g4, g5, g6, g7, g8⟩ := frozen9 HB1.out
   have hne : ¬ WA.heap.size = W.heap.size := by have := HN.out; omega
   have hne2 : ¬ W.heap.size = WA.heap.size := by have := HN.out; omega
   have hka : Keeps (fun _ => False) w1 (w1.alloc (.cells #[.string ⟨a1.toArray⟩, .string ⟨a2.toArray⟩] 40)) := (Keeps.refl _ _).alloc _
   have HAX := Lib.hid ((hka.block _ (lt_of_heap HA1.out) (fun x => x)).trans HA1.out)
   have HBX := Lib.hid ((hka.block _ (lt_of_heap HB1.out) (fun x => x)).trans HB1.out)
   have HKX := Lib.hid (HK1.out.trans hka)
   have l1 := lt_of_heap HA1.out
   have l2 := lt_of_heap HB1.out
   have hn3 : ¬ w1.heap.size = W.heap.size := by omega
   have hn4 : ¬ W.heap.size = w1.heap.size := by omega
   have hn5 : ¬ w1.heap.size = WA.heap.size := by omega
   have hn6 : ¬ WA.heap.size = w1.heap.size := by omega
   obtain ⟨r0, r1, r2, r3, r4, r5, r6, r7, r8⟩ := cells9 HAX.out
   obtain ⟨t0, t1, t2, t3, t4, t5, t6, t7, t8⟩ := frozen9 HAX.out
   clear hka l1 l2
   go_upto_region 5 with fail
   have hs1 : (((((w1.alloc (.cells #[.string ⟨a1.toArray⟩, .string ⟨a2.toArray⟩] 40)).setCell ⟨W.heap.size, 4, none⟩ (.string ⟨b1.toArray⟩)).setCell ⟨W.heap.size, 5, none⟩ (.string ⟨b2.toArray⟩)).setCell ⟨W.heap.size, 6, none⟩ (.string ⟨a1.toArray⟩)).setCell ⟨W.heap.size, 7, none⟩ (.string ⟨a2.toArray⟩)).heap[W.heap.size]? = some (.cells #[.int .i64 4, .string ⟨h1.toArray⟩, .string ⟨h2.toArray⟩, .string ⟨o.toArray⟩, .string ⟨b1.toArray⟩, .string ⟨b2.toArray⟩, .string ⟨a1.toArray⟩, .string ⟨a2.toArray⟩, .string ⟨i.toArray⟩] 44) := by
    have s0 := heap_set HAX.out 4 (.string ⟨b1.toArray⟩)
    have s1 := heap_set s0 5 (.string ⟨b2.toArray⟩)
    have s2 := heap_set s1 6 (.string ⟨a1.toArray⟩)
    exact heap_set s2 7 (.string ⟨a2.toArray⟩)
   have hkS : Keeps (fun q => q = W.heap.size) (w1.alloc (.cells #[.string ⟨a1.toArray⟩, .string ⟨a2.toArray⟩] 40)) (((((w1.alloc (.cells #[.string ⟨a1.toArray⟩, .string ⟨a2.toArray⟩] 40)).setCell ⟨W.heap.size, 4, none⟩ (.string ⟨b1.toArray⟩)).setCell ⟨W.heap.size, 5, none⟩ (.string ⟨b2.toArray⟩)).setCell ⟨W.heap.size, 6, none⟩ (.string ⟨a1.toArray⟩)).setCell ⟨W.heap.size, 7, none⟩ (.string ⟨a2.toArray⟩)) := Keeps.setCell (S := fun q => q = W.heap.size) (Keeps.setCell (S := fun q => q = W.heap.size) (Keeps.setCell (S := fun q => q = W.heap.size) (Keeps.setCell (S := fun q => q = W.heap.size) (Keeps.refl _ _) (p := ⟨W.heap.size, 4, none⟩) (fun _ => rfl) _) (p := ⟨W.heap.size, 5, none⟩) (fun _ => rfl) _) (p := ⟨W.heap.size, 6, none⟩) (fun _ => rfl) _) (p := ⟨W.heap.size, 7, none⟩) (fun _ => rfl) _
   have HB2 := Lib.hid ((hkS.block _ (lt_of_heap HBX.out) hne).trans HBX.out)
   have HA2 := Lib.hid hs1
   have HK2 : Hid (Keeps (fun _ => False) W (((((w1.alloc (.cells #[.string ⟨a1.toArray⟩, .string ⟨a2.toArray⟩] 40)).setCell ⟨W.heap.size, 4, none⟩ (.string ⟨b1.toArray⟩)).setCell ⟨W.heap.size, 5, none⟩ (.string ⟨b2.toArray⟩)).setCell ⟨W.heap.size, 6, none⟩ (.string ⟨a1.toArray⟩)).setCell ⟨W.heap.size, 7, none⟩ (.string ⟨a2.toArray⟩))) := HKX.out.trans_new hkS (fun q hq e => by omega)
   clear p0 p1 p2 p3 p4 p5 p6 p7 p8 f0 f1 f2 f3 f4 f5 f6 f7 f8 q0 q1 q2 q3 q4 q5 q6 q7 q8 g0 g1 g2 g3 g4 g5 g6 g7 g8 hs1 hkS HA1 HB1 HK1
   clear r0 r1 r2 r3 r4 r5 r6 r7 r8 t0 t1 t2 t3 t4 t5 t6 t7 t8 HAX HBX HKX hn3 hn4 hn5 hn6
   generalize (((((w1.alloc (.cells #[.string ⟨a1.toArray⟩, .string ⟨a2.toArray⟩] 40)).setCell ⟨W.heap.size, 4, none⟩ (.string ⟨b1.toArray⟩)).setCell ⟨W.heap.size, 5, none⟩ (.string ⟨b2.toArray⟩)).setCell ⟨W.heap.size, 6, none⟩ (.string ⟨a1.toArray⟩)).setCell ⟨W.heap.size, 7, none⟩ (.string ⟨a2.toArray⟩)) = w2 at *
   obtain ⟨p0, p1, p2, p3, p4, p5, p6, p7, p8⟩ := cells9 HA2.out
   obtain ⟨q0, q1, q2, q3, q4, q5, q6, q7, q8⟩ := cells9 HB2.out
   obtain ⟨g0, g1, g2, g3, g4, g5, g6, g7, g8⟩ := frozen9 HB2.out
   obtain ⟨e1, e2⟩ := set9 HB2.out (.int .i64 4) (.string ⟨h1.toArray⟩) (.string ⟨h2.toArray⟩) (.string ⟨o.toArray⟩) (.string ⟨b1.toArray⟩) (.string ⟨b2.toArray⟩) (.string ⟨a1.toArray⟩) (.string ⟨a2.toArray⟩) (.string ⟨i.toArray⟩)
   have HKE : Hid (Keeps (fun _ => False) W (((((((((w2.setCell ⟨WA.heap.size, 0, none⟩ (.int .i64 4)).setCell ⟨WA.heap.size, 1, none⟩ (.string ⟨h1.toArray⟩)).setCell ⟨WA.heap.size, 2, none⟩ (.string ⟨h2.toArray⟩)).setCell ⟨WA.heap.size, 3, none⟩ (.string ⟨o.toArray⟩)).setCell ⟨WA.heap.size, 4, none⟩ (.string ⟨b1.toArray⟩)).setCell ⟨WA.heap.size, 5, none⟩ (.string ⟨b2.toArray⟩)).setCell ⟨WA.heap.size, 6, none⟩ (.string ⟨a1.toArray⟩)).setCell ⟨WA.heap.size, 7, none⟩ (.string ⟨a2.toArray⟩)).setCell ⟨WA.heap.size, 8, none⟩ (.string ⟨i.toArray⟩))) := HK2.out.trans_new e2 (fun q hq e => by have := HN.out; omega)
   have HE1 := Lib.hid e1
   clear e1 e2 HA2 HB2 HK2
   go_wp2_with fail
   clear p0 p1 p2 p3 p4 p5 p6 p7 p8 q0 q1 q2 q3 q4 q5 q6 q7 q8 g0 g1 g2 g3 g4 g5 g6 g7 g8 hne hne2
   generalize (((((((((w2.setCell ⟨WA.heap.size, 0, none⟩ (.int .i64 4)).setCell ⟨WA.heap.size, 1, none⟩ (.string ⟨h1.toArray⟩)).setCell ⟨WA.heap.size, 2, none⟩ (.string ⟨h2.toArray⟩)).setCell ⟨WA.heap.size, 3, none⟩ (.string ⟨o.toArray⟩)).setCell ⟨WA.heap.size, 4, none⟩ (.string ⟨b1.toArray⟩)).setCell ⟨WA.heap.size, 5, none⟩ (.string ⟨b2.toArray⟩)).setCell ⟨WA.heap.size, 6, none⟩ (.string ⟨a1.toArray⟩)).setCell ⟨WA.heap.size, 7, none⟩ (.string ⟨a2.toArray⟩)).setCell ⟨WA.heap.size, 8, none⟩ (.string ⟨i.toArray⟩)) = WE at *
   obtain ⟨d0, d1, d2, d3, d4, d5, d6, d7, d8⟩ := cells9 HE1.out
   refine bodyPost_ret (v := .agg #[.int .i64 4, .string ⟨h1.toArray⟩, .string ⟨h2.toArray⟩, .string ⟨o.toArray⟩, .string ⟨b1.toArray⟩, .string ⟨b2.toArray⟩, .string ⟨a1.toArray⟩, .string ⟨a2.toArray⟩, .string ⟨i.toArray⟩]) (by simp [results, Tryz.results30, go_sem, *]) rfl ?_
   exact ⟨rfl, HKE⟩
  ·rw [decide_eq_false hlt] at HL
   have HE : Hid (normS ((h1, h2), k, o, (a1, a2), (b1, b2), i) = ((h1, h2), k, o, (a1, a2), (b1, b2), i)) := by show _ = _; unfold normS; exact if_neg (fun h => hlt h.2)
   rw [HE.out]
   subst h4
   clear hlt HE
   obtain ⟨p0, p1, p2, p3, p4, p5, p6, p7, p8⟩ := cells9 HA.out
   unfold stmV
   go_enter Tryz.func30, Tryz.ntmps30
   go_wp2_with fail
   refine (HL.out _).mono ?_
   rintro e w2 ⟨rfl, hk1⟩
   have HA2 := Lib.hid ((hk1.out.block _ (lt_of_heap HA.out) (fun x => x)).trans HA.out)
   have HB2 := Lib.hid ((hk1.out.block _ (lt_of_heap HB.out) (fun x => x)).trans HB.out)
   have HK2 := Lib.hid (HKB.out.trans hk1.out)
   have hne : ¬ WA.heap.size = W.heap.size := by have := HN.out; omega
   have hne2 : ¬ W.heap.size = WA.heap.size := by have := HN.out; omega
   clear HL HA HB HKB hk1 p0 p1 p2 p3 p4 p5 p6 p7 p8 hWA hWB
   obtain ⟨p0, p1, p2, p3, p4, p5, p6, p7, p8⟩ := cells9 HA2.out
   obtain ⟨q0, q1, q2, q3, q4, q5, q6, q7, q8⟩ := cells9 HB2.out
   obtain ⟨g0, g1, g2, g3, g4, g5, g6, g7, g8⟩ := frozen9 HB2.out
   obtain ⟨e1, e2⟩ := set9 HB2.out (.int .i64 4) (.string ⟨h1.toArray⟩) (.string ⟨h2.toArray⟩) (.string ⟨o.toArray⟩) (.string ⟨a1.toArray⟩) (.string ⟨a2.toArray⟩) (.string ⟨b1.toArray⟩) (.string ⟨b2.toArray⟩) (.string ⟨i.toArray⟩)
   have HKE : Hid (Keeps (fun _ => False) W (((((((((w2.setCell ⟨WA.heap.size, 0, none⟩ (.int .i64 4)).setCell ⟨WA.heap.size, 1, none⟩ (.string ⟨h1.toArray⟩)).setCell ⟨WA.heap.size, 2, none⟩ (.string ⟨h2.toArray⟩)).setCell ⟨WA.heap.size, 3, none⟩ (.string ⟨o.toArray⟩)).setCell ⟨WA.heap.size, 4, none⟩ (.string ⟨a1.toArray⟩)).setCell ⟨WA.heap.size, 5, none⟩ (.string ⟨a2.toArray⟩)).setCell ⟨WA.heap.size, 6, none⟩ (.string ⟨b1.toArray⟩)).setCell ⟨WA.heap.size, 7, none⟩ (.string ⟨b2.toArray⟩)).setCell ⟨WA.heap.size, 8, none⟩ (.string ⟨i.toArray⟩))) := HK2.out.trans_new e2 (fun q hq e => by have := HN.out; omega)
   have HE1 := Lib.hid e1
   clear e1 e2 HA2 HB2 HK2
   go_wp2_with fail
   clear p0 p1 p2 p3 p4 p5 p6 p7 p8 q0 q1 q2 q3 q4 q5 q6 q7 q8 g0 g1 g2 g3 g4 g5 g6 g7 g8 hne hne2
   generalize (((((((((w2.setCell ⟨WA.heap.size, 0, none⟩ (.int .i64 4)).setCell ⟨WA.heap.size, 1, none⟩ (.string ⟨h1.toArray⟩)).setCell ⟨WA.heap.size, 2, none⟩ (.string ⟨h2.toArray⟩)).setCell ⟨WA.heap.size, 3, none⟩ (.string ⟨o.toArray⟩)).setCell ⟨WA.heap.size, 4, none⟩ (.string ⟨a1.toArray⟩)).setCell ⟨WA.heap.size, 5, none⟩ (.string ⟨a2.toArray⟩)).setCell ⟨WA.heap.size, 6, none⟩ (.string ⟨b1.toArray⟩)).setCell ⟨WA.heap.size, 7, none⟩ (.string ⟨b2.toArray⟩)).setCell ⟨WA.heap.size, 8, none⟩ (.string ⟨i.toArray⟩)) = WE at *
   obtain ⟨d0, d1, d2, d3, d4, d5, d6, d7, d8⟩ := cells9 HE1.out
   refine bodyPost_ret (v := .agg #[.int .i64 4, .string ⟨h1.toArray⟩, .string ⟨h2.toArray⟩, .string ⟨o.toArray⟩, .string ⟨a1.toArray⟩, .string ⟨a2.toArray⟩, .string ⟨b1.toArray⟩, .string ⟨b2.toArray⟩, .string ⟨i.toArray⟩]) (by simp [results, Tryz.results30, go_sem, *]) rfl ?_
   exact ⟨rfl, HKE⟩
 ·have HE : Hid (normS ((h1, h2), k, o, (a1, a2), (b1, b2), i) = ((h1, h2), k, o, (a1, a2), (b1, b2), i)) := by show _ = _; unfold normS; exact if_neg (fun h => h4 h.1)
  rw [HE.out]
  have h4b : (k == 4) = false := by simpa using h4
  clear HE h4
  have hne : ¬ WA.heap.size = W.heap.size := by have := HN.out; omega
  have hne2 : ¬ W.heap.size = WA.heap.size := by have := HN.out; omega
  obtain ⟨p0, p1, p2, p3, p4, p5, p6, p7, p8⟩ := cells9 HA.out
  unfold stmV
  go_enter Tryz.func30, Tryz.ntmps30
  go_upto_region 5 with fail
  have HA2 := HA
  have HB2 := HB
  have HK2 := HKB
  clear HA HB HKB p0 p1 p2 p3 p4 p5 p6 p7 p8
  clear hWA hWB
  generalize WB = w2 at *
  obtain ⟨p0, p1, p2, p3, p4, p5, p6, p7, p8⟩ := cells9 HA2.out
  obtain ⟨q0, q1, q2, q3, q4, q5, q6, q7, q8⟩ := cells9 HB2.out
  obtain ⟨g0, g1, g2, g3, g4, g5, g6, g7, g8⟩ := frozen9 HB2.out
  obtain ⟨e1, e2⟩ := set9 HB2.out (.int .i64 k) (.string ⟨h1.toArray⟩) (.string ⟨h2.toArray⟩) (.string ⟨o.toArray⟩) (.string ⟨a1.toArray⟩) (.string ⟨a2.toArray⟩) (.string ⟨b1.toArray⟩) (.string ⟨b2.toArray⟩) (.string ⟨i.toArray⟩)
  have HKE : Hid (Keeps (fun _ => False) W (((((((((w2.setCell ⟨WA.heap.size, 0, none⟩ (.int .i64 k)).setCell ⟨WA.heap.size, 1, none⟩ (.string ⟨h1.toArray⟩)).setCell ⟨WA.heap.size, 2, none⟩ (.string ⟨h2.toArray⟩)).setCell ⟨WA.heap.size, 3, none⟩ (.string ⟨o.toArray⟩)).setCell ⟨WA.heap.size, 4, none⟩ (.string ⟨a1.toArray⟩)).setCell ⟨WA.heap.size, 5, none⟩ (.string ⟨a2.toArray⟩)).setCell ⟨WA.heap.size, 6, none⟩ (.string ⟨b1.toArray⟩)).setCell ⟨WA.heap.size, 7, none⟩ (.string ⟨b2.toArray⟩)).setCell ⟨WA.heap.size, 8, none⟩ (.string ⟨i.toArray⟩))) := HK2.out.trans_new e2 (fun q hq e => by have := HN.out; omega)
  have HE1 := Lib.hid e1
  clear e1 e2 HA2 HB2 HK2
  go_wp2_with fail
  clear p0 p1 p2 p3 p4 p5 p6 p7 p8 q0 q1 q2 q3 q4 q5 q6 q7 q8 g0 g1 g2 g3 g4 g5 g6 g7 g8 hne hne2
  generalize (((((((((w2.setCell ⟨WA.heap.size, 0, none⟩ (.int .i64 k)).setCell ⟨WA.heap.size, 1, none⟩ (.string ⟨h1.toArray⟩)).setCell ⟨WA.heap.size, 2, none⟩ (.string ⟨h2.toArray⟩)).setCell ⟨WA.heap.size, 3, none⟩ (.string ⟨o.toArray⟩)).setCell ⟨WA.heap.size, 4, none⟩ (.string ⟨a1.toArray⟩)).setCell ⟨WA.heap.size, 5, none⟩ (.string ⟨a2.toArray⟩)).setCell ⟨WA.heap.size, 6, none⟩ (.string ⟨b1.toArray⟩)).setCell ⟨WA.heap.size, 7, none⟩ (.string ⟨b2.toArray⟩)).setCell ⟨WA.heap.size, 8, none⟩ (.string ⟨i.toArray⟩)) = WE at *
  obtain ⟨d0, d1, d2, d3, d4, d5, d6, d7, d8⟩ := cells9 HE1.out
  refine bodyPost_ret (v := .agg #[.int .i64 k, .string ⟨h1.toArray⟩, .string ⟨h2.toArray⟩, .string ⟨o.toArray⟩, .string ⟨a1.toArray⟩, .string ⟨a2.toArray⟩, .string ⟨b1.toArray⟩, .string ⟨b2.toArray⟩, .string ⟨i.toArray⟩]) (by simp [results, Tryz.results30, go_sem, *]) rfl ?_
  exact ⟨rfl, HKE⟩
end
end Go.Proofs.YtcdfpnlaklaafaaGreat
