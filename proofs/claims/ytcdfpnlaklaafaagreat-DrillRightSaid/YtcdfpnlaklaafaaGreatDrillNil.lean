/-
 What a drill that there isn't draws: nothing.
-/
import Derived.Test.YtcdfpnlaklaafaaGreatPolRight
set_option linter.unusedVariables false
set_option linter.unusedSimpArgs false
set_option linter.unnecessarySimpa false
namespace Go.Proofs.YtcdfpnlaklaafaaGreat
open Go.ChangeShapes Go.WideShapes Go.ChangeAt Go.RowKit Go.Deep
section
variable {W : World}
set_option maxRecDepth 100000
set_option maxHeartbeats 3200000
theorem dnext_nil : Calls Tryz.prog 8 #[.pointer none] W fun e W' => e = .returned (.int .u64 0) ∧ W = W' := by
 go_enter Tryz.func8, Tryz.ntmps8
 go_wp2_with fail
 go_ret
 exact ⟨rfl, rfl⟩
theorem dbelow_nil : Calls Tryz.prog 10 #[.pointer none, .int .i64 5] W fun e W' => e = .returned (.int .i64 0) ∧ W = W' := by
 go_enter Tryz.func10, Tryz.ntmps10
 go_wp2_with fail
 go_ret
 exact ⟨rfl, rfl⟩
theorem dmay_nil (s : Shp) : Calls Tryz.prog 27 #[.pointer none, ShpV s] W fun e W' => e = .returned (.bool false) ∧ Hid (Keeps (fun _ => False) W W') := by
 have HK : Hid (Keeps (fun _ => False) W (W.alloc (.cells #[.int .i64 s.prins, .int .i64 s.links, .int .i64 s.stmts, .int .i64 s.grow, .int .i64 s.shrink, .int .i64 s.asks] 32))) := (Keeps.refl _ _).alloc _
 unfold ShpV
 go_enter Tryz.func27, Tryz.ntmps27
 go_wp2_with fail
 go_ret
 exact ⟨rfl, HK⟩
theorem drole_nil (s : Shp) : Calls Tryz.prog 12 #[.pointer none, ShpV s] W fun e W' => e = .returned (.agg #[.string ⟨#[]⟩, .string ⟨#[]⟩]) ∧ Hid (Keeps (fun _ => False) W W') := by
 have HM : Hid (∀ W : World, Calls Tryz.prog 27 #[.pointer none, ShpV s] W fun e W' => e = .returned (.bool false) ∧ Hid (Keeps (fun _ => False) W W')) := fun W => dmay_nil s
 have hal := (MapKept.heap_alloc W (.cells #[.int .i64 s.prins, .int .i64 s.links, .int .i64 s.stmts, .int .i64 s.grow, .int .i64 s.shrink, .int .i64 s.asks] 32)).1
 obtain ⟨WA, hWA⟩ : ∃ WA, W.alloc (.cells #[.int .i64 s.prins, .int .i64 s.links, .int .i64 s.stmts, .int .i64 s.grow, .int .i64 s.shrink, .int .i64 s.asks] 32) = WA := ⟨_, rfl⟩
 have hkA : Keeps (fun _ => False) W WA := by rw [← hWA]; exact (Keeps.refl _ _).alloc _
 have hsz : WA.heap.size = W.heap.size + 1 := by rw [← hWA]; simp
 rw [hWA] at hal
 have hal2 := (MapKept.heap_alloc WA (.cells #[.string ⟨#[]⟩, .string ⟨#[]⟩] 40)).1
 obtain ⟨WB, hWB⟩ : ∃ WB, WA.alloc (.cells #[.string ⟨#[]⟩, .string ⟨#[]⟩] 40) = WB := ⟨_, rfl⟩
 have hkB : Keeps (fun _ => False) WA WB := by rw [← hWB]; exact (Keeps.refl _ _).alloc _
 rw [hWB] at hal2
 have halB := (hkB.block _ (lt_of_heap hal) (fun x => x)).trans hal
 have HB1 := Lib.hid hal2
 have HKB := Lib.hid (hkA.trans hkB)
 have HN : Hid (W.heap.size ≤ WA.heap.size) := by show _ ≤ _; omega
 obtain ⟨p0, q0, p1, q1, p2, q2, p3, q3, p4, q4, p5, q5⟩ := cf6 halB
 clear halB hal hal2 hkA hkB hsz
 unfold ShpV at *
 go_enter Tryz.func12, Tryz.ntmps12
 go_wp2_with fail
 refine (HM.out _).mono ?_
 rintro e w1 ⟨rfl, h1⟩
 have hB1 := (h1.out.block _ (lt_of_heap HB1.out) (fun x => x)).trans HB1.out
 obtain ⟨c0, f0, c1, f1⟩ := cf2 hB1
 have HKW := Lib.hid (HKB.out.trans h1.out)
 have HHB := Lib.hid hB1
 clear HM h1 HB1 p0 q0 p1 q1 p2 q2 p3 q3 p4 q4 p5 q5 hWA hWB HKB hB1
 go_wp2_with fail
 have hs2 := sx2 HHB.out (.string ⟨#[]⟩) (.string ⟨#[]⟩)
 have HE : Hid (Keeps (fun _ => False) W ((w1.setCell ⟨WA.heap.size, 0, none⟩ (.string ⟨#[]⟩)).setCell ⟨WA.heap.size, 1, none⟩ (.string ⟨#[]⟩))) := HKW.out.trans_new hs2.2 (fun q hq e => by have := HN.out; omega)
 clear c0 f0 c1 f1
 obtain ⟨d0, e0, d1, e1⟩ := cf2 hs2.1
 clear hs2 HHB
 generalize ((w1.setCell ⟨WA.heap.size, 0, none⟩ (.string ⟨#[]⟩)).setCell ⟨WA.heap.size, 1, none⟩ (.string ⟨#[]⟩)) = WE at *
 refine bodyPost_ret (v := .agg #[.string ⟨#[]⟩, .string ⟨#[]⟩]) (by simp [results, Tryz.results12, go_sem, *]) rfl ?_
 exact ⟨rfl, HE⟩
theorem dstmt_nil (s : Shp) : Calls Tryz.prog 14 #[.pointer none, ShpV s] W fun e W' => e = .returned (.agg #[.int .i64 0, .string ⟨#[]⟩, .string ⟨#[]⟩, .string ⟨#[]⟩, .string ⟨#[]⟩, .string ⟨#[]⟩, .string ⟨#[]⟩, .string ⟨#[]⟩, .string ⟨#[]⟩]) ∧ Hid (Keeps (fun _ => False) W W') := by
 have HM : Hid (∀ W : World, Calls Tryz.prog 27 #[.pointer none, ShpV s] W fun e W' => e = .returned (.bool false) ∧ Hid (Keeps (fun _ => False) W W')) := fun W => dmay_nil s
 have hal := (MapKept.heap_alloc W (.cells #[.int .i64 s.prins, .int .i64 s.links, .int .i64 s.stmts, .int .i64 s.grow, .int .i64 s.shrink, .int .i64 s.asks] 32)).1
 obtain ⟨WA, hWA⟩ : ∃ WA, W.alloc (.cells #[.int .i64 s.prins, .int .i64 s.links, .int .i64 s.stmts, .int .i64 s.grow, .int .i64 s.shrink, .int .i64 s.asks] 32) = WA := ⟨_, rfl⟩
 have hkA : Keeps (fun _ => False) W WA := by rw [← hWA]; exact (Keeps.refl _ _).alloc _
 have hsz : WA.heap.size = W.heap.size + 1 := by rw [← hWA]; simp
 rw [hWA] at hal
 have hal2 := (MapKept.heap_alloc WA (.cells #[.int .i64 0, .string ⟨#[]⟩, .string ⟨#[]⟩, .string ⟨#[]⟩, .string ⟨#[]⟩, .string ⟨#[]⟩, .string ⟨#[]⟩, .string ⟨#[]⟩, .string ⟨#[]⟩] 44)).1
 obtain ⟨WB, hWB⟩ : ∃ WB, WA.alloc (.cells #[.int .i64 0, .string ⟨#[]⟩, .string ⟨#[]⟩, .string ⟨#[]⟩, .string ⟨#[]⟩, .string ⟨#[]⟩, .string ⟨#[]⟩, .string ⟨#[]⟩, .string ⟨#[]⟩] 44) = WB := ⟨_, rfl⟩
 have hkB : Keeps (fun _ => False) WA WB := by rw [← hWB]; exact (Keeps.refl _ _).alloc _
 rw [hWB] at hal2
 have halB := (hkB.block _ (lt_of_heap hal) (fun x => x)).trans hal
 have HB1 := Lib.hid hal2
 have HKB := Lib.hid (hkA.trans hkB)
 have HN : Hid (W.heap.size ≤ WA.heap.size) := by show _ ≤ _; omega
 obtain ⟨p0, q0, p1, q1, p2, q2, p3, q3, p4, q4, p5, q5⟩ := cf6 halB
 clear halB hal hal2 hkA hkB hsz
 unfold ShpV at *
 go_enter Tryz.func14, Tryz.ntmps14
 go_wp2_with fail
 refine (HM.out _).mono ?_
 rintro e w1 ⟨rfl, h1⟩
 have hB1 := (h1.out.block _ (lt_of_heap HB1.out) (fun x => x)).trans HB1.out
 obtain ⟨c0, f0, c1, f1, c2, f2, c3, f3, c4, f4, c5, f5, c6, f6, c7, f7, c8, f8⟩ := cf9 hB1
 have HKW := Lib.hid (HKB.out.trans h1.out)
 have HHB := Lib.hid hB1
 clear HM h1 HB1 p0 q0 p1 q1 p2 q2 p3 q3 p4 q4 p5 q5 hWA hWB HKB hB1
 go_wp2_with fail
 have hs2 := sx9 HHB.out (.int .i64 0) (.string ⟨#[]⟩) (.string ⟨#[]⟩) (.string ⟨#[]⟩) (.string ⟨#[]⟩) (.string ⟨#[]⟩) (.string ⟨#[]⟩) (.string ⟨#[]⟩) (.string ⟨#[]⟩)
 have HE : Hid (Keeps (fun _ => False) W (((((((((w1.setCell ⟨WA.heap.size, 0, none⟩ (.int .i64 0)).setCell ⟨WA.heap.size, 1, none⟩ (.string ⟨#[]⟩)).setCell ⟨WA.heap.size, 2, none⟩ (.string ⟨#[]⟩)).setCell ⟨WA.heap.size, 3, none⟩ (.string ⟨#[]⟩)).setCell ⟨WA.heap.size, 4, none⟩ (.string ⟨#[]⟩)).setCell ⟨WA.heap.size, 5, none⟩ (.string ⟨#[]⟩)).setCell ⟨WA.heap.size, 6, none⟩ (.string ⟨#[]⟩)).setCell ⟨WA.heap.size, 7, none⟩ (.string ⟨#[]⟩)).setCell ⟨WA.heap.size, 8, none⟩ (.string ⟨#[]⟩))) := HKW.out.trans_new hs2.2 (fun q hq e => by have := HN.out; omega)
 clear c0 f0 c1 f1 c2 f2 c3 f3 c4 f4 c5 f5 c6 f6 c7 f7 c8 f8
 obtain ⟨d0, e0, d1, e1, d2, e2, d3, e3, d4, e4, d5, e5, d6, e6, d7, e7, d8, e8⟩ := cf9 hs2.1
 clear hs2 HHB
 generalize (((((((((w1.setCell ⟨WA.heap.size, 0, none⟩ (.int .i64 0)).setCell ⟨WA.heap.size, 1, none⟩ (.string ⟨#[]⟩)).setCell ⟨WA.heap.size, 2, none⟩ (.string ⟨#[]⟩)).setCell ⟨WA.heap.size, 3, none⟩ (.string ⟨#[]⟩)).setCell ⟨WA.heap.size, 4, none⟩ (.string ⟨#[]⟩)).setCell ⟨WA.heap.size, 5, none⟩ (.string ⟨#[]⟩)).setCell ⟨WA.heap.size, 6, none⟩ (.string ⟨#[]⟩)).setCell ⟨WA.heap.size, 7, none⟩ (.string ⟨#[]⟩)).setCell ⟨WA.heap.size, 8, none⟩ (.string ⟨#[]⟩)) = WE at *
 refine bodyPost_ret (v := .agg #[.int .i64 0, .string ⟨#[]⟩, .string ⟨#[]⟩, .string ⟨#[]⟩, .string ⟨#[]⟩, .string ⟨#[]⟩, .string ⟨#[]⟩, .string ⟨#[]⟩, .string ⟨#[]⟩]) (by simp [results, Tryz.results14, go_sem, *]) rfl ?_
 exact ⟨rfl, HE⟩
theorem dask_nil (s : Shp) : Calls Tryz.prog 17 #[.pointer none, ShpV s] W fun e W' => e = .returned (.agg #[.int .i64 0, .string ⟨#[]⟩, .string ⟨#[]⟩, .string ⟨#[]⟩, .string ⟨#[]⟩, .slice none 0 0]) ∧ Hid (Keeps (fun _ => False) W W') := by
 have HM : Hid (∀ W : World, Calls Tryz.prog 27 #[.pointer none, ShpV s] W fun e W' => e = .returned (.bool false) ∧ Hid (Keeps (fun _ => False) W W')) := fun W => dmay_nil s
 have hal := (MapKept.heap_alloc W (.cells #[.int .i64 s.prins, .int .i64 s.links, .int .i64 s.stmts, .int .i64 s.grow, .int .i64 s.shrink, .int .i64 s.asks] 32)).1
 obtain ⟨WA, hWA⟩ : ∃ WA, W.alloc (.cells #[.int .i64 s.prins, .int .i64 s.links, .int .i64 s.stmts, .int .i64 s.grow, .int .i64 s.shrink, .int .i64 s.asks] 32) = WA := ⟨_, rfl⟩
 have hkA : Keeps (fun _ => False) W WA := by rw [← hWA]; exact (Keeps.refl _ _).alloc _
 have hsz : WA.heap.size = W.heap.size + 1 := by rw [← hWA]; simp
 rw [hWA] at hal
 have hal2 := (MapKept.heap_alloc WA (.cells #[.int .i64 0, .string ⟨#[]⟩, .string ⟨#[]⟩, .string ⟨#[]⟩, .string ⟨#[]⟩, .slice none 0 0] 49)).1
 obtain ⟨WB, hWB⟩ : ∃ WB, WA.alloc (.cells #[.int .i64 0, .string ⟨#[]⟩, .string ⟨#[]⟩, .string ⟨#[]⟩, .string ⟨#[]⟩, .slice none 0 0] 49) = WB := ⟨_, rfl⟩
 have hkB : Keeps (fun _ => False) WA WB := by rw [← hWB]; exact (Keeps.refl _ _).alloc _
 rw [hWB] at hal2
 have halB := (hkB.block _ (lt_of_heap hal) (fun x => x)).trans hal
 have HB1 := Lib.hid hal2
 have HKB := Lib.hid (hkA.trans hkB)
 have HN : Hid (W.heap.size ≤ WA.heap.size) := by show _ ≤ _; omega
 obtain ⟨p0, q0, p1, q1, p2, q2, p3, q3, p4, q4, p5, q5⟩ := cf6 halB
 clear halB hal hal2 hkA hkB hsz
 unfold ShpV at *
 go_enter Tryz.func17, Tryz.ntmps17
 go_wp2_with fail
 refine (HM.out _).mono ?_
 rintro e w1 ⟨rfl, h1⟩
 have hB1 := (h1.out.block _ (lt_of_heap HB1.out) (fun x => x)).trans HB1.out
 obtain ⟨c0, f0, c1, f1, c2, f2, c3, f3, c4, f4, c5, f5⟩ := cf6 hB1
 have HKW := Lib.hid (HKB.out.trans h1.out)
 have HHB := Lib.hid hB1
 clear HM h1 HB1 p0 q0 p1 q1 p2 q2 p3 q3 p4 q4 p5 q5 hWA hWB HKB hB1
 go_wp2_with fail
 have hs2 := sx6 HHB.out (.int .i64 0) (.string ⟨#[]⟩) (.string ⟨#[]⟩) (.string ⟨#[]⟩) (.string ⟨#[]⟩) (.slice none 0 0)
 have HE : Hid (Keeps (fun _ => False) W ((((((w1.setCell ⟨WA.heap.size, 0, none⟩ (.int .i64 0)).setCell ⟨WA.heap.size, 1, none⟩ (.string ⟨#[]⟩)).setCell ⟨WA.heap.size, 2, none⟩ (.string ⟨#[]⟩)).setCell ⟨WA.heap.size, 3, none⟩ (.string ⟨#[]⟩)).setCell ⟨WA.heap.size, 4, none⟩ (.string ⟨#[]⟩)).setCell ⟨WA.heap.size, 5, none⟩ (.slice none 0 0))) := HKW.out.trans_new hs2.2 (fun q hq e => by have := HN.out; omega)
 clear c0 f0 c1 f1 c2 f2 c3 f3 c4 f4 c5 f5
 obtain ⟨d0, e0, d1, e1, d2, e2, d3, e3, d4, e4, d5, e5⟩ := cf6 hs2.1
 clear hs2 HHB
 generalize ((((((w1.setCell ⟨WA.heap.size, 0, none⟩ (.int .i64 0)).setCell ⟨WA.heap.size, 1, none⟩ (.string ⟨#[]⟩)).setCell ⟨WA.heap.size, 2, none⟩ (.string ⟨#[]⟩)).setCell ⟨WA.heap.size, 3, none⟩ (.string ⟨#[]⟩)).setCell ⟨WA.heap.size, 4, none⟩ (.string ⟨#[]⟩)).setCell ⟨WA.heap.size, 5, none⟩ (.slice none 0 0)) = WE at *
 refine bodyPost_ret (v := .agg #[.int .i64 0, .string ⟨#[]⟩, .string ⟨#[]⟩, .string ⟨#[]⟩, .string ⟨#[]⟩, .slice none 0 0]) (by simp [results, Tryz.results17, go_sem, *]) rfl ?_
 exact ⟨rfl, HE⟩
theorem dpolicy_nil (s : Shp) : Calls Tryz.prog 20 #[.pointer none, ShpV s] W fun e W' => e = .returned (.agg #[.slice none 0 0, .slice none 0 0, .slice none 0 0, .slice none 0 0]) ∧ Hid (Keeps (fun _ => False) W W') := by
 have HM : Hid (∀ W : World, Calls Tryz.prog 27 #[.pointer none, ShpV s] W fun e W' => e = .returned (.bool false) ∧ Hid (Keeps (fun _ => False) W W')) := fun W => dmay_nil s
 have hal := (MapKept.heap_alloc W (.cells #[.int .i64 s.prins, .int .i64 s.links, .int .i64 s.stmts, .int .i64 s.grow, .int .i64 s.shrink, .int .i64 s.asks] 32)).1
 obtain ⟨WA, hWA⟩ : ∃ WA, W.alloc (.cells #[.int .i64 s.prins, .int .i64 s.links, .int .i64 s.stmts, .int .i64 s.grow, .int .i64 s.shrink, .int .i64 s.asks] 32) = WA := ⟨_, rfl⟩
 have hkA : Keeps (fun _ => False) W WA := by rw [← hWA]; exact (Keeps.refl _ _).alloc _
 have hsz : WA.heap.size = W.heap.size + 1 := by rw [← hWA]; simp
 rw [hWA] at hal
 have hal2 := (MapKept.heap_alloc WA (.cells #[.slice none 0 0, .slice none 0 0, .slice none 0 0, .slice none 0 0] 57)).1
 obtain ⟨WB, hWB⟩ : ∃ WB, WA.alloc (.cells #[.slice none 0 0, .slice none 0 0, .slice none 0 0, .slice none 0 0] 57) = WB := ⟨_, rfl⟩
 have hkB : Keeps (fun _ => False) WA WB := by rw [← hWB]; exact (Keeps.refl _ _).alloc _
 rw [hWB] at hal2
 have halB := (hkB.block _ (lt_of_heap hal) (fun x => x)).trans hal
 have HB1 := Lib.hid hal2
 have HKB := Lib.hid (hkA.trans hkB)
 have HN : Hid (W.heap.size ≤ WA.heap.size) := by show _ ≤ _; omega
 obtain ⟨p0, q0, p1, q1, p2, q2, p3, q3, p4, q4, p5, q5⟩ := cf6 halB
 clear halB hal hal2 hkA hkB hsz
 unfold ShpV at *
 go_enter Tryz.func20, Tryz.ntmps20
 go_wp2_with fail
 refine (HM.out _).mono ?_
 rintro e w1 ⟨rfl, h1⟩
 have hB1 := (h1.out.block _ (lt_of_heap HB1.out) (fun x => x)).trans HB1.out
 obtain ⟨c0, f0, c1, f1, c2, f2, c3, f3⟩ := cf4 hB1
 have HKW := Lib.hid (HKB.out.trans h1.out)
 have HHB := Lib.hid hB1
 clear HM h1 HB1 p0 q0 p1 q1 p2 q2 p3 q3 p4 q4 p5 q5 hWA hWB HKB hB1
 go_wp2_with fail
 have hs2 := sx4 HHB.out (.slice none 0 0) (.slice none 0 0) (.slice none 0 0) (.slice none 0 0)
 have HE : Hid (Keeps (fun _ => False) W ((((w1.setCell ⟨WA.heap.size, 0, none⟩ (.slice none 0 0)).setCell ⟨WA.heap.size, 1, none⟩ (.slice none 0 0)).setCell ⟨WA.heap.size, 2, none⟩ (.slice none 0 0)).setCell ⟨WA.heap.size, 3, none⟩ (.slice none 0 0))) := HKW.out.trans_new hs2.2 (fun q hq e => by have := HN.out; omega)
 clear c0 f0 c1 f1 c2 f2 c3 f3
 obtain ⟨d0, e0, d1, e1, d2, e2, d3, e3⟩ := cf4 hs2.1
 clear hs2 HHB
 generalize ((((w1.setCell ⟨WA.heap.size, 0, none⟩ (.slice none 0 0)).setCell ⟨WA.heap.size, 1, none⟩ (.slice none 0 0)).setCell ⟨WA.heap.size, 2, none⟩ (.slice none 0 0)).setCell ⟨WA.heap.size, 3, none⟩ (.slice none 0 0)) = WE at *
 refine bodyPost_ret (v := .agg #[.slice none 0 0, .slice none 0 0, .slice none 0 0, .slice none 0 0]) (by simp [results, Tryz.results20, go_sem, *]) rfl ?_
 exact ⟨rfl, HE⟩
end
end Go.Proofs.YtcdfpnlaklaafaaGreat
