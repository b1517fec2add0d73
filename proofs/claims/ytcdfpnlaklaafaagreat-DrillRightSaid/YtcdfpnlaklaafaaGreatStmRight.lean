/-
 The document's IsRole; its Right, of a statement that may be.
-/
import Derived.Test.YtcdfpnlaklaafaaGreatDrillFacts
import Derived.Test.YtcdfpnlaklaafaaGreatStmNorm
set_option linter.unusedVariables false
set_option linter.unusedSimpArgs false
set_option linter.unnecessarySimpa false
namespace Go.Proofs.YtcdfpnlaklaafaaGreat
open Go.ChangeShapes Go.WideShapes Go.ChangeAt Go.RowKit Go.Deep
set_option maxRecDepth 100000
set_option maxHeartbeats 3200000
theorem isrole_yes {W : World} {r : Rol} (h1 : isB 65 90 ⟨r.1.toArray⟩ = true) (h2 : isB 97 122 ⟨r.2.toArray⟩ = true) : Calls Tryz.prog 41 #[rolV2 r] W fun e W' => e = .returned (.bool true) ∧ Hid (Keeps (fun _ => False) W W') := by
 obtain ⟨a, b⟩ := r
 simp only at h1 h2
 have HP : Hid (∀ w, Calls Tryz.prog 55 #[.string ⟨a.toArray⟩] w fun e w' => e = .returned (.bool true) ∧ w = w') := fun w => (ref_prin _ w).mono fun _ _ h => ⟨by rw [h.1, h1], h.2⟩
 have HQ : Hid (∀ w, Calls Tryz.prog 56 #[.string ⟨b.toArray⟩] w fun e w' => e = .returned (.bool true) ∧ w = w') := fun w => (ref_name _ w).mono fun _ _ h => ⟨by rw [h.1, h2], h.2⟩
 have HK : Hid (Keeps (fun _ => False) W (W.alloc (.cells #[.string ⟨a.toArray⟩, .string ⟨b.toArray⟩] 40))) := (Keeps.refl _ _).alloc _
 unfold rolV2
 clear h1 h2
 go_enter Tryz.func41, Tryz.ntmps41
 go_wp2_with (first | (go_at_call 55; refine (HP.out _).mono ?_; rintro e w2 ⟨rfl, rfl⟩) | (go_at_call 56; refine (HQ.out _).mono ?_; rintro e w2 ⟨rfl, rfl⟩))
 go_ret
 exact ⟨rfl, HK⟩
theorem isrole_b {s : Shp} {W : World} {r : Rol} (h : RolB s r) (hf : fitsD s = true) : Calls Tryz.prog 41 #[.agg #[.string ⟨r.1.toArray⟩, .string ⟨r.2.toArray⟩]] W fun e W' => e = .returned (.bool true) ∧ Hid (Keeps (fun _ => False) W W') := isrole_yes (let_prin h.1 hf) (let_name h.2 hf)
theorem stmright_yes {s : Shp} {W : World} {y : Stm} (h : StmB s y) (hf : fitsD s = true) : Calls Tryz.prog 40 #[stmV y] W fun e W' => e = .returned (.bool true) ∧ Hid (Keeps (fun _ => False) W W') := by
 obtain ⟨⟨h1, h2⟩, k, o, ⟨a1, a2⟩, ⟨b1, b2⟩, i⟩ := y
 obtain ⟨hh, hx⟩ := h
 simp only at hh hx
 have HH : Hid (∀ w, Calls Tryz.prog 41 #[.agg #[.string ⟨h1.toArray⟩, .string ⟨h2.toArray⟩]] w fun e w' => e = .returned (.bool true) ∧ Hid (Keeps (fun _ => False) w w')) := fun w => isrole_b (r := (h1, h2)) hh hf
 clear hh
 rcases hx with ⟨rfl, hw, ha, hb, hi⟩ | ⟨rfl, hw, ha, hb, hi⟩ | ⟨rfl, hw, ha, hb, hi⟩ | ⟨rfl, hw, ha, hb, hi, hl⟩
 · skip
   unfold noRol at ha hb
   simp only [Prod.mk.injEq] at ha hb
   obtain ⟨rfl, rfl⟩ := ha
   obtain ⟨rfl, rfl⟩ := hb
   subst hi
   have HW : Hid (∀ w, Calls Tryz.prog 55 #[.string ⟨o.toArray⟩] w fun e w' => e = .returned (.bool true) ∧ w = w') := fun w => (ref_prin _ w).mono fun _ _ h => ⟨by rw [h.1, let_prin hw hf], h.2⟩
   clear hw
   have hal := (MapKept.heap_alloc W (.cells #[.int .i64 1, .string ⟨h1.toArray⟩, .string ⟨h2.toArray⟩, .string ⟨o.toArray⟩, .string ⟨#[]⟩, .string ⟨#[]⟩, .string ⟨#[]⟩, .string ⟨#[]⟩, .string ⟨#[]⟩] 44)).1
   obtain ⟨WA, hWA⟩ : ∃ q, W.alloc (.cells #[.int .i64 1, .string ⟨h1.toArray⟩, .string ⟨h2.toArray⟩, .string ⟨o.toArray⟩, .string ⟨#[]⟩, .string ⟨#[]⟩, .string ⟨#[]⟩, .string ⟨#[]⟩, .string ⟨#[]⟩] 44) = q := ⟨_, rfl⟩
   have hkA : Keeps (fun _ => False) W WA := by rw [← hWA]; exact (Keeps.refl _ _).alloc _
   rw [hWA] at hal
   have hal2 := (MapKept.heap_alloc WA (.cells #[.string ⟨#[]⟩, .string ⟨#[]⟩] 40)).1
   have hkB : Keeps (fun _ => False) WA (WA.alloc (.cells #[.string ⟨#[]⟩, .string ⟨#[]⟩] 40)) := (Keeps.refl _ _).alloc _
   have hal1 := (hkB.block _ (lt_of_heap hal) (fun x => x)).trans hal
   have HK := Lib.hid (hkA.trans hkB)
   have HF : Hid (∀ w', Keeps (fun _ => False) W w' → Keeps (fun _ => False) (WA.alloc (.cells #[.string ⟨#[]⟩, .string ⟨#[]⟩] 40)) w' → w'.cell? ⟨W.heap.size, 0, none⟩ = some (.int .i64 1) ∧ w'.cell? ⟨W.heap.size, 1, none⟩ = some (.string ⟨h1.toArray⟩) ∧ w'.cell? ⟨W.heap.size, 2, none⟩ = some (.string ⟨h2.toArray⟩) ∧ w'.cell? ⟨W.heap.size, 3, none⟩ = some (.string ⟨o.toArray⟩) ∧ w'.cell? ⟨W.heap.size, 4, none⟩ = some (.string ⟨#[]⟩) ∧ w'.cell? ⟨W.heap.size, 5, none⟩ = some (.string ⟨#[]⟩) ∧ w'.cell? ⟨W.heap.size, 6, none⟩ = some (.string ⟨#[]⟩) ∧ w'.cell? ⟨W.heap.size, 7, none⟩ = some (.string ⟨#[]⟩) ∧ w'.cell? ⟨W.heap.size, 8, none⟩ = some (.string ⟨#[]⟩) ∧ w'.cell? ⟨WA.heap.size, 0, none⟩ = some (.string ⟨#[]⟩) ∧ w'.cell? ⟨WA.heap.size, 1, none⟩ = some (.string ⟨#[]⟩)) := fun w' _ hk => by
    have q1 := (hk.block _ (lt_of_heap hal1) (fun x => x)).trans hal1
    have q2 := (hk.block _ (lt_of_heap hal2) (fun x => x)).trans hal2
    refine ⟨?_, ?_, ?_, ?_, ?_, ?_, ?_, ?_, ?_, ?_, ?_⟩ <;> first | (rw [cell_of_heap q1]; rfl) | (rw [cell_of_heap q2]; rfl)
   have HZ : Hid (Keeps (fun _ => False) (WA.alloc (.cells #[.string ⟨#[]⟩, .string ⟨#[]⟩] 40)) (WA.alloc (.cells #[.string ⟨#[]⟩, .string ⟨#[]⟩] 40))) := Keeps.refl _ _
   clear hal hal1 hal2 hkA hkB
   unfold stmV
   go_enter Tryz.func40, Tryz.ntmps40
   go_upto_region 1 with fail
   clear hWA
   go_upto_region 2 with fail
   generalize WA.alloc (.cells #[.string ⟨#[]⟩, .string ⟨#[]⟩] 40) = WB at *
   obtain ⟨c0, c1, c2, c3, c4, c5, c6, c7, c8, n0, n1⟩ := HF.out _ HK.out HZ.out
   go_wp2_with (first | (go_at_call 41; refine (HH.out _).mono ?_; rintro e w2 ⟨rfl, hk⟩; clear c0 c1 c2 c3 c4 c5 c6 c7 c8 n0 n1; replace HK := Lib.hid (HK.out.trans hk.out); replace HZ := Lib.hid (HZ.out.trans hk.out); obtain ⟨c0, c1, c2, c3, c4, c5, c6, c7, c8, n0, n1⟩ := HF.out _ HK.out HZ.out; clear hk HH) | (go_at_call 55; refine (HW.out _).mono ?_; rintro e w2 ⟨rfl, rfl⟩))
   go_ret
   exact ⟨rfl, HK⟩
 · skip
   subst hw
   unfold noRol at hb
   simp only [Prod.mk.injEq] at hb
   obtain ⟨rfl, rfl⟩ := hb
   have HA : Hid (∀ w, Calls Tryz.prog 41 #[.agg #[.string ⟨a1.toArray⟩, .string ⟨a2.toArray⟩]] w fun e w' => e = .returned (.bool true) ∧ Hid (Keeps (fun _ => False) w w')) := fun w => isrole_b (r := (a1, a2)) ha hf
   clear ha
   subst hi
   have hal := (MapKept.heap_alloc W (.cells #[.int .i64 2, .string ⟨h1.toArray⟩, .string ⟨h2.toArray⟩, .string ⟨#[]⟩, .string ⟨a1.toArray⟩, .string ⟨a2.toArray⟩, .string ⟨#[]⟩, .string ⟨#[]⟩, .string ⟨#[]⟩] 44)).1
   obtain ⟨WA, hWA⟩ : ∃ q, W.alloc (.cells #[.int .i64 2, .string ⟨h1.toArray⟩, .string ⟨h2.toArray⟩, .string ⟨#[]⟩, .string ⟨a1.toArray⟩, .string ⟨a2.toArray⟩, .string ⟨#[]⟩, .string ⟨#[]⟩, .string ⟨#[]⟩] 44) = q := ⟨_, rfl⟩
   have hkA : Keeps (fun _ => False) W WA := by rw [← hWA]; exact (Keeps.refl _ _).alloc _
   rw [hWA] at hal
   have hal2 := (MapKept.heap_alloc WA (.cells #[.string ⟨#[]⟩, .string ⟨#[]⟩] 40)).1
   have hkB : Keeps (fun _ => False) WA (WA.alloc (.cells #[.string ⟨#[]⟩, .string ⟨#[]⟩] 40)) := (Keeps.refl _ _).alloc _
   have hal1 := (hkB.block _ (lt_of_heap hal) (fun x => x)).trans hal
   have HK := Lib.hid (hkA.trans hkB)
   have HF : Hid (∀ w', Keeps (fun _ => False) W w' → Keeps (fun _ => False) (WA.alloc (.cells #[.string ⟨#[]⟩, .string ⟨#[]⟩] 40)) w' → w'.cell? ⟨W.heap.size, 0, none⟩ = some (.int .i64 2) ∧ w'.cell? ⟨W.heap.size, 1, none⟩ = some (.string ⟨h1.toArray⟩) ∧ w'.cell? ⟨W.heap.size, 2, none⟩ = some (.string ⟨h2.toArray⟩) ∧ w'.cell? ⟨W.heap.size, 3, none⟩ = some (.string ⟨#[]⟩) ∧ w'.cell? ⟨W.heap.size, 4, none⟩ = some (.string ⟨a1.toArray⟩) ∧ w'.cell? ⟨W.heap.size, 5, none⟩ = some (.string ⟨a2.toArray⟩) ∧ w'.cell? ⟨W.heap.size, 6, none⟩ = some (.string ⟨#[]⟩) ∧ w'.cell? ⟨W.heap.size, 7, none⟩ = some (.string ⟨#[]⟩) ∧ w'.cell? ⟨W.heap.size, 8, none⟩ = some (.string ⟨#[]⟩) ∧ w'.cell? ⟨WA.heap.size, 0, none⟩ = some (.string ⟨#[]⟩) ∧ w'.cell? ⟨WA.heap.size, 1, none⟩ = some (.string ⟨#[]⟩)) := fun w' _ hk => by
    have q1 := (hk.block _ (lt_of_heap hal1) (fun x => x)).trans hal1
    have q2 := (hk.block _ (lt_of_heap hal2) (fun x => x)).trans hal2
    refine ⟨?_, ?_, ?_, ?_, ?_, ?_, ?_, ?_, ?_, ?_, ?_⟩ <;> first | (rw [cell_of_heap q1]; rfl) | (rw [cell_of_heap q2]; rfl)
   have HZ : Hid (Keeps (fun _ => False) (WA.alloc (.cells #[.string ⟨#[]⟩, .string ⟨#[]⟩] 40)) (WA.alloc (.cells #[.string ⟨#[]⟩, .string ⟨#[]⟩] 40))) := Keeps.refl _ _
   clear hal hal1 hal2 hkA hkB
   unfold stmV
   go_enter Tryz.func40, Tryz.ntmps40
   go_upto_region 1 with fail
   clear hWA
   go_upto_region 2 with fail
   generalize WA.alloc (.cells #[.string ⟨#[]⟩, .string ⟨#[]⟩] 40) = WB at *
   obtain ⟨c0, c1, c2, c3, c4, c5, c6, c7, c8, n0, n1⟩ := HF.out _ HK.out HZ.out
   go_wp2_with (first | (go_at_call 41; refine (HH.out _).mono ?_; rintro e w2 ⟨rfl, hk⟩; clear c0 c1 c2 c3 c4 c5 c6 c7 c8 n0 n1; replace HK := Lib.hid (HK.out.trans hk.out); replace HZ := Lib.hid (HZ.out.trans hk.out); obtain ⟨c0, c1, c2, c3, c4, c5, c6, c7, c8, n0, n1⟩ := HF.out _ HK.out HZ.out; clear hk HH) | (go_at_call 41; refine (HA.out _).mono ?_; rintro e w2 ⟨rfl, hk⟩; clear c0 c1 c2 c3 c4 c5 c6 c7 c8 n0 n1; replace HK := Lib.hid (HK.out.trans hk.out); replace HZ := Lib.hid (HZ.out.trans hk.out); obtain ⟨c0, c1, c2, c3, c4, c5, c6, c7, c8, n0, n1⟩ := HF.out _ HK.out HZ.out; clear hk HA))
   go_ret
   exact ⟨rfl, HK⟩
 · skip
   subst hw
   unfold noRol at hb
   simp only [Prod.mk.injEq] at hb
   obtain ⟨rfl, rfl⟩ := hb
   have HA : Hid (∀ w, Calls Tryz.prog 41 #[.agg #[.string ⟨a1.toArray⟩, .string ⟨a2.toArray⟩]] w fun e w' => e = .returned (.bool true) ∧ Hid (Keeps (fun _ => False) w w')) := fun w => isrole_b (r := (a1, a2)) ha hf
   clear ha
   have HI : Hid (∀ w, Calls Tryz.prog 56 #[.string ⟨i.toArray⟩] w fun e w' => e = .returned (.bool true) ∧ w = w') := fun w => (ref_name _ w).mono fun _ _ h => ⟨by rw [h.1, let_name hi hf], h.2⟩
   clear hi
   have hal := (MapKept.heap_alloc W (.cells #[.int .i64 3, .string ⟨h1.toArray⟩, .string ⟨h2.toArray⟩, .string ⟨#[]⟩, .string ⟨a1.toArray⟩, .string ⟨a2.toArray⟩, .string ⟨#[]⟩, .string ⟨#[]⟩, .string ⟨i.toArray⟩] 44)).1
   obtain ⟨WA, hWA⟩ : ∃ q, W.alloc (.cells #[.int .i64 3, .string ⟨h1.toArray⟩, .string ⟨h2.toArray⟩, .string ⟨#[]⟩, .string ⟨a1.toArray⟩, .string ⟨a2.toArray⟩, .string ⟨#[]⟩, .string ⟨#[]⟩, .string ⟨i.toArray⟩] 44) = q := ⟨_, rfl⟩
   have hkA : Keeps (fun _ => False) W WA := by rw [← hWA]; exact (Keeps.refl _ _).alloc _
   rw [hWA] at hal
   have hal2 := (MapKept.heap_alloc WA (.cells #[.string ⟨#[]⟩, .string ⟨#[]⟩] 40)).1
   have hkB : Keeps (fun _ => False) WA (WA.alloc (.cells #[.string ⟨#[]⟩, .string ⟨#[]⟩] 40)) := (Keeps.refl _ _).alloc _
   have hal1 := (hkB.block _ (lt_of_heap hal) (fun x => x)).trans hal
   have HK := Lib.hid (hkA.trans hkB)
   have HF : Hid (∀ w', Keeps (fun _ => False) W w' → Keeps (fun _ => False) (WA.alloc (.cells #[.string ⟨#[]⟩, .string ⟨#[]⟩] 40)) w' → w'.cell? ⟨W.heap.size, 0, none⟩ = some (.int .i64 3) ∧ w'.cell? ⟨W.heap.size, 1, none⟩ = some (.string ⟨h1.toArray⟩) ∧ w'.cell? ⟨W.heap.size, 2, none⟩ = some (.string ⟨h2.toArray⟩) ∧ w'.cell? ⟨W.heap.size, 3, none⟩ = some (.string ⟨#[]⟩) ∧ w'.cell? ⟨W.heap.size, 4, none⟩ = some (.string ⟨a1.toArray⟩) ∧ w'.cell? ⟨W.heap.size, 5, none⟩ = some (.string ⟨a2.toArray⟩) ∧ w'.cell? ⟨W.heap.size, 6, none⟩ = some (.string ⟨#[]⟩) ∧ w'.cell? ⟨W.heap.size, 7, none⟩ = some (.string ⟨#[]⟩) ∧ w'.cell? ⟨W.heap.size, 8, none⟩ = some (.string ⟨i.toArray⟩) ∧ w'.cell? ⟨WA.heap.size, 0, none⟩ = some (.string ⟨#[]⟩) ∧ w'.cell? ⟨WA.heap.size, 1, none⟩ = some (.string ⟨#[]⟩)) := fun w' _ hk => by
    have q1 := (hk.block _ (lt_of_heap hal1) (fun x => x)).trans hal1
    have q2 := (hk.block _ (lt_of_heap hal2) (fun x => x)).trans hal2
    refine ⟨?_, ?_, ?_, ?_, ?_, ?_, ?_, ?_, ?_, ?_, ?_⟩ <;> first | (rw [cell_of_heap q1]; rfl) | (rw [cell_of_heap q2]; rfl)
   have HZ : Hid (Keeps (fun _ => False) (WA.alloc (.cells #[.string ⟨#[]⟩, .string ⟨#[]⟩] 40)) (WA.alloc (.cells #[.string ⟨#[]⟩, .string ⟨#[]⟩] 40))) := Keeps.refl _ _
   clear hal hal1 hal2 hkA hkB
   unfold stmV
   go_enter Tryz.func40, Tryz.ntmps40
   go_upto_region 1 with fail
   clear hWA
   go_upto_region 2 with fail
   generalize WA.alloc (.cells #[.string ⟨#[]⟩, .string ⟨#[]⟩] 40) = WB at *
   obtain ⟨c0, c1, c2, c3, c4, c5, c6, c7, c8, n0, n1⟩ := HF.out _ HK.out HZ.out
   go_wp2_with (first | (go_at_call 41; refine (HH.out _).mono ?_; rintro e w2 ⟨rfl, hk⟩; clear c0 c1 c2 c3 c4 c5 c6 c7 c8 n0 n1; replace HK := Lib.hid (HK.out.trans hk.out); replace HZ := Lib.hid (HZ.out.trans hk.out); obtain ⟨c0, c1, c2, c3, c4, c5, c6, c7, c8, n0, n1⟩ := HF.out _ HK.out HZ.out; clear hk HH) | (go_at_call 41; refine (HA.out _).mono ?_; rintro e w2 ⟨rfl, hk⟩; clear c0 c1 c2 c3 c4 c5 c6 c7 c8 n0 n1; replace HK := Lib.hid (HK.out.trans hk.out); replace HZ := Lib.hid (HZ.out.trans hk.out); obtain ⟨c0, c1, c2, c3, c4, c5, c6, c7, c8, n0, n1⟩ := HF.out _ HK.out HZ.out; clear hk HA) | (go_at_call 56; refine (HI.out _).mono ?_; rintro e w2 ⟨rfl, rfl⟩))
   go_ret
   exact ⟨rfl, HK⟩
 · skip
   subst hw
   subst hi
   have HA : Hid (∀ w, Calls Tryz.prog 41 #[.agg #[.string ⟨a1.toArray⟩, .string ⟨a2.toArray⟩]] w fun e w' => e = .returned (.bool true) ∧ Hid (Keeps (fun _ => False) w w')) := fun w => isrole_b (r := (a1, a2)) ha hf
   have HB : Hid (∀ w, Calls Tryz.prog 41 #[.agg #[.string ⟨b1.toArray⟩, .string ⟨b2.toArray⟩]] w fun e w' => e = .returned (.bool true) ∧ Hid (Keeps (fun _ => False) w w')) := fun w => isrole_b (r := (b1, b2)) hb hf
   have HL : Hid (∀ w, Calls Tryz.prog 47 #[.agg #[.string ⟨b1.toArray⟩, .string ⟨b2.toArray⟩], .agg #[.string ⟨a1.toArray⟩, .string ⟨a2.toArray⟩]] w fun e w' => e = .returned (.bool false) ∧ Hid (Keeps (fun _ => False) w w')) := fun w => (rless_spec (W := w) (b1, b2) (a1, a2)).mono fun _ _ h => ⟨by rw [h.1, decide_eq_false hl], h.2⟩
   clear ha hb hl
   have hal := (MapKept.heap_alloc W (.cells #[.int .i64 4, .string ⟨h1.toArray⟩, .string ⟨h2.toArray⟩, .string ⟨#[]⟩, .string ⟨a1.toArray⟩, .string ⟨a2.toArray⟩, .string ⟨b1.toArray⟩, .string ⟨b2.toArray⟩, .string ⟨#[]⟩] 44)).1
   obtain ⟨WA, hWA⟩ : ∃ q, W.alloc (.cells #[.int .i64 4, .string ⟨h1.toArray⟩, .string ⟨h2.toArray⟩, .string ⟨#[]⟩, .string ⟨a1.toArray⟩, .string ⟨a2.toArray⟩, .string ⟨b1.toArray⟩, .string ⟨b2.toArray⟩, .string ⟨#[]⟩] 44) = q := ⟨_, rfl⟩
   have hkA : Keeps (fun _ => False) W WA := by rw [← hWA]; exact (Keeps.refl _ _).alloc _
   rw [hWA] at hal
   have hal2 := (MapKept.heap_alloc WA (.cells #[.string ⟨#[]⟩, .string ⟨#[]⟩] 40)).1
   have hkB : Keeps (fun _ => False) WA (WA.alloc (.cells #[.string ⟨#[]⟩, .string ⟨#[]⟩] 40)) := (Keeps.refl _ _).alloc _
   have hal1 := (hkB.block _ (lt_of_heap hal) (fun x => x)).trans hal
   have HK := Lib.hid (hkA.trans hkB)
   have HF : Hid (∀ w', Keeps (fun _ => False) W w' → Keeps (fun _ => False) (WA.alloc (.cells #[.string ⟨#[]⟩, .string ⟨#[]⟩] 40)) w' → w'.cell? ⟨W.heap.size, 0, none⟩ = some (.int .i64 4) ∧ w'.cell? ⟨W.heap.size, 1, none⟩ = some (.string ⟨h1.toArray⟩) ∧ w'.cell? ⟨W.heap.size, 2, none⟩ = some (.string ⟨h2.toArray⟩) ∧ w'.cell? ⟨W.heap.size, 3, none⟩ = some (.string ⟨#[]⟩) ∧ w'.cell? ⟨W.heap.size, 4, none⟩ = some (.string ⟨a1.toArray⟩) ∧ w'.cell? ⟨W.heap.size, 5, none⟩ = some (.string ⟨a2.toArray⟩) ∧ w'.cell? ⟨W.heap.size, 6, none⟩ = some (.string ⟨b1.toArray⟩) ∧ w'.cell? ⟨W.heap.size, 7, none⟩ = some (.string ⟨b2.toArray⟩) ∧ w'.cell? ⟨W.heap.size, 8, none⟩ = some (.string ⟨#[]⟩) ∧ w'.cell? ⟨WA.heap.size, 0, none⟩ = some (.string ⟨#[]⟩) ∧ w'.cell? ⟨WA.heap.size, 1, none⟩ = some (.string ⟨#[]⟩)) := fun w' _ hk => by
    have q1 := (hk.block _ (lt_of_heap hal1) (fun x => x)).trans hal1
    have q2 := (hk.block _ (lt_of_heap hal2) (fun x => x)).trans hal2
    refine ⟨?_, ?_, ?_, ?_, ?_, ?_, ?_, ?_, ?_, ?_, ?_⟩ <;> first | (rw [cell_of_heap q1]; rfl) | (rw [cell_of_heap q2]; rfl)
   have HZ : Hid (Keeps (fun _ => False) (WA.alloc (.cells #[.string ⟨#[]⟩, .string ⟨#[]⟩] 40)) (WA.alloc (.cells #[.string ⟨#[]⟩, .string ⟨#[]⟩] 40))) := Keeps.refl _ _
   clear hal hal1 hal2 hkA hkB
   unfold stmV
   go_enter Tryz.func40, Tryz.ntmps40
   go_upto_region 1 with fail
   clear hWA
   go_upto_region 2 with fail
   generalize WA.alloc (.cells #[.string ⟨#[]⟩, .string ⟨#[]⟩] 40) = WB at *
   obtain ⟨c0, c1, c2, c3, c4, c5, c6, c7, c8, n0, n1⟩ := HF.out _ HK.out HZ.out
   go_wp2_with (first | (go_at_call 41; refine (HH.out _).mono ?_; rintro e w2 ⟨rfl, hk⟩; clear c0 c1 c2 c3 c4 c5 c6 c7 c8 n0 n1; replace HK := Lib.hid (HK.out.trans hk.out); replace HZ := Lib.hid (HZ.out.trans hk.out); obtain ⟨c0, c1, c2, c3, c4, c5, c6, c7, c8, n0, n1⟩ := HF.out _ HK.out HZ.out; clear hk HH) | (go_at_call 41; refine (HA.out _).mono ?_; rintro e w2 ⟨rfl, hk⟩; clear c0 c1 c2 c3 c4 c5 c6 c7 c8 n0 n1; replace HK := Lib.hid (HK.out.trans hk.out); replace HZ := Lib.hid (HZ.out.trans hk.out); obtain ⟨c0, c1, c2, c3, c4, c5, c6, c7, c8, n0, n1⟩ := HF.out _ HK.out HZ.out; clear hk HA) | (go_at_call 41; refine (HB.out _).mono ?_; rintro e w2 ⟨rfl, hk⟩; clear c0 c1 c2 c3 c4 c5 c6 c7 c8 n0 n1; replace HK := Lib.hid (HK.out.trans hk.out); replace HZ := Lib.hid (HZ.out.trans hk.out); obtain ⟨c0, c1, c2, c3, c4, c5, c6, c7, c8, n0, n1⟩ := HF.out _ HK.out HZ.out; clear hk HB) | (go_at_call 47; refine (HL.out _).mono ?_; rintro e w2 ⟨rfl, hk⟩; clear c0 c1 c2 c3 c4 c5 c6 c7 c8 n0 n1; replace HK := Lib.hid (HK.out.trans hk.out); replace HZ := Lib.hid (HZ.out.trans hk.out); obtain ⟨c0, c1, c2, c3, c4, c5, c6, c7, c8, n0, n1⟩ := HF.out _ HK.out HZ.out; clear hk HL))
   go_ret
   exact ⟨rfl, HK⟩
end Go.Proofs.YtcdfpnlaklaafaaGreat
