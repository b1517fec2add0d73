/-
 The document's IsRole; its Right, of any statement.
-/
import Derived.Test.YtckikkkdabpjkaaGreatKitSq
import Derived.Test.YtckikkkdabpjkaaGreatMK
import Derived.Test.YtckikkkdabpjkaaGreatStmEql
set_option linter.unusedVariables false
set_option linter.unusedSimpArgs false
set_option linter.unnecessarySimpa false
namespace Go.Proofs.YtckikkkdabpjkaaGreat
open Go.ChangeShapes Go.WideShapes Go.ChangeAt Go.RowKit Go.Deep
set_option maxRecDepth 100000
set_option maxHeartbeats 3200000
theorem risrole_all {W : World} (r : Rol) : Calls Tryz.prog 49 #[rolV2 r] W fun e W' => e = .returned (.bool (roleB r)) ∧ Hid (KF W W') := by
 obtain ⟨a, b⟩ := r
 have HD : Hid (roleB (a, b) = (prinB a && nameB b)) := rfl
 have HP : Hid (∀ w, Calls Tryz.prog 50 #[.string ⟨a.toArray⟩] w fun e w' => e = .returned (.bool (prinB a)) ∧ w = w') := fun w => ref_prin _ w
 have HQ : Hid (∀ w, Calls Tryz.prog 51 #[.string ⟨b.toArray⟩] w fun e w' => e = .returned (.bool (nameB b)) ∧ w = w') := fun w => ref_name _ w
 have HK : Hid (KF W (W.alloc (bR a b))) := (Keeps.refl _ _).alloc _
 unfold rolV2
 obtain ⟨p, hp⟩ : ∃ p, prinB a = p := ⟨_, rfl⟩
 obtain ⟨q, hq⟩ : ∃ q, nameB b = q := ⟨_, rfl⟩
 rw [hp] at HP
 rw [hq] at HQ
 rw [hp, hq] at HD
 rw [HD.out]
 clear hp hq HD
 cases p
 ·go_enter Tryz.func49, Tryz.ntmps49
  go_wp2_with (go_at_call 50; refine (HP.out _).mono ?_; rintro e w2 ⟨rfl, rfl⟩)
  go_ret
  exact ⟨rfl, HK⟩
 ·cases q <;>
  (go_enter Tryz.func49, Tryz.ntmps49
   go_wp2_with (first | (go_at_call 50; refine (HP.out _).mono ?_; rintro e w2 ⟨rfl, rfl⟩) | (go_at_call 51; refine (HQ.out _).mono ?_; rintro e w2 ⟨rfl, rfl⟩))
   go_ret
   exact ⟨rfl, HK⟩)
theorem pre9 (W : World) (v0 v1 v2 v3 v4 v5 v6 v7 v8 : Value) : ∃ WA, W.alloc (.cells #[v0, v1, v2, v3, v4, v5, v6, v7, v8] 38) = WA ∧ Hid (KF W (WA.alloc (.cells #[.string ⟨#[]⟩, .string ⟨#[]⟩] 28))) ∧ Hid (∀ w', KF W w' → KF (WA.alloc (.cells #[.string ⟨#[]⟩, .string ⟨#[]⟩] 28)) w' → w'.cell? ⟨W.heap.size, 0, none⟩ = some v0 ∧ w'.cell? ⟨W.heap.size, 1, none⟩ = some v1 ∧ w'.cell? ⟨W.heap.size, 2, none⟩ = some v2 ∧ w'.cell? ⟨W.heap.size, 3, none⟩ = some v3 ∧ w'.cell? ⟨W.heap.size, 4, none⟩ = some v4 ∧ w'.cell? ⟨W.heap.size, 5, none⟩ = some v5 ∧ w'.cell? ⟨W.heap.size, 6, none⟩ = some v6 ∧ w'.cell? ⟨W.heap.size, 7, none⟩ = some v7 ∧ w'.cell? ⟨W.heap.size, 8, none⟩ = some v8 ∧ w'.cell? ⟨WA.heap.size, 0, none⟩ = some (.string ⟨#[]⟩) ∧ w'.cell? ⟨WA.heap.size, 1, none⟩ = some (.string ⟨#[]⟩)) ∧ Hid (KF (WA.alloc (.cells #[.string ⟨#[]⟩, .string ⟨#[]⟩] 28)) (WA.alloc (.cells #[.string ⟨#[]⟩, .string ⟨#[]⟩] 28))) := by
 have hal := (MapKept.heap_alloc W (.cells #[v0, v1, v2, v3, v4, v5, v6, v7, v8] 38)).1
 obtain ⟨WA, hWA⟩ : ∃ q, W.alloc (.cells #[v0, v1, v2, v3, v4, v5, v6, v7, v8] 38) = q := ⟨_, rfl⟩
 have hkA : KF W WA := by rw [← hWA]; exact (Keeps.refl _ _).alloc _
 rw [hWA] at hal
 have hal2 := (MapKept.heap_alloc WA (.cells #[.string ⟨#[]⟩, .string ⟨#[]⟩] 28)).1
 have hkB : KF WA (WA.alloc (.cells #[.string ⟨#[]⟩, .string ⟨#[]⟩] 28)) := (Keeps.refl _ _).alloc _
 have hal1 := (hkB.block _ (lt_of_heap hal) (fun x => x)).trans hal
 refine ⟨WA, hWA, hkA.trans hkB, fun w' _ hk => ?_, Keeps.refl _ _⟩
 have q1 := (hk.block _ (lt_of_heap hal1) (fun x => x)).trans hal1
 have q2 := (hk.block _ (lt_of_heap hal2) (fun x => x)).trans hal2
 refine ⟨?_, ?_, ?_, ?_, ?_, ?_, ?_, ?_, ?_, ?_, ?_⟩ <;> first | (rw [cell_of_heap q1]; rfl) | (rw [cell_of_heap q2]; rfl)
theorem rstmright_all {W : World} (y : Stm) : Calls Tryz.prog 19 #[stmV y] W fun e W' => e = .returned (.bool (stmRB y)) ∧ Hid (KF W W') := by
 obtain ⟨⟨h1, h2⟩, k, o, ⟨a1, a2⟩, ⟨b1, b2⟩, i⟩ := y
 cases eH : roleB (h1, h2)
 case false =>
  have HH : Hid (∀ w, Calls Tryz.prog 49 #[.agg #[.string ⟨h1.toArray⟩, .string ⟨h2.toArray⟩]] w fun e w' => e = .returned (.bool false) ∧ Hid (KF w w')) := fun w => (risrole_all (h1, h2)).mono fun _ _ h => ⟨by rw [h.1, eH], h.2⟩
  have hres : stmRB ((h1, h2), k, o, (a1, a2), (b1, b2), i) = false := by unfold stmRB; simp [noRol, eH]
  rw [hres]
  clear hres eH
  obtain ⟨WA, hWA, HK, HF, HZ⟩ := pre9 W (.int .i64 k) (.string ⟨h1.toArray⟩) (.string ⟨h2.toArray⟩) (.string ⟨o.toArray⟩) (.string ⟨a1.toArray⟩) (.string ⟨a2.toArray⟩) (.string ⟨b1.toArray⟩) (.string ⟨b2.toArray⟩) (.string ⟨i.toArray⟩)
  unfold stmV
  go_enter Tryz.func19, Tryz.ntmps19
  go_upto_region 1 with fail
  clear hWA
  go_upto_region 2 with fail
  generalize WA.alloc (.cells #[.string ⟨#[]⟩, .string ⟨#[]⟩] 28) = WB at *
  obtain ⟨c0, c1, c2, c3, c4, c5, c6, c7, c8, n0, n1⟩ := HF.out _ HK.out HZ.out
  go_wp2_with (first | (go_at_call 49; refine (HH.out _).mono ?_; rintro e w2 ⟨rfl, hk⟩; clear c0 c1 c2 c3 c4 c5 c6 c7 c8 n0 n1; replace HK := Lib.hid (HK.out.trans hk.out); replace HZ := Lib.hid (HZ.out.trans hk.out); obtain ⟨c0, c1, c2, c3, c4, c5, c6, c7, c8, n0, n1⟩ := HF.out _ HK.out HZ.out; clear hk HH))
  go_ret
  exact ⟨rfl, HK⟩
 case true =>
  by_cases k1 : k = 1
  case pos =>
   subst k1
   cases eW : prinB o
   case false =>
    have HH : Hid (∀ w, Calls Tryz.prog 49 #[.agg #[.string ⟨h1.toArray⟩, .string ⟨h2.toArray⟩]] w fun e w' => e = .returned (.bool true) ∧ Hid (KF w w')) := fun w => (risrole_all (h1, h2)).mono fun _ _ h => ⟨by rw [h.1, eH], h.2⟩
    have HW : Hid (∀ w, Calls Tryz.prog 50 #[.string ⟨o.toArray⟩] w fun e w' => e = .returned (.bool false) ∧ w = w') := fun w => (ref_prin _ w).mono fun _ _ h => ⟨by rw [h.1]; exact congrArg (fun z => Ending.returned (Value.bool z)) eW, h.2⟩
    have hres : stmRB ((h1, h2), 1, o, (a1, a2), (b1, b2), i) = false := by unfold stmRB; simp [noRol, eH, eW]
    rw [hres]
    clear hres eH eW
    obtain ⟨WA, hWA, HK, HF, HZ⟩ := pre9 W (.int .i64 1) (.string ⟨h1.toArray⟩) (.string ⟨h2.toArray⟩) (.string ⟨o.toArray⟩) (.string ⟨a1.toArray⟩) (.string ⟨a2.toArray⟩) (.string ⟨b1.toArray⟩) (.string ⟨b2.toArray⟩) (.string ⟨i.toArray⟩)
    unfold stmV
    go_enter Tryz.func19, Tryz.ntmps19
    go_upto_region 1 with fail
    clear hWA
    go_upto_region 2 with fail
    generalize WA.alloc (.cells #[.string ⟨#[]⟩, .string ⟨#[]⟩] 28) = WB at *
    obtain ⟨c0, c1, c2, c3, c4, c5, c6, c7, c8, n0, n1⟩ := HF.out _ HK.out HZ.out
    go_wp2_with (first | (go_at_call 49; refine (HH.out _).mono ?_; rintro e w2 ⟨rfl, hk⟩; clear c0 c1 c2 c3 c4 c5 c6 c7 c8 n0 n1; replace HK := Lib.hid (HK.out.trans hk.out); replace HZ := Lib.hid (HZ.out.trans hk.out); obtain ⟨c0, c1, c2, c3, c4, c5, c6, c7, c8, n0, n1⟩ := HF.out _ HK.out HZ.out; clear hk HH) | (go_at_call 50; refine (HW.out _).mono ?_; rintro e w2 ⟨rfl, rfl⟩))
    go_ret
    exact ⟨rfl, HK⟩
   case true =>
    by_cases xa : (a1, a2) = noRol
    case neg =>
     have qa : ∀ w, (binOp .eql 28 (.agg #[.string ⟨a1.toArray⟩, .string ⟨a2.toArray⟩]) (.agg #[.string ⟨#[]⟩, .string ⟨#[]⟩])).run Tryz.prog w = .ok (.bool false) w := fun w => by
      have q := rol_eql (a1, a2) noRol w
      rw [decide_eq_false xa] at q
      exact q
     have ya := xa
     unfold noRol at ya
     simp only [Prod.mk.injEq] at ya
     have HH : Hid (∀ w, Calls Tryz.prog 49 #[.agg #[.string ⟨h1.toArray⟩, .string ⟨h2.toArray⟩]] w fun e w' => e = .returned (.bool true) ∧ Hid (KF w w')) := fun w => (risrole_all (h1, h2)).mono fun _ _ h => ⟨by rw [h.1, eH], h.2⟩
     have HW : Hid (∀ w, Calls Tryz.prog 50 #[.string ⟨o.toArray⟩] w fun e w' => e = .returned (.bool true) ∧ w = w') := fun w => (ref_prin _ w).mono fun _ _ h => ⟨by rw [h.1]; exact congrArg (fun z => Ending.returned (Value.bool z)) eW, h.2⟩
     have hres : stmRB ((h1, h2), 1, o, (a1, a2), (b1, b2), i) = false := by unfold stmRB; simp [noRol, eH, eW, ya]
     rw [hres]
     clear hres eH eW ya
     obtain ⟨WA, hWA, HK, HF, HZ⟩ := pre9 W (.int .i64 1) (.string ⟨h1.toArray⟩) (.string ⟨h2.toArray⟩) (.string ⟨o.toArray⟩) (.string ⟨a1.toArray⟩) (.string ⟨a2.toArray⟩) (.string ⟨b1.toArray⟩) (.string ⟨b2.toArray⟩) (.string ⟨i.toArray⟩)
     unfold stmV
     go_enter Tryz.func19, Tryz.ntmps19
     go_upto_region 1 with fail
     clear hWA
     go_upto_region 2 with fail
     generalize WA.alloc (.cells #[.string ⟨#[]⟩, .string ⟨#[]⟩] 28) = WB at *
     obtain ⟨c0, c1, c2, c3, c4, c5, c6, c7, c8, n0, n1⟩ := HF.out _ HK.out HZ.out
     go_wp2_with (first | (go_at_call 49; refine (HH.out _).mono ?_; rintro e w2 ⟨rfl, hk⟩; clear c0 c1 c2 c3 c4 c5 c6 c7 c8 n0 n1; replace HK := Lib.hid (HK.out.trans hk.out); replace HZ := Lib.hid (HZ.out.trans hk.out); obtain ⟨c0, c1, c2, c3, c4, c5, c6, c7, c8, n0, n1⟩ := HF.out _ HK.out HZ.out; clear hk HH) | (go_at_call 50; refine (HW.out _).mono ?_; rintro e w2 ⟨rfl, rfl⟩))
     go_ret
     exact ⟨rfl, HK⟩
    case pos =>
     unfold noRol at xa
     simp only [Prod.mk.injEq] at xa
     obtain ⟨rfl, rfl⟩ := xa
     by_cases xb : (b1, b2) = noRol
     case neg =>
      have qb : ∀ w, (binOp .eql 28 (.agg #[.string ⟨b1.toArray⟩, .string ⟨b2.toArray⟩]) (.agg #[.string ⟨#[]⟩, .string ⟨#[]⟩])).run Tryz.prog w = .ok (.bool false) w := fun w => by
       have q := rol_eql (b1, b2) noRol w
       rw [decide_eq_false xb] at q
       exact q
      have yb := xb
      unfold noRol at yb
      simp only [Prod.mk.injEq] at yb
      have HH : Hid (∀ w, Calls Tryz.prog 49 #[.agg #[.string ⟨h1.toArray⟩, .string ⟨h2.toArray⟩]] w fun e w' => e = .returned (.bool true) ∧ Hid (KF w w')) := fun w => (risrole_all (h1, h2)).mono fun _ _ h => ⟨by rw [h.1, eH], h.2⟩
      have HW : Hid (∀ w, Calls Tryz.prog 50 #[.string ⟨o.toArray⟩] w fun e w' => e = .returned (.bool true) ∧ w = w') := fun w => (ref_prin _ w).mono fun _ _ h => ⟨by rw [h.1]; exact congrArg (fun z => Ending.returned (Value.bool z)) eW, h.2⟩
      have hres : stmRB ((h1, h2), 1, o, ([], []), (b1, b2), i) = false := by unfold stmRB; simp [noRol, eH, eW, yb]
      rw [hres]
      clear hres eH eW yb
      obtain ⟨WA, hWA, HK, HF, HZ⟩ := pre9 W (.int .i64 1) (.string ⟨h1.toArray⟩) (.string ⟨h2.toArray⟩) (.string ⟨o.toArray⟩) (.string ⟨#[]⟩) (.string ⟨#[]⟩) (.string ⟨b1.toArray⟩) (.string ⟨b2.toArray⟩) (.string ⟨i.toArray⟩)
      unfold stmV
      go_enter Tryz.func19, Tryz.ntmps19
      go_upto_region 1 with fail
      clear hWA
      go_upto_region 2 with fail
      generalize WA.alloc (.cells #[.string ⟨#[]⟩, .string ⟨#[]⟩] 28) = WB at *
      obtain ⟨c0, c1, c2, c3, c4, c5, c6, c7, c8, n0, n1⟩ := HF.out _ HK.out HZ.out
      go_wp2_with (first | (go_at_call 49; refine (HH.out _).mono ?_; rintro e w2 ⟨rfl, hk⟩; clear c0 c1 c2 c3 c4 c5 c6 c7 c8 n0 n1; replace HK := Lib.hid (HK.out.trans hk.out); replace HZ := Lib.hid (HZ.out.trans hk.out); obtain ⟨c0, c1, c2, c3, c4, c5, c6, c7, c8, n0, n1⟩ := HF.out _ HK.out HZ.out; clear hk HH) | (go_at_call 50; refine (HW.out _).mono ?_; rintro e w2 ⟨rfl, rfl⟩))
      go_ret
      exact ⟨rfl, HK⟩
     case pos =>
      unfold noRol at xb
      simp only [Prod.mk.injEq] at xb
      obtain ⟨rfl, rfl⟩ := xb
      by_cases xi : i = []
      case neg =>
       have qi : (i == []) = false := beq_eq_false_iff_ne.2 xi
       have HH : Hid (∀ w, Calls Tryz.prog 49 #[.agg #[.string ⟨h1.toArray⟩, .string ⟨h2.toArray⟩]] w fun e w' => e = .returned (.bool true) ∧ Hid (KF w w')) := fun w => (risrole_all (h1, h2)).mono fun _ _ h => ⟨by rw [h.1, eH], h.2⟩
       have HW : Hid (∀ w, Calls Tryz.prog 50 #[.string ⟨o.toArray⟩] w fun e w' => e = .returned (.bool true) ∧ w = w') := fun w => (ref_prin _ w).mono fun _ _ h => ⟨by rw [h.1]; exact congrArg (fun z => Ending.returned (Value.bool z)) eW, h.2⟩
       have hres : stmRB ((h1, h2), 1, o, ([], []), ([], []), i) = false := by unfold stmRB; simp [noRol, eH, eW, xi]
       rw [hres]
       clear hres eH eW
       obtain ⟨WA, hWA, HK, HF, HZ⟩ := pre9 W (.int .i64 1) (.string ⟨h1.toArray⟩) (.string ⟨h2.toArray⟩) (.string ⟨o.toArray⟩) (.string ⟨#[]⟩) (.string ⟨#[]⟩) (.string ⟨#[]⟩) (.string ⟨#[]⟩) (.string ⟨i.toArray⟩)
       unfold stmV
       go_enter Tryz.func19, Tryz.ntmps19
       go_upto_region 1 with fail
       clear hWA
       go_upto_region 2 with fail
       generalize WA.alloc (.cells #[.string ⟨#[]⟩, .string ⟨#[]⟩] 28) = WB at *
       obtain ⟨c0, c1, c2, c3, c4, c5, c6, c7, c8, n0, n1⟩ := HF.out _ HK.out HZ.out
       go_wp2_with (first | (go_at_call 49; refine (HH.out _).mono ?_; rintro e w2 ⟨rfl, hk⟩; clear c0 c1 c2 c3 c4 c5 c6 c7 c8 n0 n1; replace HK := Lib.hid (HK.out.trans hk.out); replace HZ := Lib.hid (HZ.out.trans hk.out); obtain ⟨c0, c1, c2, c3, c4, c5, c6, c7, c8, n0, n1⟩ := HF.out _ HK.out HZ.out; clear hk HH) | (go_at_call 50; refine (HW.out _).mono ?_; rintro e w2 ⟨rfl, rfl⟩))
       go_ret
       exact ⟨rfl, HK⟩
      case pos =>
       subst xi
       have HH : Hid (∀ w, Calls Tryz.prog 49 #[.agg #[.string ⟨h1.toArray⟩, .string ⟨h2.toArray⟩]] w fun e w' => e = .returned (.bool true) ∧ Hid (KF w w')) := fun w => (risrole_all (h1, h2)).mono fun _ _ h => ⟨by rw [h.1, eH], h.2⟩
       have HW : Hid (∀ w, Calls Tryz.prog 50 #[.string ⟨o.toArray⟩] w fun e w' => e = .returned (.bool true) ∧ w = w') := fun w => (ref_prin _ w).mono fun _ _ h => ⟨by rw [h.1]; exact congrArg (fun z => Ending.returned (Value.bool z)) eW, h.2⟩
       have hres : stmRB ((h1, h2), 1, o, ([], []), ([], []), []) = true := by unfold stmRB; simp [noRol, eH, eW]
       rw [hres]
       clear hres eH eW
       obtain ⟨WA, hWA, HK, HF, HZ⟩ := pre9 W (.int .i64 1) (.string ⟨h1.toArray⟩) (.string ⟨h2.toArray⟩) (.string ⟨o.toArray⟩) (.string ⟨#[]⟩) (.string ⟨#[]⟩) (.string ⟨#[]⟩) (.string ⟨#[]⟩) (.string ⟨#[]⟩)
       unfold stmV
       go_enter Tryz.func19, Tryz.ntmps19
       go_upto_region 1 with fail
       clear hWA
       go_upto_region 2 with fail
       generalize WA.alloc (.cells #[.string ⟨#[]⟩, .string ⟨#[]⟩] 28) = WB at *
       obtain ⟨c0, c1, c2, c3, c4, c5, c6, c7, c8, n0, n1⟩ := HF.out _ HK.out HZ.out
       go_wp2_with (first | (go_at_call 49; refine (HH.out _).mono ?_; rintro e w2 ⟨rfl, hk⟩; clear c0 c1 c2 c3 c4 c5 c6 c7 c8 n0 n1; replace HK := Lib.hid (HK.out.trans hk.out); replace HZ := Lib.hid (HZ.out.trans hk.out); obtain ⟨c0, c1, c2, c3, c4, c5, c6, c7, c8, n0, n1⟩ := HF.out _ HK.out HZ.out; clear hk HH) | (go_at_call 50; refine (HW.out _).mono ?_; rintro e w2 ⟨rfl, rfl⟩))
       go_ret
       exact ⟨rfl, HK⟩
  case neg =>
   by_cases k2 : k = 2
   case pos =>
    subst k2
    by_cases xo : o = []
    case neg =>
     have qo : (o == []) = false := beq_eq_false_iff_ne.2 xo
     have HH : Hid (∀ w, Calls Tryz.prog 49 #[.agg #[.string ⟨h1.toArray⟩, .string ⟨h2.toArray⟩]] w fun e w' => e = .returned (.bool true) ∧ Hid (KF w w')) := fun w => (risrole_all (h1, h2)).mono fun _ _ h => ⟨by rw [h.1, eH], h.2⟩
     have hres : stmRB ((h1, h2), 2, o, (a1, a2), (b1, b2), i) = false := by unfold stmRB; simp [noRol, eH, xo]
     rw [hres]
     clear hres eH
     obtain ⟨WA, hWA, HK, HF, HZ⟩ := pre9 W (.int .i64 2) (.string ⟨h1.toArray⟩) (.string ⟨h2.toArray⟩) (.string ⟨o.toArray⟩) (.string ⟨a1.toArray⟩) (.string ⟨a2.toArray⟩) (.string ⟨b1.toArray⟩) (.string ⟨b2.toArray⟩) (.string ⟨i.toArray⟩)
     unfold stmV
     go_enter Tryz.func19, Tryz.ntmps19
     go_upto_region 1 with fail
     clear hWA
     go_upto_region 2 with fail
     generalize WA.alloc (.cells #[.string ⟨#[]⟩, .string ⟨#[]⟩] 28) = WB at *
     obtain ⟨c0, c1, c2, c3, c4, c5, c6, c7, c8, n0, n1⟩ := HF.out _ HK.out HZ.out
     go_wp2_with (first | (go_at_call 49; refine (HH.out _).mono ?_; rintro e w2 ⟨rfl, hk⟩; clear c0 c1 c2 c3 c4 c5 c6 c7 c8 n0 n1; replace HK := Lib.hid (HK.out.trans hk.out); replace HZ := Lib.hid (HZ.out.trans hk.out); obtain ⟨c0, c1, c2, c3, c4, c5, c6, c7, c8, n0, n1⟩ := HF.out _ HK.out HZ.out; clear hk HH))
     go_ret
     exact ⟨rfl, HK⟩
    case pos =>
     subst xo
     cases eA : roleB (a1, a2)
     case false =>
      have HH : Hid (∀ w, Calls Tryz.prog 49 #[.agg #[.string ⟨h1.toArray⟩, .string ⟨h2.toArray⟩]] w fun e w' => e = .returned (.bool true) ∧ Hid (KF w w')) := fun w => (risrole_all (h1, h2)).mono fun _ _ h => ⟨by rw [h.1, eH], h.2⟩
      have HA : Hid (∀ w, Calls Tryz.prog 49 #[.agg #[.string ⟨a1.toArray⟩, .string ⟨a2.toArray⟩]] w fun e w' => e = .returned (.bool false) ∧ Hid (KF w w')) := fun w => (risrole_all (a1, a2)).mono fun _ _ h => ⟨by rw [h.1, eA], h.2⟩
      have hres : stmRB ((h1, h2), 2, [], (a1, a2), (b1, b2), i) = false := by unfold stmRB; simp [noRol, eH, eA]
      rw [hres]
      clear hres eH eA
      obtain ⟨WA, hWA, HK, HF, HZ⟩ := pre9 W (.int .i64 2) (.string ⟨h1.toArray⟩) (.string ⟨h2.toArray⟩) (.string ⟨#[]⟩) (.string ⟨a1.toArray⟩) (.string ⟨a2.toArray⟩) (.string ⟨b1.toArray⟩) (.string ⟨b2.toArray⟩) (.string ⟨i.toArray⟩)
      unfold stmV
      go_enter Tryz.func19, Tryz.ntmps19
      go_upto_region 1 with fail
      clear hWA
      go_upto_region 2 with fail
      generalize WA.alloc (.cells #[.string ⟨#[]⟩, .string ⟨#[]⟩] 28) = WB at *
      obtain ⟨c0, c1, c2, c3, c4, c5, c6, c7, c8, n0, n1⟩ := HF.out _ HK.out HZ.out
      go_wp2_with (first | (go_at_call 49; refine (HH.out _).mono ?_; rintro e w2 ⟨rfl, hk⟩; clear c0 c1 c2 c3 c4 c5 c6 c7 c8 n0 n1; replace HK := Lib.hid (HK.out.trans hk.out); replace HZ := Lib.hid (HZ.out.trans hk.out); obtain ⟨c0, c1, c2, c3, c4, c5, c6, c7, c8, n0, n1⟩ := HF.out _ HK.out HZ.out; clear hk HH) | (go_at_call 49; refine (HA.out _).mono ?_; rintro e w2 ⟨rfl, hk⟩; clear c0 c1 c2 c3 c4 c5 c6 c7 c8 n0 n1; replace HK := Lib.hid (HK.out.trans hk.out); replace HZ := Lib.hid (HZ.out.trans hk.out); obtain ⟨c0, c1, c2, c3, c4, c5, c6, c7, c8, n0, n1⟩ := HF.out _ HK.out HZ.out; clear hk HA))
      go_ret
      exact ⟨rfl, HK⟩
     case true =>
      by_cases xb : (b1, b2) = noRol
      case neg =>
       have qb : ∀ w, (binOp .eql 28 (.agg #[.string ⟨b1.toArray⟩, .string ⟨b2.toArray⟩]) (.agg #[.string ⟨#[]⟩, .string ⟨#[]⟩])).run Tryz.prog w = .ok (.bool false) w := fun w => by
        have q := rol_eql (b1, b2) noRol w
        rw [decide_eq_false xb] at q
        exact q
       have yb := xb
       unfold noRol at yb
       simp only [Prod.mk.injEq] at yb
       have HH : Hid (∀ w, Calls Tryz.prog 49 #[.agg #[.string ⟨h1.toArray⟩, .string ⟨h2.toArray⟩]] w fun e w' => e = .returned (.bool true) ∧ Hid (KF w w')) := fun w => (risrole_all (h1, h2)).mono fun _ _ h => ⟨by rw [h.1, eH], h.2⟩
       have HA : Hid (∀ w, Calls Tryz.prog 49 #[.agg #[.string ⟨a1.toArray⟩, .string ⟨a2.toArray⟩]] w fun e w' => e = .returned (.bool true) ∧ Hid (KF w w')) := fun w => (risrole_all (a1, a2)).mono fun _ _ h => ⟨by rw [h.1, eA], h.2⟩
       have hres : stmRB ((h1, h2), 2, [], (a1, a2), (b1, b2), i) = false := by unfold stmRB; simp [noRol, eH, eA, yb]
       rw [hres]
       clear hres eH eA yb
       obtain ⟨WA, hWA, HK, HF, HZ⟩ := pre9 W (.int .i64 2) (.string ⟨h1.toArray⟩) (.string ⟨h2.toArray⟩) (.string ⟨#[]⟩) (.string ⟨a1.toArray⟩) (.string ⟨a2.toArray⟩) (.string ⟨b1.toArray⟩) (.string ⟨b2.toArray⟩) (.string ⟨i.toArray⟩)
       unfold stmV
       go_enter Tryz.func19, Tryz.ntmps19
       go_upto_region 1 with fail
       clear hWA
       go_upto_region 2 with fail
       generalize WA.alloc (.cells #[.string ⟨#[]⟩, .string ⟨#[]⟩] 28) = WB at *
       obtain ⟨c0, c1, c2, c3, c4, c5, c6, c7, c8, n0, n1⟩ := HF.out _ HK.out HZ.out
       go_wp2_with (first | (go_at_call 49; refine (HH.out _).mono ?_; rintro e w2 ⟨rfl, hk⟩; clear c0 c1 c2 c3 c4 c5 c6 c7 c8 n0 n1; replace HK := Lib.hid (HK.out.trans hk.out); replace HZ := Lib.hid (HZ.out.trans hk.out); obtain ⟨c0, c1, c2, c3, c4, c5, c6, c7, c8, n0, n1⟩ := HF.out _ HK.out HZ.out; clear hk HH) | (go_at_call 49; refine (HA.out _).mono ?_; rintro e w2 ⟨rfl, hk⟩; clear c0 c1 c2 c3 c4 c5 c6 c7 c8 n0 n1; replace HK := Lib.hid (HK.out.trans hk.out); replace HZ := Lib.hid (HZ.out.trans hk.out); obtain ⟨c0, c1, c2, c3, c4, c5, c6, c7, c8, n0, n1⟩ := HF.out _ HK.out HZ.out; clear hk HA))
       go_ret
       exact ⟨rfl, HK⟩
      case pos =>
       unfold noRol at xb
       simp only [Prod.mk.injEq] at xb
       obtain ⟨rfl, rfl⟩ := xb
       by_cases xi : i = []
       case neg =>
        have qi : (i == []) = false := beq_eq_false_iff_ne.2 xi
        have HH : Hid (∀ w, Calls Tryz.prog 49 #[.agg #[.string ⟨h1.toArray⟩, .string ⟨h2.toArray⟩]] w fun e w' => e = .returned (.bool true) ∧ Hid (KF w w')) := fun w => (risrole_all (h1, h2)).mono fun _ _ h => ⟨by rw [h.1, eH], h.2⟩
        have HA : Hid (∀ w, Calls Tryz.prog 49 #[.agg #[.string ⟨a1.toArray⟩, .string ⟨a2.toArray⟩]] w fun e w' => e = .returned (.bool true) ∧ Hid (KF w w')) := fun w => (risrole_all (a1, a2)).mono fun _ _ h => ⟨by rw [h.1, eA], h.2⟩
        have hres : stmRB ((h1, h2), 2, [], (a1, a2), ([], []), i) = false := by unfold stmRB; simp [noRol, eH, eA, xi]
        rw [hres]
        clear hres eH eA
        obtain ⟨WA, hWA, HK, HF, HZ⟩ := pre9 W (.int .i64 2) (.string ⟨h1.toArray⟩) (.string ⟨h2.toArray⟩) (.string ⟨#[]⟩) (.string ⟨a1.toArray⟩) (.string ⟨a2.toArray⟩) (.string ⟨#[]⟩) (.string ⟨#[]⟩) (.string ⟨i.toArray⟩)
        unfold stmV
        go_enter Tryz.func19, Tryz.ntmps19
        go_upto_region 1 with fail
        clear hWA
        go_upto_region 2 with fail
        generalize WA.alloc (.cells #[.string ⟨#[]⟩, .string ⟨#[]⟩] 28) = WB at *
        obtain ⟨c0, c1, c2, c3, c4, c5, c6, c7, c8, n0, n1⟩ := HF.out _ HK.out HZ.out
        go_wp2_with (first | (go_at_call 49; refine (HH.out _).mono ?_; rintro e w2 ⟨rfl, hk⟩; clear c0 c1 c2 c3 c4 c5 c6 c7 c8 n0 n1; replace HK := Lib.hid (HK.out.trans hk.out); replace HZ := Lib.hid (HZ.out.trans hk.out); obtain ⟨c0, c1, c2, c3, c4, c5, c6, c7, c8, n0, n1⟩ := HF.out _ HK.out HZ.out; clear hk HH) | (go_at_call 49; refine (HA.out _).mono ?_; rintro e w2 ⟨rfl, hk⟩; clear c0 c1 c2 c3 c4 c5 c6 c7 c8 n0 n1; replace HK := Lib.hid (HK.out.trans hk.out); replace HZ := Lib.hid (HZ.out.trans hk.out); obtain ⟨c0, c1, c2, c3, c4, c5, c6, c7, c8, n0, n1⟩ := HF.out _ HK.out HZ.out; clear hk HA))
        go_ret
        exact ⟨rfl, HK⟩
       case pos =>
        subst xi
        have HH : Hid (∀ w, Calls Tryz.prog 49 #[.agg #[.string ⟨h1.toArray⟩, .string ⟨h2.toArray⟩]] w fun e w' => e = .returned (.bool true) ∧ Hid (KF w w')) := fun w => (risrole_all (h1, h2)).mono fun _ _ h => ⟨by rw [h.1, eH], h.2⟩
        have HA : Hid (∀ w, Calls Tryz.prog 49 #[.agg #[.string ⟨a1.toArray⟩, .string ⟨a2.toArray⟩]] w fun e w' => e = .returned (.bool true) ∧ Hid (KF w w')) := fun w => (risrole_all (a1, a2)).mono fun _ _ h => ⟨by rw [h.1, eA], h.2⟩
        have hres : stmRB ((h1, h2), 2, [], (a1, a2), ([], []), []) = true := by unfold stmRB; simp [noRol, eH, eA]
        rw [hres]
        clear hres eH eA
        obtain ⟨WA, hWA, HK, HF, HZ⟩ := pre9 W (.int .i64 2) (.string ⟨h1.toArray⟩) (.string ⟨h2.toArray⟩) (.string ⟨#[]⟩) (.string ⟨a1.toArray⟩) (.string ⟨a2.toArray⟩) (.string ⟨#[]⟩) (.string ⟨#[]⟩) (.string ⟨#[]⟩)
        unfold stmV
        go_enter Tryz.func19, Tryz.ntmps19
        go_upto_region 1 with fail
        clear hWA
        go_upto_region 2 with fail
        generalize WA.alloc (.cells #[.string ⟨#[]⟩, .string ⟨#[]⟩] 28) = WB at *
        obtain ⟨c0, c1, c2, c3, c4, c5, c6, c7, c8, n0, n1⟩ := HF.out _ HK.out HZ.out
        go_wp2_with (first | (go_at_call 49; refine (HH.out _).mono ?_; rintro e w2 ⟨rfl, hk⟩; clear c0 c1 c2 c3 c4 c5 c6 c7 c8 n0 n1; replace HK := Lib.hid (HK.out.trans hk.out); replace HZ := Lib.hid (HZ.out.trans hk.out); obtain ⟨c0, c1, c2, c3, c4, c5, c6, c7, c8, n0, n1⟩ := HF.out _ HK.out HZ.out; clear hk HH) | (go_at_call 49; refine (HA.out _).mono ?_; rintro e w2 ⟨rfl, hk⟩; clear c0 c1 c2 c3 c4 c5 c6 c7 c8 n0 n1; replace HK := Lib.hid (HK.out.trans hk.out); replace HZ := Lib.hid (HZ.out.trans hk.out); obtain ⟨c0, c1, c2, c3, c4, c5, c6, c7, c8, n0, n1⟩ := HF.out _ HK.out HZ.out; clear hk HA))
        go_ret
        exact ⟨rfl, HK⟩
   case neg =>
    by_cases k3 : k = 3
    case pos =>
     subst k3
     by_cases xo : o = []
     case neg =>
      have qo : (o == []) = false := beq_eq_false_iff_ne.2 xo
      have HH : Hid (∀ w, Calls Tryz.prog 49 #[.agg #[.string ⟨h1.toArray⟩, .string ⟨h2.toArray⟩]] w fun e w' => e = .returned (.bool true) ∧ Hid (KF w w')) := fun w => (risrole_all (h1, h2)).mono fun _ _ h => ⟨by rw [h.1, eH], h.2⟩
      have hres : stmRB ((h1, h2), 3, o, (a1, a2), (b1, b2), i) = false := by unfold stmRB; simp [noRol, eH, xo]
      rw [hres]
      clear hres eH
      obtain ⟨WA, hWA, HK, HF, HZ⟩ := pre9 W (.int .i64 3) (.string ⟨h1.toArray⟩) (.string ⟨h2.toArray⟩) (.string ⟨o.toArray⟩) (.string ⟨a1.toArray⟩) (.string ⟨a2.toArray⟩) (.string ⟨b1.toArray⟩) (.string ⟨b2.toArray⟩) (.string ⟨i.toArray⟩)
      unfold stmV
      go_enter Tryz.func19, Tryz.ntmps19
      go_upto_region 1 with fail
      clear hWA
      go_upto_region 2 with fail
      generalize WA.alloc (.cells #[.string ⟨#[]⟩, .string ⟨#[]⟩] 28) = WB at *
      obtain ⟨c0, c1, c2, c3, c4, c5, c6, c7, c8, n0, n1⟩ := HF.out _ HK.out HZ.out
      go_wp2_with (first | (go_at_call 49; refine (HH.out _).mono ?_; rintro e w2 ⟨rfl, hk⟩; clear c0 c1 c2 c3 c4 c5 c6 c7 c8 n0 n1; replace HK := Lib.hid (HK.out.trans hk.out); replace HZ := Lib.hid (HZ.out.trans hk.out); obtain ⟨c0, c1, c2, c3, c4, c5, c6, c7, c8, n0, n1⟩ := HF.out _ HK.out HZ.out; clear hk HH))
      go_ret
      exact ⟨rfl, HK⟩
     case pos =>
      subst xo
      cases eA : roleB (a1, a2)
      case false =>
       have HH : Hid (∀ w, Calls Tryz.prog 49 #[.agg #[.string ⟨h1.toArray⟩, .string ⟨h2.toArray⟩]] w fun e w' => e = .returned (.bool true) ∧ Hid (KF w w')) := fun w => (risrole_all (h1, h2)).mono fun _ _ h => ⟨by rw [h.1, eH], h.2⟩
       have HA : Hid (∀ w, Calls Tryz.prog 49 #[.agg #[.string ⟨a1.toArray⟩, .string ⟨a2.toArray⟩]] w fun e w' => e = .returned (.bool false) ∧ Hid (KF w w')) := fun w => (risrole_all (a1, a2)).mono fun _ _ h => ⟨by rw [h.1, eA], h.2⟩
       have hres : stmRB ((h1, h2), 3, [], (a1, a2), (b1, b2), i) = false := by unfold stmRB; simp [noRol, eH, eA]
       rw [hres]
       clear hres eH eA
       obtain ⟨WA, hWA, HK, HF, HZ⟩ := pre9 W (.int .i64 3) (.string ⟨h1.toArray⟩) (.string ⟨h2.toArray⟩) (.string ⟨#[]⟩) (.string ⟨a1.toArray⟩) (.string ⟨a2.toArray⟩) (.string ⟨b1.toArray⟩) (.string ⟨b2.toArray⟩) (.string ⟨i.toArray⟩)
       unfold stmV
       go_enter Tryz.func19, Tryz.ntmps19
       go_upto_region 1 with fail
       clear hWA
       go_upto_region 2 with fail
       generalize WA.alloc (.cells #[.string ⟨#[]⟩, .string ⟨#[]⟩] 28) = WB at *
       obtain ⟨c0, c1, c2, c3, c4, c5, c6, c7, c8, n0, n1⟩ := HF.out _ HK.out HZ.out
       go_wp2_with (first | (go_at_call 49; refine (HH.out _).mono ?_; rintro e w2 ⟨rfl, hk⟩; clear c0 c1 c2 c3 c4 c5 c6 c7 c8 n0 n1; replace HK := Lib.hid (HK.out.trans hk.out); replace HZ := Lib.hid (HZ.out.trans hk.out); obtain ⟨c0, c1, c2, c3, c4, c5, c6, c7, c8, n0, n1⟩ := HF.out _ HK.out HZ.out; clear hk HH) | (go_at_call 49; refine (HA.out _).mono ?_; rintro e w2 ⟨rfl, hk⟩; clear c0 c1 c2 c3 c4 c5 c6 c7 c8 n0 n1; replace HK := Lib.hid (HK.out.trans hk.out); replace HZ := Lib.hid (HZ.out.trans hk.out); obtain ⟨c0, c1, c2, c3, c4, c5, c6, c7, c8, n0, n1⟩ := HF.out _ HK.out HZ.out; clear hk HA))
       go_ret
       exact ⟨rfl, HK⟩
      case true =>
       by_cases xb : (b1, b2) = noRol
       case neg =>
        have qb : ∀ w, (binOp .eql 28 (.agg #[.string ⟨b1.toArray⟩, .string ⟨b2.toArray⟩]) (.agg #[.string ⟨#[]⟩, .string ⟨#[]⟩])).run Tryz.prog w = .ok (.bool false) w := fun w => by
         have q := rol_eql (b1, b2) noRol w
         rw [decide_eq_false xb] at q
         exact q
        have yb := xb
        unfold noRol at yb
        simp only [Prod.mk.injEq] at yb
        have HH : Hid (∀ w, Calls Tryz.prog 49 #[.agg #[.string ⟨h1.toArray⟩, .string ⟨h2.toArray⟩]] w fun e w' => e = .returned (.bool true) ∧ Hid (KF w w')) := fun w => (risrole_all (h1, h2)).mono fun _ _ h => ⟨by rw [h.1, eH], h.2⟩
        have HA : Hid (∀ w, Calls Tryz.prog 49 #[.agg #[.string ⟨a1.toArray⟩, .string ⟨a2.toArray⟩]] w fun e w' => e = .returned (.bool true) ∧ Hid (KF w w')) := fun w => (risrole_all (a1, a2)).mono fun _ _ h => ⟨by rw [h.1, eA], h.2⟩
        have hres : stmRB ((h1, h2), 3, [], (a1, a2), (b1, b2), i) = false := by unfold stmRB; simp [noRol, eH, eA, yb]
        rw [hres]
        clear hres eH eA yb
        obtain ⟨WA, hWA, HK, HF, HZ⟩ := pre9 W (.int .i64 3) (.string ⟨h1.toArray⟩) (.string ⟨h2.toArray⟩) (.string ⟨#[]⟩) (.string ⟨a1.toArray⟩) (.string ⟨a2.toArray⟩) (.string ⟨b1.toArray⟩) (.string ⟨b2.toArray⟩) (.string ⟨i.toArray⟩)
        unfold stmV
        go_enter Tryz.func19, Tryz.ntmps19
        go_upto_region 1 with fail
        clear hWA
        go_upto_region 2 with fail
        generalize WA.alloc (.cells #[.string ⟨#[]⟩, .string ⟨#[]⟩] 28) = WB at *
        obtain ⟨c0, c1, c2, c3, c4, c5, c6, c7, c8, n0, n1⟩ := HF.out _ HK.out HZ.out
        go_wp2_with (first | (go_at_call 49; refine (HH.out _).mono ?_; rintro e w2 ⟨rfl, hk⟩; clear c0 c1 c2 c3 c4 c5 c6 c7 c8 n0 n1; replace HK := Lib.hid (HK.out.trans hk.out); replace HZ := Lib.hid (HZ.out.trans hk.out); obtain ⟨c0, c1, c2, c3, c4, c5, c6, c7, c8, n0, n1⟩ := HF.out _ HK.out HZ.out; clear hk HH) | (go_at_call 49; refine (HA.out _).mono ?_; rintro e w2 ⟨rfl, hk⟩; clear c0 c1 c2 c3 c4 c5 c6 c7 c8 n0 n1; replace HK := Lib.hid (HK.out.trans hk.out); replace HZ := Lib.hid (HZ.out.trans hk.out); obtain ⟨c0, c1, c2, c3, c4, c5, c6, c7, c8, n0, n1⟩ := HF.out _ HK.out HZ.out; clear hk HA))
        go_ret
        exact ⟨rfl, HK⟩
       case pos =>
        unfold noRol at xb
        simp only [Prod.mk.injEq] at xb
        obtain ⟨rfl, rfl⟩ := xb
        cases eI : nameB i
        case false =>
         have HH : Hid (∀ w, Calls Tryz.prog 49 #[.agg #[.string ⟨h1.toArray⟩, .string ⟨h2.toArray⟩]] w fun e w' => e = .returned (.bool true) ∧ Hid (KF w w')) := fun w => (risrole_all (h1, h2)).mono fun _ _ h => ⟨by rw [h.1, eH], h.2⟩
         have HA : Hid (∀ w, Calls Tryz.prog 49 #[.agg #[.string ⟨a1.toArray⟩, .string ⟨a2.toArray⟩]] w fun e w' => e = .returned (.bool true) ∧ Hid (KF w w')) := fun w => (risrole_all (a1, a2)).mono fun _ _ h => ⟨by rw [h.1, eA], h.2⟩
         have HI : Hid (∀ w, Calls Tryz.prog 51 #[.string ⟨i.toArray⟩] w fun e w' => e = .returned (.bool false) ∧ w = w') := fun w => (ref_name _ w).mono fun _ _ h => ⟨by rw [h.1]; exact congrArg (fun z => Ending.returned (Value.bool z)) eI, h.2⟩
         have hres : stmRB ((h1, h2), 3, [], (a1, a2), ([], []), i) = false := by unfold stmRB; simp [noRol, eH, eA, eI]
         rw [hres]
         clear hres eH eA eI
         obtain ⟨WA, hWA, HK, HF, HZ⟩ := pre9 W (.int .i64 3) (.string ⟨h1.toArray⟩) (.string ⟨h2.toArray⟩) (.string ⟨#[]⟩) (.string ⟨a1.toArray⟩) (.string ⟨a2.toArray⟩) (.string ⟨#[]⟩) (.string ⟨#[]⟩) (.string ⟨i.toArray⟩)
         unfold stmV
         go_enter Tryz.func19, Tryz.ntmps19
         go_upto_region 1 with fail
         clear hWA
         go_upto_region 2 with fail
         generalize WA.alloc (.cells #[.string ⟨#[]⟩, .string ⟨#[]⟩] 28) = WB at *
         obtain ⟨c0, c1, c2, c3, c4, c5, c6, c7, c8, n0, n1⟩ := HF.out _ HK.out HZ.out
         go_wp2_with (first | (go_at_call 49; refine (HH.out _).mono ?_; rintro e w2 ⟨rfl, hk⟩; clear c0 c1 c2 c3 c4 c5 c6 c7 c8 n0 n1; replace HK := Lib.hid (HK.out.trans hk.out); replace HZ := Lib.hid (HZ.out.trans hk.out); obtain ⟨c0, c1, c2, c3, c4, c5, c6, c7, c8, n0, n1⟩ := HF.out _ HK.out HZ.out; clear hk HH) | (go_at_call 49; refine (HA.out _).mono ?_; rintro e w2 ⟨rfl, hk⟩; clear c0 c1 c2 c3 c4 c5 c6 c7 c8 n0 n1; replace HK := Lib.hid (HK.out.trans hk.out); replace HZ := Lib.hid (HZ.out.trans hk.out); obtain ⟨c0, c1, c2, c3, c4, c5, c6, c7, c8, n0, n1⟩ := HF.out _ HK.out HZ.out; clear hk HA) | (go_at_call 51; refine (HI.out _).mono ?_; rintro e w2 ⟨rfl, rfl⟩))
         go_ret
         exact ⟨rfl, HK⟩
        case true =>
         have HH : Hid (∀ w, Calls Tryz.prog 49 #[.agg #[.string ⟨h1.toArray⟩, .string ⟨h2.toArray⟩]] w fun e w' => e = .returned (.bool true) ∧ Hid (KF w w')) := fun w => (risrole_all (h1, h2)).mono fun _ _ h => ⟨by rw [h.1, eH], h.2⟩
         have HA : Hid (∀ w, Calls Tryz.prog 49 #[.agg #[.string ⟨a1.toArray⟩, .string ⟨a2.toArray⟩]] w fun e w' => e = .returned (.bool true) ∧ Hid (KF w w')) := fun w => (risrole_all (a1, a2)).mono fun _ _ h => ⟨by rw [h.1, eA], h.2⟩
         have HI : Hid (∀ w, Calls Tryz.prog 51 #[.string ⟨i.toArray⟩] w fun e w' => e = .returned (.bool true) ∧ w = w') := fun w => (ref_name _ w).mono fun _ _ h => ⟨by rw [h.1]; exact congrArg (fun z => Ending.returned (Value.bool z)) eI, h.2⟩
         have hres : stmRB ((h1, h2), 3, [], (a1, a2), ([], []), i) = true := by unfold stmRB; simp [noRol, eH, eA, eI]
         rw [hres]
         clear hres eH eA eI
         obtain ⟨WA, hWA, HK, HF, HZ⟩ := pre9 W (.int .i64 3) (.string ⟨h1.toArray⟩) (.string ⟨h2.toArray⟩) (.string ⟨#[]⟩) (.string ⟨a1.toArray⟩) (.string ⟨a2.toArray⟩) (.string ⟨#[]⟩) (.string ⟨#[]⟩) (.string ⟨i.toArray⟩)
         unfold stmV
         go_enter Tryz.func19, Tryz.ntmps19
         go_upto_region 1 with fail
         clear hWA
         go_upto_region 2 with fail
         generalize WA.alloc (.cells #[.string ⟨#[]⟩, .string ⟨#[]⟩] 28) = WB at *
         obtain ⟨c0, c1, c2, c3, c4, c5, c6, c7, c8, n0, n1⟩ := HF.out _ HK.out HZ.out
         go_wp2_with (first | (go_at_call 49; refine (HH.out _).mono ?_; rintro e w2 ⟨rfl, hk⟩; clear c0 c1 c2 c3 c4 c5 c6 c7 c8 n0 n1; replace HK := Lib.hid (HK.out.trans hk.out); replace HZ := Lib.hid (HZ.out.trans hk.out); obtain ⟨c0, c1, c2, c3, c4, c5, c6, c7, c8, n0, n1⟩ := HF.out _ HK.out HZ.out; clear hk HH) | (go_at_call 49; refine (HA.out _).mono ?_; rintro e w2 ⟨rfl, hk⟩; clear c0 c1 c2 c3 c4 c5 c6 c7 c8 n0 n1; replace HK := Lib.hid (HK.out.trans hk.out); replace HZ := Lib.hid (HZ.out.trans hk.out); obtain ⟨c0, c1, c2, c3, c4, c5, c6, c7, c8, n0, n1⟩ := HF.out _ HK.out HZ.out; clear hk HA) | (go_at_call 51; refine (HI.out _).mono ?_; rintro e w2 ⟨rfl, rfl⟩))
         go_ret
         exact ⟨rfl, HK⟩
    case neg =>
     by_cases k4 : k = 4
     case pos =>
      subst k4
      by_cases xo : o = []
      case neg =>
       have qo : (o == []) = false := beq_eq_false_iff_ne.2 xo
       have HH : Hid (∀ w, Calls Tryz.prog 49 #[.agg #[.string ⟨h1.toArray⟩, .string ⟨h2.toArray⟩]] w fun e w' => e = .returned (.bool true) ∧ Hid (KF w w')) := fun w => (risrole_all (h1, h2)).mono fun _ _ h => ⟨by rw [h.1, eH], h.2⟩
       have hres : stmRB ((h1, h2), 4, o, (a1, a2), (b1, b2), i) = false := by unfold stmRB; simp [noRol, eH, xo]
       rw [hres]
       clear hres eH
       obtain ⟨WA, hWA, HK, HF, HZ⟩ := pre9 W (.int .i64 4) (.string ⟨h1.toArray⟩) (.string ⟨h2.toArray⟩) (.string ⟨o.toArray⟩) (.string ⟨a1.toArray⟩) (.string ⟨a2.toArray⟩) (.string ⟨b1.toArray⟩) (.string ⟨b2.toArray⟩) (.string ⟨i.toArray⟩)
       unfold stmV
       go_enter Tryz.func19, Tryz.ntmps19
       go_upto_region 1 with fail
       clear hWA
       go_upto_region 2 with fail
       generalize WA.alloc (.cells #[.string ⟨#[]⟩, .string ⟨#[]⟩] 28) = WB at *
       obtain ⟨c0, c1, c2, c3, c4, c5, c6, c7, c8, n0, n1⟩ := HF.out _ HK.out HZ.out
       go_wp2_with (first | (go_at_call 49; refine (HH.out _).mono ?_; rintro e w2 ⟨rfl, hk⟩; clear c0 c1 c2 c3 c4 c5 c6 c7 c8 n0 n1; replace HK := Lib.hid (HK.out.trans hk.out); replace HZ := Lib.hid (HZ.out.trans hk.out); obtain ⟨c0, c1, c2, c3, c4, c5, c6, c7, c8, n0, n1⟩ := HF.out _ HK.out HZ.out; clear hk HH))
       go_ret
       exact ⟨rfl, HK⟩
      case pos =>
       subst xo
       cases eA : roleB (a1, a2)
       case false =>
        have HH : Hid (∀ w, Calls Tryz.prog 49 #[.agg #[.string ⟨h1.toArray⟩, .string ⟨h2.toArray⟩]] w fun e w' => e = .returned (.bool true) ∧ Hid (KF w w')) := fun w => (risrole_all (h1, h2)).mono fun _ _ h => ⟨by rw [h.1, eH], h.2⟩
        have HA : Hid (∀ w, Calls Tryz.prog 49 #[.agg #[.string ⟨a1.toArray⟩, .string ⟨a2.toArray⟩]] w fun e w' => e = .returned (.bool false) ∧ Hid (KF w w')) := fun w => (risrole_all (a1, a2)).mono fun _ _ h => ⟨by rw [h.1, eA], h.2⟩
        have hres : stmRB ((h1, h2), 4, [], (a1, a2), (b1, b2), i) = false := by unfold stmRB; simp [noRol, eH, eA]
        rw [hres]
        clear hres eH eA
        obtain ⟨WA, hWA, HK, HF, HZ⟩ := pre9 W (.int .i64 4) (.string ⟨h1.toArray⟩) (.string ⟨h2.toArray⟩) (.string ⟨#[]⟩) (.string ⟨a1.toArray⟩) (.string ⟨a2.toArray⟩) (.string ⟨b1.toArray⟩) (.string ⟨b2.toArray⟩) (.string ⟨i.toArray⟩)
        unfold stmV
        go_enter Tryz.func19, Tryz.ntmps19
        go_upto_region 1 with fail
        clear hWA
        go_upto_region 2 with fail
        generalize WA.alloc (.cells #[.string ⟨#[]⟩, .string ⟨#[]⟩] 28) = WB at *
        obtain ⟨c0, c1, c2, c3, c4, c5, c6, c7, c8, n0, n1⟩ := HF.out _ HK.out HZ.out
        go_wp2_with (first | (go_at_call 49; refine (HH.out _).mono ?_; rintro e w2 ⟨rfl, hk⟩; clear c0 c1 c2 c3 c4 c5 c6 c7 c8 n0 n1; replace HK := Lib.hid (HK.out.trans hk.out); replace HZ := Lib.hid (HZ.out.trans hk.out); obtain ⟨c0, c1, c2, c3, c4, c5, c6, c7, c8, n0, n1⟩ := HF.out _ HK.out HZ.out; clear hk HH) | (go_at_call 49; refine (HA.out _).mono ?_; rintro e w2 ⟨rfl, hk⟩; clear c0 c1 c2 c3 c4 c5 c6 c7 c8 n0 n1; replace HK := Lib.hid (HK.out.trans hk.out); replace HZ := Lib.hid (HZ.out.trans hk.out); obtain ⟨c0, c1, c2, c3, c4, c5, c6, c7, c8, n0, n1⟩ := HF.out _ HK.out HZ.out; clear hk HA))
        go_ret
        exact ⟨rfl, HK⟩
       case true =>
        cases eB : roleB (b1, b2)
        case false =>
         have HH : Hid (∀ w, Calls Tryz.prog 49 #[.agg #[.string ⟨h1.toArray⟩, .string ⟨h2.toArray⟩]] w fun e w' => e = .returned (.bool true) ∧ Hid (KF w w')) := fun w => (risrole_all (h1, h2)).mono fun _ _ h => ⟨by rw [h.1, eH], h.2⟩
         have HA : Hid (∀ w, Calls Tryz.prog 49 #[.agg #[.string ⟨a1.toArray⟩, .string ⟨a2.toArray⟩]] w fun e w' => e = .returned (.bool true) ∧ Hid (KF w w')) := fun w => (risrole_all (a1, a2)).mono fun _ _ h => ⟨by rw [h.1, eA], h.2⟩
         have HB : Hid (∀ w, Calls Tryz.prog 49 #[.agg #[.string ⟨b1.toArray⟩, .string ⟨b2.toArray⟩]] w fun e w' => e = .returned (.bool false) ∧ Hid (KF w w')) := fun w => (risrole_all (b1, b2)).mono fun _ _ h => ⟨by rw [h.1, eB], h.2⟩
         have hres : stmRB ((h1, h2), 4, [], (a1, a2), (b1, b2), i) = false := by unfold stmRB; simp [noRol, eH, eA, eB]
         rw [hres]
         clear hres eH eA eB
         obtain ⟨WA, hWA, HK, HF, HZ⟩ := pre9 W (.int .i64 4) (.string ⟨h1.toArray⟩) (.string ⟨h2.toArray⟩) (.string ⟨#[]⟩) (.string ⟨a1.toArray⟩) (.string ⟨a2.toArray⟩) (.string ⟨b1.toArray⟩) (.string ⟨b2.toArray⟩) (.string ⟨i.toArray⟩)
         unfold stmV
         go_enter Tryz.func19, Tryz.ntmps19
         go_upto_region 1 with fail
         clear hWA
         go_upto_region 2 with fail
         generalize WA.alloc (.cells #[.string ⟨#[]⟩, .string ⟨#[]⟩] 28) = WB at *
         obtain ⟨c0, c1, c2, c3, c4, c5, c6, c7, c8, n0, n1⟩ := HF.out _ HK.out HZ.out
         go_wp2_with (first | (go_at_call 49; refine (HH.out _).mono ?_; rintro e w2 ⟨rfl, hk⟩; clear c0 c1 c2 c3 c4 c5 c6 c7 c8 n0 n1; replace HK := Lib.hid (HK.out.trans hk.out); replace HZ := Lib.hid (HZ.out.trans hk.out); obtain ⟨c0, c1, c2, c3, c4, c5, c6, c7, c8, n0, n1⟩ := HF.out _ HK.out HZ.out; clear hk HH) | (go_at_call 49; refine (HA.out _).mono ?_; rintro e w2 ⟨rfl, hk⟩; clear c0 c1 c2 c3 c4 c5 c6 c7 c8 n0 n1; replace HK := Lib.hid (HK.out.trans hk.out); replace HZ := Lib.hid (HZ.out.trans hk.out); obtain ⟨c0, c1, c2, c3, c4, c5, c6, c7, c8, n0, n1⟩ := HF.out _ HK.out HZ.out; clear hk HA) | (go_at_call 49; refine (HB.out _).mono ?_; rintro e w2 ⟨rfl, hk⟩; clear c0 c1 c2 c3 c4 c5 c6 c7 c8 n0 n1; replace HK := Lib.hid (HK.out.trans hk.out); replace HZ := Lib.hid (HZ.out.trans hk.out); obtain ⟨c0, c1, c2, c3, c4, c5, c6, c7, c8, n0, n1⟩ := HF.out _ HK.out HZ.out; clear hk HB))
         go_ret
         exact ⟨rfl, HK⟩
        case true =>
         by_cases xi : i = []
         case neg =>
          have qi : (i == []) = false := beq_eq_false_iff_ne.2 xi
          have HH : Hid (∀ w, Calls Tryz.prog 49 #[.agg #[.string ⟨h1.toArray⟩, .string ⟨h2.toArray⟩]] w fun e w' => e = .returned (.bool true) ∧ Hid (KF w w')) := fun w => (risrole_all (h1, h2)).mono fun _ _ h => ⟨by rw [h.1, eH], h.2⟩
          have HA : Hid (∀ w, Calls Tryz.prog 49 #[.agg #[.string ⟨a1.toArray⟩, .string ⟨a2.toArray⟩]] w fun e w' => e = .returned (.bool true) ∧ Hid (KF w w')) := fun w => (risrole_all (a1, a2)).mono fun _ _ h => ⟨by rw [h.1, eA], h.2⟩
          have HB : Hid (∀ w, Calls Tryz.prog 49 #[.agg #[.string ⟨b1.toArray⟩, .string ⟨b2.toArray⟩]] w fun e w' => e = .returned (.bool true) ∧ Hid (KF w w')) := fun w => (risrole_all (b1, b2)).mono fun _ _ h => ⟨by rw [h.1, eB], h.2⟩
          have hres : stmRB ((h1, h2), 4, [], (a1, a2), (b1, b2), i) = false := by unfold stmRB; simp [noRol, eH, eA, eB, xi]
          rw [hres]
          clear hres eH eA eB
          obtain ⟨WA, hWA, HK, HF, HZ⟩ := pre9 W (.int .i64 4) (.string ⟨h1.toArray⟩) (.string ⟨h2.toArray⟩) (.string ⟨#[]⟩) (.string ⟨a1.toArray⟩) (.string ⟨a2.toArray⟩) (.string ⟨b1.toArray⟩) (.string ⟨b2.toArray⟩) (.string ⟨i.toArray⟩)
          unfold stmV
          go_enter Tryz.func19, Tryz.ntmps19
          go_upto_region 1 with fail
          clear hWA
          go_upto_region 2 with fail
          generalize WA.alloc (.cells #[.string ⟨#[]⟩, .string ⟨#[]⟩] 28) = WB at *
          obtain ⟨c0, c1, c2, c3, c4, c5, c6, c7, c8, n0, n1⟩ := HF.out _ HK.out HZ.out
          go_wp2_with (first | (go_at_call 49; refine (HH.out _).mono ?_; rintro e w2 ⟨rfl, hk⟩; clear c0 c1 c2 c3 c4 c5 c6 c7 c8 n0 n1; replace HK := Lib.hid (HK.out.trans hk.out); replace HZ := Lib.hid (HZ.out.trans hk.out); obtain ⟨c0, c1, c2, c3, c4, c5, c6, c7, c8, n0, n1⟩ := HF.out _ HK.out HZ.out; clear hk HH) | (go_at_call 49; refine (HA.out _).mono ?_; rintro e w2 ⟨rfl, hk⟩; clear c0 c1 c2 c3 c4 c5 c6 c7 c8 n0 n1; replace HK := Lib.hid (HK.out.trans hk.out); replace HZ := Lib.hid (HZ.out.trans hk.out); obtain ⟨c0, c1, c2, c3, c4, c5, c6, c7, c8, n0, n1⟩ := HF.out _ HK.out HZ.out; clear hk HA) | (go_at_call 49; refine (HB.out _).mono ?_; rintro e w2 ⟨rfl, hk⟩; clear c0 c1 c2 c3 c4 c5 c6 c7 c8 n0 n1; replace HK := Lib.hid (HK.out.trans hk.out); replace HZ := Lib.hid (HZ.out.trans hk.out); obtain ⟨c0, c1, c2, c3, c4, c5, c6, c7, c8, n0, n1⟩ := HF.out _ HK.out HZ.out; clear hk HB))
          go_ret
          exact ⟨rfl, HK⟩
         case pos =>
          subst xi
          cases eL : decide (rolLt (b1, b2) (a1, a2))
          case true =>
           have HH : Hid (∀ w, Calls Tryz.prog 49 #[.agg #[.string ⟨h1.toArray⟩, .string ⟨h2.toArray⟩]] w fun e w' => e = .returned (.bool true) ∧ Hid (KF w w')) := fun w => (risrole_all (h1, h2)).mono fun _ _ h => ⟨by rw [h.1, eH], h.2⟩
           have HA : Hid (∀ w, Calls Tryz.prog 49 #[.agg #[.string ⟨a1.toArray⟩, .string ⟨a2.toArray⟩]] w fun e w' => e = .returned (.bool true) ∧ Hid (KF w w')) := fun w => (risrole_all (a1, a2)).mono fun _ _ h => ⟨by rw [h.1, eA], h.2⟩
           have HB : Hid (∀ w, Calls Tryz.prog 49 #[.agg #[.string ⟨b1.toArray⟩, .string ⟨b2.toArray⟩]] w fun e w' => e = .returned (.bool true) ∧ Hid (KF w w')) := fun w => (risrole_all (b1, b2)).mono fun _ _ h => ⟨by rw [h.1, eB], h.2⟩
           have HL : Hid (∀ w, Calls Tryz.prog 52 #[.agg #[.string ⟨b1.toArray⟩, .string ⟨b2.toArray⟩], .agg #[.string ⟨a1.toArray⟩, .string ⟨a2.toArray⟩]] w fun e w' => e = .returned (.bool true) ∧ Hid (KF w w')) := fun w => (rless_spec (W := w) (b1, b2) (a1, a2)).mono fun _ _ h => ⟨by rw [h.1, eL], h.2⟩
           have hres : stmRB ((h1, h2), 4, [], (a1, a2), (b1, b2), []) = false := by unfold stmRB; simp [noRol, eH, eA, eB, eL]
           rw [hres]
           clear hres eH eA eB eL
           obtain ⟨WA, hWA, HK, HF, HZ⟩ := pre9 W (.int .i64 4) (.string ⟨h1.toArray⟩) (.string ⟨h2.toArray⟩) (.string ⟨#[]⟩) (.string ⟨a1.toArray⟩) (.string ⟨a2.toArray⟩) (.string ⟨b1.toArray⟩) (.string ⟨b2.toArray⟩) (.string ⟨#[]⟩)
           unfold stmV
           go_enter Tryz.func19, Tryz.ntmps19
           go_upto_region 1 with fail
           clear hWA
           go_upto_region 2 with fail
           generalize WA.alloc (.cells #[.string ⟨#[]⟩, .string ⟨#[]⟩] 28) = WB at *
           obtain ⟨c0, c1, c2, c3, c4, c5, c6, c7, c8, n0, n1⟩ := HF.out _ HK.out HZ.out
           go_wp2_with (first | (go_at_call 49; refine (HH.out _).mono ?_; rintro e w2 ⟨rfl, hk⟩; clear c0 c1 c2 c3 c4 c5 c6 c7 c8 n0 n1; replace HK := Lib.hid (HK.out.trans hk.out); replace HZ := Lib.hid (HZ.out.trans hk.out); obtain ⟨c0, c1, c2, c3, c4, c5, c6, c7, c8, n0, n1⟩ := HF.out _ HK.out HZ.out; clear hk HH) | (go_at_call 49; refine (HA.out _).mono ?_; rintro e w2 ⟨rfl, hk⟩; clear c0 c1 c2 c3 c4 c5 c6 c7 c8 n0 n1; replace HK := Lib.hid (HK.out.trans hk.out); replace HZ := Lib.hid (HZ.out.trans hk.out); obtain ⟨c0, c1, c2, c3, c4, c5, c6, c7, c8, n0, n1⟩ := HF.out _ HK.out HZ.out; clear hk HA) | (go_at_call 49; refine (HB.out _).mono ?_; rintro e w2 ⟨rfl, hk⟩; clear c0 c1 c2 c3 c4 c5 c6 c7 c8 n0 n1; replace HK := Lib.hid (HK.out.trans hk.out); replace HZ := Lib.hid (HZ.out.trans hk.out); obtain ⟨c0, c1, c2, c3, c4, c5, c6, c7, c8, n0, n1⟩ := HF.out _ HK.out HZ.out; clear hk HB) | (go_at_call 52; refine (HL.out _).mono ?_; rintro e w2 ⟨rfl, hk⟩; clear c0 c1 c2 c3 c4 c5 c6 c7 c8 n0 n1; replace HK := Lib.hid (HK.out.trans hk.out); replace HZ := Lib.hid (HZ.out.trans hk.out); obtain ⟨c0, c1, c2, c3, c4, c5, c6, c7, c8, n0, n1⟩ := HF.out _ HK.out HZ.out; clear hk HL))
           go_ret
           exact ⟨rfl, HK⟩
          case false =>
           have HH : Hid (∀ w, Calls Tryz.prog 49 #[.agg #[.string ⟨h1.toArray⟩, .string ⟨h2.toArray⟩]] w fun e w' => e = .returned (.bool true) ∧ Hid (KF w w')) := fun w => (risrole_all (h1, h2)).mono fun _ _ h => ⟨by rw [h.1, eH], h.2⟩
           have HA : Hid (∀ w, Calls Tryz.prog 49 #[.agg #[.string ⟨a1.toArray⟩, .string ⟨a2.toArray⟩]] w fun e w' => e = .returned (.bool true) ∧ Hid (KF w w')) := fun w => (risrole_all (a1, a2)).mono fun _ _ h => ⟨by rw [h.1, eA], h.2⟩
           have HB : Hid (∀ w, Calls Tryz.prog 49 #[.agg #[.string ⟨b1.toArray⟩, .string ⟨b2.toArray⟩]] w fun e w' => e = .returned (.bool true) ∧ Hid (KF w w')) := fun w => (risrole_all (b1, b2)).mono fun _ _ h => ⟨by rw [h.1, eB], h.2⟩
           have HL : Hid (∀ w, Calls Tryz.prog 52 #[.agg #[.string ⟨b1.toArray⟩, .string ⟨b2.toArray⟩], .agg #[.string ⟨a1.toArray⟩, .string ⟨a2.toArray⟩]] w fun e w' => e = .returned (.bool false) ∧ Hid (KF w w')) := fun w => (rless_spec (W := w) (b1, b2) (a1, a2)).mono fun _ _ h => ⟨by rw [h.1, eL], h.2⟩
           have hres : stmRB ((h1, h2), 4, [], (a1, a2), (b1, b2), []) = true := by unfold stmRB; simp [noRol, eH, eA, eB, eL]
           rw [hres]
           clear hres eH eA eB eL
           obtain ⟨WA, hWA, HK, HF, HZ⟩ := pre9 W (.int .i64 4) (.string ⟨h1.toArray⟩) (.string ⟨h2.toArray⟩) (.string ⟨#[]⟩) (.string ⟨a1.toArray⟩) (.string ⟨a2.toArray⟩) (.string ⟨b1.toArray⟩) (.string ⟨b2.toArray⟩) (.string ⟨#[]⟩)
           unfold stmV
           go_enter Tryz.func19, Tryz.ntmps19
           go_upto_region 1 with fail
           clear hWA
           go_upto_region 2 with fail
           generalize WA.alloc (.cells #[.string ⟨#[]⟩, .string ⟨#[]⟩] 28) = WB at *
           obtain ⟨c0, c1, c2, c3, c4, c5, c6, c7, c8, n0, n1⟩ := HF.out _ HK.out HZ.out
           go_wp2_with (first | (go_at_call 49; refine (HH.out _).mono ?_; rintro e w2 ⟨rfl, hk⟩; clear c0 c1 c2 c3 c4 c5 c6 c7 c8 n0 n1; replace HK := Lib.hid (HK.out.trans hk.out); replace HZ := Lib.hid (HZ.out.trans hk.out); obtain ⟨c0, c1, c2, c3, c4, c5, c6, c7, c8, n0, n1⟩ := HF.out _ HK.out HZ.out; clear hk HH) | (go_at_call 49; refine (HA.out _).mono ?_; rintro e w2 ⟨rfl, hk⟩; clear c0 c1 c2 c3 c4 c5 c6 c7 c8 n0 n1; replace HK := Lib.hid (HK.out.trans hk.out); replace HZ := Lib.hid (HZ.out.trans hk.out); obtain ⟨c0, c1, c2, c3, c4, c5, c6, c7, c8, n0, n1⟩ := HF.out _ HK.out HZ.out; clear hk HA) | (go_at_call 49; refine (HB.out _).mono ?_; rintro e w2 ⟨rfl, hk⟩; clear c0 c1 c2 c3 c4 c5 c6 c7 c8 n0 n1; replace HK := Lib.hid (HK.out.trans hk.out); replace HZ := Lib.hid (HZ.out.trans hk.out); obtain ⟨c0, c1, c2, c3, c4, c5, c6, c7, c8, n0, n1⟩ := HF.out _ HK.out HZ.out; clear hk HB) | (go_at_call 52; refine (HL.out _).mono ?_; rintro e w2 ⟨rfl, hk⟩; clear c0 c1 c2 c3 c4 c5 c6 c7 c8 n0 n1; replace HK := Lib.hid (HK.out.trans hk.out); replace HZ := Lib.hid (HZ.out.trans hk.out); obtain ⟨c0, c1, c2, c3, c4, c5, c6, c7, c8, n0, n1⟩ := HF.out _ HK.out HZ.out; clear hk HL))
           go_ret
           exact ⟨rfl, HK⟩
     case neg =>
      have bk1 : (k == 1) = false := beq_eq_false_iff_ne.2 k1
      by_cases kl : k < 1
      case pos =>
       have HH : Hid (∀ w, Calls Tryz.prog 49 #[.agg #[.string ⟨h1.toArray⟩, .string ⟨h2.toArray⟩]] w fun e w' => e = .returned (.bool true) ∧ Hid (KF w w')) := fun w => (risrole_all (h1, h2)).mono fun _ _ h => ⟨by rw [h.1, eH], h.2⟩
       have hres : stmRB ((h1, h2), k, o, (a1, a2), (b1, b2), i) = false := by unfold stmRB; simp [noRol, eH, k1, k2, k3, k4]
       rw [hres]
       clear hres eH
       obtain ⟨WA, hWA, HK, HF, HZ⟩ := pre9 W (.int .i64 k) (.string ⟨h1.toArray⟩) (.string ⟨h2.toArray⟩) (.string ⟨o.toArray⟩) (.string ⟨a1.toArray⟩) (.string ⟨a2.toArray⟩) (.string ⟨b1.toArray⟩) (.string ⟨b2.toArray⟩) (.string ⟨i.toArray⟩)
       unfold stmV
       go_enter Tryz.func19, Tryz.ntmps19
       go_upto_region 1 with fail
       clear hWA
       go_upto_region 2 with fail
       generalize WA.alloc (.cells #[.string ⟨#[]⟩, .string ⟨#[]⟩] 28) = WB at *
       obtain ⟨c0, c1, c2, c3, c4, c5, c6, c7, c8, n0, n1⟩ := HF.out _ HK.out HZ.out
       go_wp2_with (first | (go_at_call 49; refine (HH.out _).mono ?_; rintro e w2 ⟨rfl, hk⟩; clear c0 c1 c2 c3 c4 c5 c6 c7 c8 n0 n1; replace HK := Lib.hid (HK.out.trans hk.out); replace HZ := Lib.hid (HZ.out.trans hk.out); obtain ⟨c0, c1, c2, c3, c4, c5, c6, c7, c8, n0, n1⟩ := HF.out _ HK.out HZ.out; clear hk HH))
       go_ret
       exact ⟨rfl, HK⟩
      case neg =>
       have kg : 4 < k := by omega
       have HH : Hid (∀ w, Calls Tryz.prog 49 #[.agg #[.string ⟨h1.toArray⟩, .string ⟨h2.toArray⟩]] w fun e w' => e = .returned (.bool true) ∧ Hid (KF w w')) := fun w => (risrole_all (h1, h2)).mono fun _ _ h => ⟨by rw [h.1, eH], h.2⟩
       have hres : stmRB ((h1, h2), k, o, (a1, a2), (b1, b2), i) = false := by unfold stmRB; simp [noRol, eH, k1, k2, k3, k4]
       rw [hres]
       clear hres eH
       obtain ⟨WA, hWA, HK, HF, HZ⟩ := pre9 W (.int .i64 k) (.string ⟨h1.toArray⟩) (.string ⟨h2.toArray⟩) (.string ⟨o.toArray⟩) (.string ⟨a1.toArray⟩) (.string ⟨a2.toArray⟩) (.string ⟨b1.toArray⟩) (.string ⟨b2.toArray⟩) (.string ⟨i.toArray⟩)
       unfold stmV
       go_enter Tryz.func19, Tryz.ntmps19
       go_upto_region 1 with fail
       clear hWA
       go_upto_region 2 with fail
       generalize WA.alloc (.cells #[.string ⟨#[]⟩, .string ⟨#[]⟩] 28) = WB at *
       obtain ⟨c0, c1, c2, c3, c4, c5, c6, c7, c8, n0, n1⟩ := HF.out _ HK.out HZ.out
       go_wp2_with (first | (go_at_call 49; refine (HH.out _).mono ?_; rintro e w2 ⟨rfl, hk⟩; clear c0 c1 c2 c3 c4 c5 c6 c7 c8 n0 n1; replace HK := Lib.hid (HK.out.trans hk.out); replace HZ := Lib.hid (HZ.out.trans hk.out); obtain ⟨c0, c1, c2, c3, c4, c5, c6, c7, c8, n0, n1⟩ := HF.out _ HK.out HZ.out; clear hk HH))
       go_ret
       exact ⟨rfl, HK⟩
end Go.Proofs.YtckikkkdabpjkaaGreat
