/-
 The program's IsRole; its Right, of any statement.
-/
import Derived.Test.YtckikkkdabpjkaaGreatKitSq
import Derived.Test.YtckikkkdabpjkaaGreatMK
import Derived.Test.YtckikkkdabpjkaaGreatRowAt
import Derived.Test.YtckikkkdabpjkaaGreatStmEql
import Derived.Test.YtckikkkdabpjkaaGreatMG
set_option linter.unusedVariables false
set_option linter.unusedSimpArgs false
set_option linter.unnecessarySimpa false
namespace Go.Proofs.YtckikkkdabpjkaaGreat
open Go.ChangeShapes Go.WideShapes Go.ChangeAt Go.RowKit Go.Deep
set_option maxRecDepth 100000
set_option maxHeartbeats 3200000
theorem sisrole_all {W : World} (r : Rol) : Calls Tryz.prog 154 #[rolV2 r] W fun e W' => e = .returned (.bool (roleB r)) ∧ Hid (KF W W') := by
 obtain ⟨a, b⟩ := r
 have HD : Hid (roleB (a, b) = (prinB a && nameB b)) := rfl
 have HP : Hid (∀ w, Calls Tryz.prog 182 #[.string ⟨a.toArray⟩] w fun e w' => e = .returned (.bool (prinB a)) ∧ w = w') := fun w => names_prin _ w
 have HQ : Hid (∀ w, Calls Tryz.prog 183 #[.string ⟨b.toArray⟩] w fun e w' => e = .returned (.bool (nameB b)) ∧ w = w') := fun w => names_name _ w
 have HK : Hid (KF W (W.alloc (bR a b))) := (Keeps.refl _ _).alloc _
 unfold rolV2
 obtain ⟨p, hp⟩ : ∃ p, prinB a = p := ⟨_, rfl⟩
 obtain ⟨q, hq⟩ : ∃ q, nameB b = q := ⟨_, rfl⟩
 rw [hp] at HP
 rw [hq] at HQ
 rw [hp, hq] at HD
 rw [HD.out]
 clear hp hq HD
 cases p
 ·go_enter Tryz.func154, Tryz.ntmps154
  go_wp2_with (go_at_call 182; refine (HP.out _).mono ?_; rintro e w2 ⟨rfl, rfl⟩)
  go_ret
  exact ⟨rfl, HK⟩
 ·cases q <;>
  (go_enter Tryz.func154, Tryz.ntmps154; go_wp2_with (first | (go_at_call 182; refine (HP.out _).mono ?_; rintro e w2 ⟨rfl, rfl⟩) | (go_at_call 183; refine (HQ.out _).mono ?_; rintro e w2 ⟨rfl, rfl⟩)); go_ret; exact ⟨rfl, HK⟩)
theorem sstmright_all {W : World} (y : Stm) : Calls Tryz.prog 158 #[stmV y] W fun e W' => e = .returned (.bool (stmRB y)) ∧ Hid (KF W W') := by
 obtain ⟨⟨h1, h2⟩, k, o, ⟨a1, a2⟩, ⟨b1, b2⟩, i⟩ := y
 have HROL : Hid (∀ (x1 x2 : Str) (w : World), Calls Tryz.prog 154 #[.agg #[.string ⟨x1.toArray⟩, .string ⟨x2.toArray⟩]] w fun e w' => e = .returned (.bool (roleB (x1, x2))) ∧ Hid (KF w w')) := fun x1 x2 w => sisrole_all (x1, x2)
 have HPR : Hid (∀ (x : Str) (w : World), Calls Tryz.prog 182 #[.string ⟨x.toArray⟩] w fun e w' => e = .returned (.bool (prinB x)) ∧ Hid (KF w w')) := fun x w => (names_prin _ w).mono fun e w' h => ⟨h.1, by rw [h.2]; exact Keeps.refl _ _⟩
 have HNM : Hid (∀ (x : Str) (w : World), Calls Tryz.prog 183 #[.string ⟨x.toArray⟩] w fun e w' => e = .returned (.bool (nameB x)) ∧ Hid (KF w w')) := fun x w => (names_name _ w).mono fun e w' h => ⟨h.1, by rw [h.2]; exact Keeps.refl _ _⟩
 have HLS : Hid (∀ w, Calls Tryz.prog 166 #[.agg #[.string ⟨b1.toArray⟩, .string ⟨b2.toArray⟩], .agg #[.string ⟨a1.toArray⟩, .string ⟨a2.toArray⟩]] w fun e w' => e = .returned (.bool (decide (rolLt (b1, b2) (a1, a2)))) ∧ Hid (KF w w')) := fun w => sless_spec (W := w) (b1, b2) (a1, a2)
 have HH := Lib.hid (HROL.out h1 h2)
 have HA := Lib.hid (HROL.out a1 a2)
 have HB := Lib.hid (HROL.out b1 b2)
 have HW := Lib.hid (HPR.out o)
 have HI := Lib.hid (HNM.out i)
 obtain ⟨bH, eH⟩ : ∃ q, roleB (h1, h2) = q := ⟨_, rfl⟩
 obtain ⟨bA, eA⟩ : ∃ q, roleB (a1, a2) = q := ⟨_, rfl⟩
 obtain ⟨bB, eB⟩ : ∃ q, roleB (b1, b2) = q := ⟨_, rfl⟩
 obtain ⟨bW, eW⟩ : ∃ q, prinB o = q := ⟨_, rfl⟩
 obtain ⟨bI, eI⟩ : ∃ q, nameB i = q := ⟨_, rfl⟩
 obtain ⟨bL, eL⟩ : ∃ q, decide (rolLt (b1, b2) (a1, a2)) = q := ⟨_, rfl⟩
 have hd : stmRB ((h1, h2), k, o, (a1, a2), (b1, b2), i) = (bH && (if k = 1 then bW && decide ((a1, a2) = noRol) && decide ((b1, b2) = noRol) && decide (i = []) else if k = 2 then decide (o = []) && bA && decide ((b1, b2) = noRol) && decide (i = []) else if k = 3 then decide (o = []) && bA && decide ((b1, b2) = noRol) && bI else if k = 4 then decide (o = []) && bA && bB && decide (i = []) && !bL else false)) := by
  rw [← eH, ← eA, ← eB, ← eW, ← eI, ← eL]
  rfl
 rw [eH] at HH
 rw [eA] at HA
 rw [eB] at HB
 rw [eW] at HW
 rw [eI] at HI
 rw [eL] at HLS
 rw [hd]
 clear hd eH eA eB eW eI eL HROL HPR HNM
 unfold stmV
 by_cases k1 : k = 1
 case pos =>
  subst k1
  have HQ : ∀ w, (binOp .eql 38 (.agg #[.int .i64 1, .string ⟨h1.toArray⟩, .string ⟨h2.toArray⟩, .string ⟨o.toArray⟩, .string ⟨a1.toArray⟩, .string ⟨a2.toArray⟩, .string ⟨b1.toArray⟩, .string ⟨b2.toArray⟩, .string ⟨i.toArray⟩]) (.agg (stmEnc ((h1, h2), 1, o, noRol, noRol, [])).toArray)).run Tryz.prog w = .ok (.bool (decide ((a1, a2) = noRol ∧ (b1, b2) = noRol ∧ i = []))) w := fun w => by
   have q := stm_eql ((h1, h2), 1, o, (a1, a2), (b1, b2), i) ((h1, h2), 1, o, noRol, noRol, []) w
   have e : decide ((((h1, h2), (1 : Int), o, (a1, a2), (b1, b2), i) : Stm) = ((h1, h2), 1, o, noRol, noRol, [])) = decide ((a1, a2) = noRol ∧ (b1, b2) = noRol ∧ i = []) := decide_eq_decide.2 (by simp only [Prod.mk.injEq, noRol, true_and, and_true]; first | done | exact Iff.rfl | (constructor <;> (intro q; simp_all)))
   rw [e] at q
   exact q
  obtain ⟨d, hd⟩ : ∃ d, decide ((a1, a2) = noRol ∧ (b1, b2) = noRol ∧ i = []) = d := ⟨_, rfl⟩
  have hres : ∀ z, (if (1 : Int) = 1 then bW && decide ((a1, a2) = noRol) && decide ((b1, b2) = noRol) && decide (i = []) else if (1 : Int) = 2 then decide (o = []) && bA && decide ((b1, b2) = noRol) && decide (i = []) else if (1 : Int) = 3 then decide (o = []) && bA && decide ((b1, b2) = noRol) && bI else if (1 : Int) = 4 then decide (o = []) && bA && bB && decide (i = []) && !bL else z) = (bW && d) := fun z => by
   rw [← hd]
   simp only [Bool.decide_and]
   simp
   generalize decide ((a1, a2) = noRol) = x1
   generalize decide ((b1, b2) = noRol) = x2
   generalize decide (i = []) = x3
   generalize decide (o = []) = x4
   cases bW <;> cases bA <;> cases bB <;> cases bI <;> cases bL <;> cases x1 <;> cases x2 <;> cases x3 <;> cases x4 <;> rfl
  rw [hd] at HQ
  rw [hres]
  clear hres hd
  unfold stmEnc at HQ
  (try unfold noRol at HQ)
  simp only at HQ
  obtain ⟨SB, hSB⟩ : ∃ q, W.heap.size = q := ⟨_, rfl⟩
  have hal0 := (MapKept.heap_alloc W (bM 1 h1 h2 o a1 a2 b1 b2 i)).1
  obtain ⟨W1, hW1⟩ : ∃ q, W.alloc (bM 1 h1 h2 o a1 a2 b1 b2 i) = q := ⟨_, rfl⟩
  have k1 : KF W W1 := by rw [← hW1]; exact (Keeps.refl _ _).alloc _
  rw [hW1, hSB] at hal0
  have HS0 := Lib.hid hal0
  have HK0 := Lib.hid k1
  have HN : Hid (W.heap.size ≤ SB) := by show _ ≤ _; omega
  clear k1 hal0
  go_enter Tryz.func158, Tryz.ntmps158
  go_upto_region 1 with fail
  clear hW1 hSB
  obtain ⟨Sc0, Sf0, Sc1, Sf1, Sc2, Sf2, Sc3, Sf3, Sc4, Sf4, Sc5, Sf5, Sc6, Sf6, Sc7, Sf7, Sc8, Sf8⟩ := cf9 HS0.out
  have hal := (MapKept.heap_alloc W1 (.cells #[.int .i64 1, .string ⟨h1.toArray⟩, .string ⟨h2.toArray⟩, .string ⟨#[]⟩, .string ⟨#[]⟩, .string ⟨#[]⟩, .string ⟨#[]⟩, .string ⟨#[]⟩, .string ⟨#[]⟩] 38)).1
  have hkE : KF W1 (W1.alloc (.cells #[.int .i64 1, .string ⟨h1.toArray⟩, .string ⟨h2.toArray⟩, .string ⟨#[]⟩, .string ⟨#[]⟩, .string ⟨#[]⟩, .string ⟨#[]⟩, .string ⟨#[]⟩, .string ⟨#[]⟩] 38)) := (Keeps.refl _ _).alloc _
  obtain ⟨TB, hTB⟩ : ∃ q, W1.heap.size = q := ⟨_, rfl⟩
  rw [hTB] at hal
  have HS3 := Lib.hid (((hkE).block _ (lt_of_heap HS0.out) (fun x => x)).trans HS0.out)
  have HN2 : Hid ((W.heap.size ≤ SB) ∧ W.heap.size ≤ TB ∧ SB < TB) := ⟨HN.out, by
   have hz := HK0.out.size
   have l0 := lt_of_heap HS0.out
   refine ⟨?_, ?_⟩ <;> omega⟩
  have HK4 := Lib.hid (HK0.out.trans hkE)
  have HT5 := Lib.hid hal
  clear hkE hal HS0 HN HK0
  go_upto_region 2 with fail
  clear Sc0 Sf0 Sc1 Sf1 Sc2 Sf2 Sc3 Sf3 Sc4 Sf4 Sc5 Sf5 Sc6 Sf6 Sc7 Sf7 Sc8 Sf8
  clear hTB
  generalize (W1.alloc (.cells #[.int .i64 1, .string ⟨h1.toArray⟩, .string ⟨h2.toArray⟩, .string ⟨#[]⟩, .string ⟨#[]⟩, .string ⟨#[]⟩, .string ⟨#[]⟩, .string ⟨#[]⟩, .string ⟨#[]⟩] 38)) = w1 at *
  obtain ⟨Sc0, Sf0, Sc1, Sf1, Sc2, Sf2, Sc3, Sf3, Sc4, Sf4, Sc5, Sf5, Sc6, Sf6, Sc7, Sf7, Sc8, Sf8⟩ := cf9 HS3.out
  obtain ⟨Tc0, Tf0, Tc1, Tf1, Tc2, Tf2, Tc3, Tf3, Tc4, Tf4, Tc5, Tf5, Tc6, Tf6, Tc7, Tf7, Tc8, Tf8⟩ := cf9 HT5.out
  go_wp2_with fail
  refine (HH.out _).mono ?_
  rintro e w6 ⟨rfl, hk⟩
  have HS7 := Lib.hid (((hk.out).block _ (lt_of_heap HS3.out) (fun x => x)).trans HS3.out)
  have HT8 := Lib.hid (((hk.out).block _ (lt_of_heap HT5.out) (fun x => x)).trans HT5.out)
  have HK9 := Lib.hid (HK4.out.trans hk.out)
  clear Sc0 Sf0 Sc1 Sf1 Sc2 Sf2 Sc3 Sf3 Sc4 Sf4 Sc5 Sf5 Sc6 Sf6 Sc7 Sf7 Sc8 Sf8 Tc0 Tf0 Tc1 Tf1 Tc2 Tf2 Tc3 Tf3 Tc4 Tf4 Tc5 Tf5 Tc6 Tf6 Tc7 Tf7 Tc8 Tf8
  clear hk HS3 HT5 HK4
  clear HH
  obtain ⟨Sc0, Sf0, Sc1, Sf1, Sc2, Sf2, Sc3, Sf3, Sc4, Sf4, Sc5, Sf5, Sc6, Sf6, Sc7, Sf7, Sc8, Sf8⟩ := cf9 HS7.out
  go_upto_region 6 with fail
  clear Sc0 Sf0 Sc1 Sf1 Sc2 Sf2 Sc3 Sf3 Sc4 Sf4 Sc5 Sf5 Sc6 Sf6 Sc7 Sf7 Sc8 Sf8
  obtain ⟨Sc0, Sf0, Sc1, Sf1, Sc2, Sf2, Sc3, Sf3, Sc4, Sf4, Sc5, Sf5, Sc6, Sf6, Sc7, Sf7, Sc8, Sf8⟩ := cf9 HS7.out
  obtain ⟨Tc0, Tf0, Tc1, Tf1, Tc2, Tf2, Tc3, Tf3, Tc4, Tf4, Tc5, Tf5, Tc6, Tf6, Tc7, Tf7, Tc8, Tf8⟩ := cf9 HT8.out
  have hs0 : (w6.setCell ⟨TB, 3, none⟩ (.string ⟨o.toArray⟩)).heap[TB]? = some (.cells #[.int .i64 1, .string ⟨h1.toArray⟩, .string ⟨h2.toArray⟩, .string ⟨o.toArray⟩, .string ⟨#[]⟩, .string ⟨#[]⟩, .string ⟨#[]⟩, .string ⟨#[]⟩, .string ⟨#[]⟩] 38) := heap_set (HT8.out) 3 (.string ⟨o.toArray⟩)
  have hkE : Keeps (fun q => q = TB) w6 (w6.setCell ⟨TB, 3, none⟩ (.string ⟨o.toArray⟩)) := (Keeps.setCell (S := fun q => q = TB) (Keeps.refl _ _) (p := ⟨TB, 3, none⟩) (fun _ => rfl) _)
  have HT11 := Lib.hid hs0
  have HS12 := Lib.hid (((hkE).block _ (lt_of_heap HS7.out) (by have := HN2.out; show ¬ _ = _; omega)).trans HS7.out)
  have HK13 := Lib.hid (HK9.out.trans_new hkE (fun q hq e => by have := HN2.out; omega))
  clear hkE hs0 HT8 HS7 HK9
  go_upto_region 7 with fail
  clear Sc0 Sf0 Sc1 Sf1 Sc2 Sf2 Sc3 Sf3 Sc4 Sf4 Sc5 Sf5 Sc6 Sf6 Sc7 Sf7 Sc8 Sf8 Tc0 Tf0 Tc1 Tf1 Tc2 Tf2 Tc3 Tf3 Tc4 Tf4 Tc5 Tf5 Tc6 Tf6 Tc7 Tf7 Tc8 Tf8
  generalize (w6.setCell ⟨TB, 3, none⟩ (.string ⟨o.toArray⟩)) = w10 at *
  cases bH
  case false =>
   go_wp2_with fail
   go_ret
   exact ⟨rfl, HK13⟩
  case true =>
   obtain ⟨Sc0, Sf0, Sc1, Sf1, Sc2, Sf2, Sc3, Sf3, Sc4, Sf4, Sc5, Sf5, Sc6, Sf6, Sc7, Sf7, Sc8, Sf8⟩ := cf9 HS12.out
   go_wp2_with fail
   refine (HW.out _).mono ?_
   rintro e w14 ⟨rfl, hk⟩
   have HS15 := Lib.hid (((hk.out).block _ (lt_of_heap HS12.out) (fun x => x)).trans HS12.out)
   have HT16 := Lib.hid (((hk.out).block _ (lt_of_heap HT11.out) (fun x => x)).trans HT11.out)
   have HK17 := Lib.hid (HK13.out.trans hk.out)
   clear Sc0 Sf0 Sc1 Sf1 Sc2 Sf2 Sc3 Sf3 Sc4 Sf4 Sc5 Sf5 Sc6 Sf6 Sc7 Sf7 Sc8 Sf8
   clear hk HS12 HT11 HK13
   clear HW
   cases bW
   case false =>
    go_wp2_with fail
    go_ret
    exact ⟨rfl, HK17⟩
   case true =>
    obtain ⟨Sc0, Sf0, Sc1, Sf1, Sc2, Sf2, Sc3, Sf3, Sc4, Sf4, Sc5, Sf5, Sc6, Sf6, Sc7, Sf7, Sc8, Sf8⟩ := cf9 HS15.out
    obtain ⟨Tc0, Tf0, Tc1, Tf1, Tc2, Tf2, Tc3, Tf3, Tc4, Tf4, Tc5, Tf5, Tc6, Tf6, Tc7, Tf7, Tc8, Tf8⟩ := cf9 HT16.out
    go_wp2_with fail
    go_ret
    exact ⟨rfl, HK17⟩
 case neg =>
  by_cases k2 : k = 2
  case pos =>
   subst k2
   have HQ : ∀ w, (binOp .eql 38 (.agg #[.int .i64 2, .string ⟨h1.toArray⟩, .string ⟨h2.toArray⟩, .string ⟨o.toArray⟩, .string ⟨a1.toArray⟩, .string ⟨a2.toArray⟩, .string ⟨b1.toArray⟩, .string ⟨b2.toArray⟩, .string ⟨i.toArray⟩]) (.agg (stmEnc ((h1, h2), 2, [], (a1, a2), noRol, [])).toArray)).run Tryz.prog w = .ok (.bool (decide (o = [] ∧ (b1, b2) = noRol ∧ i = []))) w := fun w => by
    have q := stm_eql ((h1, h2), 2, o, (a1, a2), (b1, b2), i) ((h1, h2), 2, [], (a1, a2), noRol, []) w
    have e : decide ((((h1, h2), (2 : Int), o, (a1, a2), (b1, b2), i) : Stm) = ((h1, h2), 2, [], (a1, a2), noRol, [])) = decide (o = [] ∧ (b1, b2) = noRol ∧ i = []) := decide_eq_decide.2 (by simp only [Prod.mk.injEq, noRol, true_and, and_true]; first | done | exact Iff.rfl | (constructor <;> (intro q; simp_all)))
    rw [e] at q
    exact q
   obtain ⟨d, hd⟩ : ∃ d, decide (o = [] ∧ (b1, b2) = noRol ∧ i = []) = d := ⟨_, rfl⟩
   have hres : ∀ z, (if (2 : Int) = 1 then bW && decide ((a1, a2) = noRol) && decide ((b1, b2) = noRol) && decide (i = []) else if (2 : Int) = 2 then decide (o = []) && bA && decide ((b1, b2) = noRol) && decide (i = []) else if (2 : Int) = 3 then decide (o = []) && bA && decide ((b1, b2) = noRol) && bI else if (2 : Int) = 4 then decide (o = []) && bA && bB && decide (i = []) && !bL else z) = (bA && d) := fun z => by
    rw [← hd]
    simp only [Bool.decide_and]
    simp
    generalize decide ((a1, a2) = noRol) = x1
    generalize decide ((b1, b2) = noRol) = x2
    generalize decide (i = []) = x3
    generalize decide (o = []) = x4
    cases bW <;> cases bA <;> cases bB <;> cases bI <;> cases bL <;> cases x1 <;> cases x2 <;> cases x3 <;> cases x4 <;> rfl
   rw [hd] at HQ
   rw [hres]
   clear hres hd
   unfold stmEnc at HQ
   (try unfold noRol at HQ)
   simp only at HQ
   obtain ⟨SB, hSB⟩ : ∃ q, W.heap.size = q := ⟨_, rfl⟩
   have hal0 := (MapKept.heap_alloc W (bM 2 h1 h2 o a1 a2 b1 b2 i)).1
   obtain ⟨W1, hW1⟩ : ∃ q, W.alloc (bM 2 h1 h2 o a1 a2 b1 b2 i) = q := ⟨_, rfl⟩
   have k1 : KF W W1 := by rw [← hW1]; exact (Keeps.refl _ _).alloc _
   rw [hW1, hSB] at hal0
   have HS0 := Lib.hid hal0
   have HK0 := Lib.hid k1
   have HN : Hid (W.heap.size ≤ SB) := by show _ ≤ _; omega
   clear k1 hal0
   go_enter Tryz.func158, Tryz.ntmps158
   go_upto_region 1 with fail
   clear hW1 hSB
   obtain ⟨Sc0, Sf0, Sc1, Sf1, Sc2, Sf2, Sc3, Sf3, Sc4, Sf4, Sc5, Sf5, Sc6, Sf6, Sc7, Sf7, Sc8, Sf8⟩ := cf9 HS0.out
   have hal := (MapKept.heap_alloc W1 (.cells #[.int .i64 2, .string ⟨h1.toArray⟩, .string ⟨h2.toArray⟩, .string ⟨#[]⟩, .string ⟨#[]⟩, .string ⟨#[]⟩, .string ⟨#[]⟩, .string ⟨#[]⟩, .string ⟨#[]⟩] 38)).1
   have hkE : KF W1 (W1.alloc (.cells #[.int .i64 2, .string ⟨h1.toArray⟩, .string ⟨h2.toArray⟩, .string ⟨#[]⟩, .string ⟨#[]⟩, .string ⟨#[]⟩, .string ⟨#[]⟩, .string ⟨#[]⟩, .string ⟨#[]⟩] 38)) := (Keeps.refl _ _).alloc _
   obtain ⟨TB, hTB⟩ : ∃ q, W1.heap.size = q := ⟨_, rfl⟩
   rw [hTB] at hal
   have HS20 := Lib.hid (((hkE).block _ (lt_of_heap HS0.out) (fun x => x)).trans HS0.out)
   have HN19 : Hid ((W.heap.size ≤ SB) ∧ W.heap.size ≤ TB ∧ SB < TB) := ⟨HN.out, by
    have hz := HK0.out.size
    have l0 := lt_of_heap HS0.out
    refine ⟨?_, ?_⟩ <;> omega⟩
   have HK21 := Lib.hid (HK0.out.trans hkE)
   have HT22 := Lib.hid hal
   clear hkE hal HS0 HN HK0
   go_upto_region 2 with fail
   clear Sc0 Sf0 Sc1 Sf1 Sc2 Sf2 Sc3 Sf3 Sc4 Sf4 Sc5 Sf5 Sc6 Sf6 Sc7 Sf7 Sc8 Sf8
   clear hTB
   generalize (W1.alloc (.cells #[.int .i64 2, .string ⟨h1.toArray⟩, .string ⟨h2.toArray⟩, .string ⟨#[]⟩, .string ⟨#[]⟩, .string ⟨#[]⟩, .string ⟨#[]⟩, .string ⟨#[]⟩, .string ⟨#[]⟩] 38)) = w18 at *
   obtain ⟨Sc0, Sf0, Sc1, Sf1, Sc2, Sf2, Sc3, Sf3, Sc4, Sf4, Sc5, Sf5, Sc6, Sf6, Sc7, Sf7, Sc8, Sf8⟩ := cf9 HS20.out
   obtain ⟨Tc0, Tf0, Tc1, Tf1, Tc2, Tf2, Tc3, Tf3, Tc4, Tf4, Tc5, Tf5, Tc6, Tf6, Tc7, Tf7, Tc8, Tf8⟩ := cf9 HT22.out
   go_wp2_with fail
   refine (HH.out _).mono ?_
   rintro e w23 ⟨rfl, hk⟩
   have HS24 := Lib.hid (((hk.out).block _ (lt_of_heap HS20.out) (fun x => x)).trans HS20.out)
   have HT25 := Lib.hid (((hk.out).block _ (lt_of_heap HT22.out) (fun x => x)).trans HT22.out)
   have HK26 := Lib.hid (HK21.out.trans hk.out)
   clear Sc0 Sf0 Sc1 Sf1 Sc2 Sf2 Sc3 Sf3 Sc4 Sf4 Sc5 Sf5 Sc6 Sf6 Sc7 Sf7 Sc8 Sf8 Tc0 Tf0 Tc1 Tf1 Tc2 Tf2 Tc3 Tf3 Tc4 Tf4 Tc5 Tf5 Tc6 Tf6 Tc7 Tf7 Tc8 Tf8
   clear hk HS20 HT22 HK21
   clear HH
   obtain ⟨Sc0, Sf0, Sc1, Sf1, Sc2, Sf2, Sc3, Sf3, Sc4, Sf4, Sc5, Sf5, Sc6, Sf6, Sc7, Sf7, Sc8, Sf8⟩ := cf9 HS24.out
   go_upto_region 9 with fail
   clear Sc0 Sf0 Sc1 Sf1 Sc2 Sf2 Sc3 Sf3 Sc4 Sf4 Sc5 Sf5 Sc6 Sf6 Sc7 Sf7 Sc8 Sf8
   obtain ⟨Sc0, Sf0, Sc1, Sf1, Sc2, Sf2, Sc3, Sf3, Sc4, Sf4, Sc5, Sf5, Sc6, Sf6, Sc7, Sf7, Sc8, Sf8⟩ := cf9 HS24.out
   obtain ⟨Tc0, Tf0, Tc1, Tf1, Tc2, Tf2, Tc3, Tf3, Tc4, Tf4, Tc5, Tf5, Tc6, Tf6, Tc7, Tf7, Tc8, Tf8⟩ := cf9 HT25.out
   have hs0 : (w23.setCell ⟨TB, 4, none⟩ (.string ⟨a1.toArray⟩)).heap[TB]? = some (.cells #[.int .i64 2, .string ⟨h1.toArray⟩, .string ⟨h2.toArray⟩, .string ⟨#[]⟩, .string ⟨a1.toArray⟩, .string ⟨#[]⟩, .string ⟨#[]⟩, .string ⟨#[]⟩, .string ⟨#[]⟩] 38) := heap_set (HT25.out) 4 (.string ⟨a1.toArray⟩)
   have hs1 : ((w23.setCell ⟨TB, 4, none⟩ (.string ⟨a1.toArray⟩)).setCell ⟨TB, 5, none⟩ (.string ⟨a2.toArray⟩)).heap[TB]? = some (.cells #[.int .i64 2, .string ⟨h1.toArray⟩, .string ⟨h2.toArray⟩, .string ⟨#[]⟩, .string ⟨a1.toArray⟩, .string ⟨a2.toArray⟩, .string ⟨#[]⟩, .string ⟨#[]⟩, .string ⟨#[]⟩] 38) := heap_set (hs0) 5 (.string ⟨a2.toArray⟩)
   have hkE : Keeps (fun q => q = TB) w23 ((w23.setCell ⟨TB, 4, none⟩ (.string ⟨a1.toArray⟩)).setCell ⟨TB, 5, none⟩ (.string ⟨a2.toArray⟩)) := (Keeps.setCell (S := fun q => q = TB) (Keeps.setCell (S := fun q => q = TB) (Keeps.refl _ _) (p := ⟨TB, 4, none⟩) (fun _ => rfl) _) (p := ⟨TB, 5, none⟩) (fun _ => rfl) _)
   have HT28 := Lib.hid hs1
   have HS29 := Lib.hid (((hkE).block _ (lt_of_heap HS24.out) (by have := HN19.out; show ¬ _ = _; omega)).trans HS24.out)
   have HK30 := Lib.hid (HK26.out.trans_new hkE (fun q hq e => by have := HN19.out; omega))
   clear hkE hs0 hs1 HT25 HS24 HK26
   go_upto_region 10 with fail
   clear Sc0 Sf0 Sc1 Sf1 Sc2 Sf2 Sc3 Sf3 Sc4 Sf4 Sc5 Sf5 Sc6 Sf6 Sc7 Sf7 Sc8 Sf8 Tc0 Tf0 Tc1 Tf1 Tc2 Tf2 Tc3 Tf3 Tc4 Tf4 Tc5 Tf5 Tc6 Tf6 Tc7 Tf7 Tc8 Tf8
   generalize ((w23.setCell ⟨TB, 4, none⟩ (.string ⟨a1.toArray⟩)).setCell ⟨TB, 5, none⟩ (.string ⟨a2.toArray⟩)) = w27 at *
   cases bH
   case false =>
    go_wp2_with fail
    go_ret
    exact ⟨rfl, HK30⟩
   case true =>
    obtain ⟨Sc0, Sf0, Sc1, Sf1, Sc2, Sf2, Sc3, Sf3, Sc4, Sf4, Sc5, Sf5, Sc6, Sf6, Sc7, Sf7, Sc8, Sf8⟩ := cf9 HS29.out
    go_wp2_with fail
    refine (HA.out _).mono ?_
    rintro e w31 ⟨rfl, hk⟩
    have HS32 := Lib.hid (((hk.out).block _ (lt_of_heap HS29.out) (fun x => x)).trans HS29.out)
    have HT33 := Lib.hid (((hk.out).block _ (lt_of_heap HT28.out) (fun x => x)).trans HT28.out)
    have HK34 := Lib.hid (HK30.out.trans hk.out)
    clear Sc0 Sf0 Sc1 Sf1 Sc2 Sf2 Sc3 Sf3 Sc4 Sf4 Sc5 Sf5 Sc6 Sf6 Sc7 Sf7 Sc8 Sf8
    clear hk HS29 HT28 HK30
    clear HA
    cases bA
    case false =>
     go_wp2_with fail
     go_ret
     exact ⟨rfl, HK34⟩
    case true =>
     obtain ⟨Sc0, Sf0, Sc1, Sf1, Sc2, Sf2, Sc3, Sf3, Sc4, Sf4, Sc5, Sf5, Sc6, Sf6, Sc7, Sf7, Sc8, Sf8⟩ := cf9 HS32.out
     obtain ⟨Tc0, Tf0, Tc1, Tf1, Tc2, Tf2, Tc3, Tf3, Tc4, Tf4, Tc5, Tf5, Tc6, Tf6, Tc7, Tf7, Tc8, Tf8⟩ := cf9 HT33.out
     go_wp2_with fail
     go_ret
     exact ⟨rfl, HK34⟩
  case neg =>
   by_cases k3 : k = 3
   case pos =>
    subst k3
    have HQ : ∀ w, (binOp .eql 38 (.agg #[.int .i64 3, .string ⟨h1.toArray⟩, .string ⟨h2.toArray⟩, .string ⟨o.toArray⟩, .string ⟨a1.toArray⟩, .string ⟨a2.toArray⟩, .string ⟨b1.toArray⟩, .string ⟨b2.toArray⟩, .string ⟨i.toArray⟩]) (.agg (stmEnc ((h1, h2), 3, [], (a1, a2), noRol, i)).toArray)).run Tryz.prog w = .ok (.bool (decide (o = [] ∧ (b1, b2) = noRol))) w := fun w => by
     have q := stm_eql ((h1, h2), 3, o, (a1, a2), (b1, b2), i) ((h1, h2), 3, [], (a1, a2), noRol, i) w
     have e : decide ((((h1, h2), (3 : Int), o, (a1, a2), (b1, b2), i) : Stm) = ((h1, h2), 3, [], (a1, a2), noRol, i)) = decide (o = [] ∧ (b1, b2) = noRol) := decide_eq_decide.2 (by simp only [Prod.mk.injEq, noRol, true_and, and_true]; first | done | exact Iff.rfl | (constructor <;> (intro q; simp_all)))
     rw [e] at q
     exact q
    obtain ⟨d, hd⟩ : ∃ d, decide (o = [] ∧ (b1, b2) = noRol) = d := ⟨_, rfl⟩
    have hres : ∀ z, (if (3 : Int) = 1 then bW && decide ((a1, a2) = noRol) && decide ((b1, b2) = noRol) && decide (i = []) else if (3 : Int) = 2 then decide (o = []) && bA && decide ((b1, b2) = noRol) && decide (i = []) else if (3 : Int) = 3 then decide (o = []) && bA && decide ((b1, b2) = noRol) && bI else if (3 : Int) = 4 then decide (o = []) && bA && bB && decide (i = []) && !bL else z) = ((bA && bI) && d) := fun z => by
     rw [← hd]
     simp only [Bool.decide_and]
     simp
     generalize decide ((a1, a2) = noRol) = x1
     generalize decide ((b1, b2) = noRol) = x2
     generalize decide (i = []) = x3
     generalize decide (o = []) = x4
     cases bW <;> cases bA <;> cases bB <;> cases bI <;> cases bL <;> cases x1 <;> cases x2 <;> cases x3 <;> cases x4 <;> rfl
    rw [hd] at HQ
    rw [hres]
    clear hres hd
    unfold stmEnc at HQ
    (try unfold noRol at HQ)
    simp only at HQ
    obtain ⟨SB, hSB⟩ : ∃ q, W.heap.size = q := ⟨_, rfl⟩
    have hal0 := (MapKept.heap_alloc W (bM 3 h1 h2 o a1 a2 b1 b2 i)).1
    obtain ⟨W1, hW1⟩ : ∃ q, W.alloc (bM 3 h1 h2 o a1 a2 b1 b2 i) = q := ⟨_, rfl⟩
    have k1 : KF W W1 := by rw [← hW1]; exact (Keeps.refl _ _).alloc _
    rw [hW1, hSB] at hal0
    have HS0 := Lib.hid hal0
    have HK0 := Lib.hid k1
    have HN : Hid (W.heap.size ≤ SB) := by show _ ≤ _; omega
    clear k1 hal0
    go_enter Tryz.func158, Tryz.ntmps158
    go_upto_region 1 with fail
    clear hW1 hSB
    obtain ⟨Sc0, Sf0, Sc1, Sf1, Sc2, Sf2, Sc3, Sf3, Sc4, Sf4, Sc5, Sf5, Sc6, Sf6, Sc7, Sf7, Sc8, Sf8⟩ := cf9 HS0.out
    have hal := (MapKept.heap_alloc W1 (.cells #[.int .i64 3, .string ⟨h1.toArray⟩, .string ⟨h2.toArray⟩, .string ⟨#[]⟩, .string ⟨#[]⟩, .string ⟨#[]⟩, .string ⟨#[]⟩, .string ⟨#[]⟩, .string ⟨#[]⟩] 38)).1
    have hkE : KF W1 (W1.alloc (.cells #[.int .i64 3, .string ⟨h1.toArray⟩, .string ⟨h2.toArray⟩, .string ⟨#[]⟩, .string ⟨#[]⟩, .string ⟨#[]⟩, .string ⟨#[]⟩, .string ⟨#[]⟩, .string ⟨#[]⟩] 38)) := (Keeps.refl _ _).alloc _
    obtain ⟨TB, hTB⟩ : ∃ q, W1.heap.size = q := ⟨_, rfl⟩
    rw [hTB] at hal
    have HS37 := Lib.hid (((hkE).block _ (lt_of_heap HS0.out) (fun x => x)).trans HS0.out)
    have HN36 : Hid ((W.heap.size ≤ SB) ∧ W.heap.size ≤ TB ∧ SB < TB) := ⟨HN.out, by
     have hz := HK0.out.size
     have l0 := lt_of_heap HS0.out
     refine ⟨?_, ?_⟩ <;> omega⟩
    have HK38 := Lib.hid (HK0.out.trans hkE)
    have HT39 := Lib.hid hal
    clear hkE hal HS0 HN HK0
    go_upto_region 2 with fail
    clear Sc0 Sf0 Sc1 Sf1 Sc2 Sf2 Sc3 Sf3 Sc4 Sf4 Sc5 Sf5 Sc6 Sf6 Sc7 Sf7 Sc8 Sf8
    clear hTB
    generalize (W1.alloc (.cells #[.int .i64 3, .string ⟨h1.toArray⟩, .string ⟨h2.toArray⟩, .string ⟨#[]⟩, .string ⟨#[]⟩, .string ⟨#[]⟩, .string ⟨#[]⟩, .string ⟨#[]⟩, .string ⟨#[]⟩] 38)) = w35 at *
    obtain ⟨Sc0, Sf0, Sc1, Sf1, Sc2, Sf2, Sc3, Sf3, Sc4, Sf4, Sc5, Sf5, Sc6, Sf6, Sc7, Sf7, Sc8, Sf8⟩ := cf9 HS37.out
    obtain ⟨Tc0, Tf0, Tc1, Tf1, Tc2, Tf2, Tc3, Tf3, Tc4, Tf4, Tc5, Tf5, Tc6, Tf6, Tc7, Tf7, Tc8, Tf8⟩ := cf9 HT39.out
    go_wp2_with fail
    refine (HH.out _).mono ?_
    rintro e w40 ⟨rfl, hk⟩
    have HS41 := Lib.hid (((hk.out).block _ (lt_of_heap HS37.out) (fun x => x)).trans HS37.out)
    have HT42 := Lib.hid (((hk.out).block _ (lt_of_heap HT39.out) (fun x => x)).trans HT39.out)
    have HK43 := Lib.hid (HK38.out.trans hk.out)
    clear Sc0 Sf0 Sc1 Sf1 Sc2 Sf2 Sc3 Sf3 Sc4 Sf4 Sc5 Sf5 Sc6 Sf6 Sc7 Sf7 Sc8 Sf8 Tc0 Tf0 Tc1 Tf1 Tc2 Tf2 Tc3 Tf3 Tc4 Tf4 Tc5 Tf5 Tc6 Tf6 Tc7 Tf7 Tc8 Tf8
    clear hk HS37 HT39 HK38
    clear HH
    obtain ⟨Sc0, Sf0, Sc1, Sf1, Sc2, Sf2, Sc3, Sf3, Sc4, Sf4, Sc5, Sf5, Sc6, Sf6, Sc7, Sf7, Sc8, Sf8⟩ := cf9 HS41.out
    go_upto_region 12 with fail
    clear Sc0 Sf0 Sc1 Sf1 Sc2 Sf2 Sc3 Sf3 Sc4 Sf4 Sc5 Sf5 Sc6 Sf6 Sc7 Sf7 Sc8 Sf8
    have HMK44 : Hid (∀ w' : World, w'.heap[SB]? = some (bM 3 h1 h2 o a1 a2 b1 b2 i) → w'.cell? ⟨SB, 0, none⟩ = some (.int .i64 3) ∧ w'.cell? ⟨SB, 1, none⟩ = some (.string ⟨h1.toArray⟩) ∧ w'.cell? ⟨SB, 2, none⟩ = some (.string ⟨h2.toArray⟩) ∧ w'.cell? ⟨SB, 3, none⟩ = some (.string ⟨o.toArray⟩) ∧ w'.cell? ⟨SB, 4, none⟩ = some (.string ⟨a1.toArray⟩) ∧ w'.cell? ⟨SB, 5, none⟩ = some (.string ⟨a2.toArray⟩) ∧ w'.cell? ⟨SB, 6, none⟩ = some (.string ⟨b1.toArray⟩) ∧ w'.cell? ⟨SB, 7, none⟩ = some (.string ⟨b2.toArray⟩) ∧ w'.cell? ⟨SB, 8, none⟩ = some (.string ⟨i.toArray⟩) ∧ Hid (w'.heap[SB]? = some (bM 3 h1 h2 o a1 a2 b1 b2 i))) := fun w' h0 => ⟨(by rw [cell_of_heap h0]; rfl), (by rw [cell_of_heap h0]; rfl), (by rw [cell_of_heap h0]; rfl), (by rw [cell_of_heap h0]; rfl), (by rw [cell_of_heap h0]; rfl), (by rw [cell_of_heap h0]; rfl), (by rw [cell_of_heap h0]; rfl), (by rw [cell_of_heap h0]; rfl), (by rw [cell_of_heap h0]; rfl), Lib.hid h0⟩
    have hkd : KF w40 w40.drew := (Keeps.refl _ _).drew
    have HS45 := Lib.hid (((hkd).block _ (lt_of_heap HS41.out) (fun x => x)).trans HS41.out)
    have HT46 := Lib.hid (((hkd).block _ (lt_of_heap HT42.out) (fun x => x)).trans HT42.out)
    have HK47 := Lib.hid (HK43.out.drew)
    have hS0 := HMK44.out w40.drew HS45.out
    clear hkd HS41 HT42 HK43
    refine wp_region_noPanic ?_
    refine wp_region_held_drew (S := (fun w' => w'.cell? ⟨SB, 0, none⟩ = some (.int .i64 3) ∧ w'.cell? ⟨SB, 1, none⟩ = some (.string ⟨h1.toArray⟩) ∧ w'.cell? ⟨SB, 2, none⟩ = some (.string ⟨h2.toArray⟩) ∧ w'.cell? ⟨SB, 3, none⟩ = some (.string ⟨o.toArray⟩) ∧ w'.cell? ⟨SB, 4, none⟩ = some (.string ⟨a1.toArray⟩) ∧ w'.cell? ⟨SB, 5, none⟩ = some (.string ⟨a2.toArray⟩) ∧ w'.cell? ⟨SB, 6, none⟩ = some (.string ⟨b1.toArray⟩) ∧ w'.cell? ⟨SB, 7, none⟩ = some (.string ⟨b2.toArray⟩) ∧ w'.cell? ⟨SB, 8, none⟩ = some (.string ⟨i.toArray⟩) ∧ Hid (w'.heap[SB]? = some (bM 3 h1 h2 o a1 a2 b1 b2 i)))) (by kernel_rfl) hS0 (fun hHeld => ?_)
    clear hS0
    generalize w40.drew = w48 at *
    refine tk 0 rfl hHeld ?_
    refine tk 1 rfl hHeld ?_
    refine tk 2 rfl hHeld ?_
    (try simp only [nz])
    refine tk 3 rfl hHeld ?_
    refine tk 4 rfl hHeld ?_
    (try simp only [nz])
    refine on1 5 rfl fun KK hK => ?_
    obtain ⟨Tc0, Tf0, Tc1, Tf1, Tc2, Tf2, Tc3, Tf3, Tc4, Tf4, Tc5, Tf5, Tc6, Tf6, Tc7, Tf7, Tc8, Tf8⟩ := cf9 HT46.out
    have hs0 : (w48.setCell ⟨TB, 4, none⟩ (.string ⟨a1.toArray⟩)).heap[TB]? = some (.cells #[.int .i64 3, .string ⟨h1.toArray⟩, .string ⟨h2.toArray⟩, .string ⟨#[]⟩, .string ⟨a1.toArray⟩, .string ⟨#[]⟩, .string ⟨#[]⟩, .string ⟨#[]⟩, .string ⟨#[]⟩] 38) := heap_set (HT46.out) 4 (.string ⟨a1.toArray⟩)
    have hs1 : ((w48.setCell ⟨TB, 4, none⟩ (.string ⟨a1.toArray⟩)).setCell ⟨TB, 5, none⟩ (.string ⟨a2.toArray⟩)).heap[TB]? = some (.cells #[.int .i64 3, .string ⟨h1.toArray⟩, .string ⟨h2.toArray⟩, .string ⟨#[]⟩, .string ⟨a1.toArray⟩, .string ⟨a2.toArray⟩, .string ⟨#[]⟩, .string ⟨#[]⟩, .string ⟨#[]⟩] 38) := heap_set (hs0) 5 (.string ⟨a2.toArray⟩)
    have hkE : Keeps (fun q => q = TB) w48 ((w48.setCell ⟨TB, 4, none⟩ (.string ⟨a1.toArray⟩)).setCell ⟨TB, 5, none⟩ (.string ⟨a2.toArray⟩)) := (Keeps.setCell (S := fun q => q = TB) (Keeps.setCell (S := fun q => q = TB) (Keeps.refl _ _) (p := ⟨TB, 4, none⟩) (fun _ => rfl) _) (p := ⟨TB, 5, none⟩) (fun _ => rfl) _)
    have HT54 := Lib.hid hs1
    have HS55 := Lib.hid (((hkE).block _ (lt_of_heap HS45.out) (by have := HN36.out; show ¬ _ = _; omega)).trans HS45.out)
    have HK56 := Lib.hid (HK47.out.trans_new hkE (fun q hq e => by have := HN36.out; omega))
    go_simp
    refine hK.out _ _ (HMK44.out _ HS55.out) fun hHeld => ?_
    clear hK KK
    (try simp only [nz])
    clear hkE hs0 hs1 HT46 HS45 HK47
    clear Tc0 Tf0 Tc1 Tf1 Tc2 Tf2 Tc3 Tf3 Tc4 Tf4 Tc5 Tf5 Tc6 Tf6 Tc7 Tf7 Tc8 Tf8
    generalize ((w48.setCell ⟨TB, 4, none⟩ (.string ⟨a1.toArray⟩)).setCell ⟨TB, 5, none⟩ (.string ⟨a2.toArray⟩)) = w58 at *
    refine tk 6 rfl hHeld ?_
    (try simp only [nz])
    refine on1 7 rfl fun KK hK => ?_
    obtain ⟨Tc0, Tf0, Tc1, Tf1, Tc2, Tf2, Tc3, Tf3, Tc4, Tf4, Tc5, Tf5, Tc6, Tf6, Tc7, Tf7, Tc8, Tf8⟩ := cf9 HT54.out
    have hs0 : (w58.setCell ⟨TB, 8, none⟩ (.string ⟨i.toArray⟩)).heap[TB]? = some (.cells #[.int .i64 3, .string ⟨h1.toArray⟩, .string ⟨h2.toArray⟩, .string ⟨#[]⟩, .string ⟨a1.toArray⟩, .string ⟨a2.toArray⟩, .string ⟨#[]⟩, .string ⟨#[]⟩, .string ⟨i.toArray⟩] 38) := heap_set (HT54.out) 8 (.string ⟨i.toArray⟩)
    have hkE : Keeps (fun q => q = TB) w58 (w58.setCell ⟨TB, 8, none⟩ (.string ⟨i.toArray⟩)) := (Keeps.setCell (S := fun q => q = TB) (Keeps.refl _ _) (p := ⟨TB, 8, none⟩) (fun _ => rfl) _)
    have HT60 := Lib.hid hs0
    have HS61 := Lib.hid (((hkE).block _ (lt_of_heap HS55.out) (by have := HN36.out; show ¬ _ = _; omega)).trans HS55.out)
    have HK62 := Lib.hid (HK56.out.trans_new hkE (fun q hq e => by have := HN36.out; omega))
    go_simp
    refine hK.out _ _ (HMK44.out _ HS61.out) fun hHeld => ?_
    clear hK KK
    (try simp only [nz])
    clear hkE hs0 HT54 HS55 HK56
    clear Tc0 Tf0 Tc1 Tf1 Tc2 Tf2 Tc3 Tf3 Tc4 Tf4 Tc5 Tf5 Tc6 Tf6 Tc7 Tf7 Tc8 Tf8
    generalize (w58.setCell ⟨TB, 8, none⟩ (.string ⟨i.toArray⟩)) = w64 at *
    refine wpAnyH_done (by kernel_rfl) ?_ _
    refine NoPanic.normal ?_
    clear hHeld HMK44
    go_upto_region 13 with fail
    cases bH
    case false =>
     go_wp2_with fail
     go_ret
     exact ⟨rfl, HK62⟩
    case true =>
     obtain ⟨Sc0, Sf0, Sc1, Sf1, Sc2, Sf2, Sc3, Sf3, Sc4, Sf4, Sc5, Sf5, Sc6, Sf6, Sc7, Sf7, Sc8, Sf8⟩ := cf9 HS61.out
     go_wp2_with fail
     refine (HA.out _).mono ?_
     rintro e w65 ⟨rfl, hk⟩
     have HS66 := Lib.hid (((hk.out).block _ (lt_of_heap HS61.out) (fun x => x)).trans HS61.out)
     have HT67 := Lib.hid (((hk.out).block _ (lt_of_heap HT60.out) (fun x => x)).trans HT60.out)
     have HK68 := Lib.hid (HK62.out.trans hk.out)
     clear Sc0 Sf0 Sc1 Sf1 Sc2 Sf2 Sc3 Sf3 Sc4 Sf4 Sc5 Sf5 Sc6 Sf6 Sc7 Sf7 Sc8 Sf8
     clear hk HS61 HT60 HK62
     clear HA
     cases bA
     case false =>
      go_wp2_with fail
      go_ret
      exact ⟨rfl, HK68⟩
     case true =>
      obtain ⟨Sc0, Sf0, Sc1, Sf1, Sc2, Sf2, Sc3, Sf3, Sc4, Sf4, Sc5, Sf5, Sc6, Sf6, Sc7, Sf7, Sc8, Sf8⟩ := cf9 HS66.out
      go_wp2_with fail
      refine (HI.out _).mono ?_
      rintro e w69 ⟨rfl, hk⟩
      have HS70 := Lib.hid (((hk.out).block _ (lt_of_heap HS66.out) (fun x => x)).trans HS66.out)
      have HT71 := Lib.hid (((hk.out).block _ (lt_of_heap HT67.out) (fun x => x)).trans HT67.out)
      have HK72 := Lib.hid (HK68.out.trans hk.out)
      clear Sc0 Sf0 Sc1 Sf1 Sc2 Sf2 Sc3 Sf3 Sc4 Sf4 Sc5 Sf5 Sc6 Sf6 Sc7 Sf7 Sc8 Sf8
      clear hk HS66 HT67 HK68
      clear HI
      cases bI
      case false =>
       go_wp2_with fail
       go_ret
       exact ⟨rfl, HK72⟩
      case true =>
       obtain ⟨Sc0, Sf0, Sc1, Sf1, Sc2, Sf2, Sc3, Sf3, Sc4, Sf4, Sc5, Sf5, Sc6, Sf6, Sc7, Sf7, Sc8, Sf8⟩ := cf9 HS70.out
       obtain ⟨Tc0, Tf0, Tc1, Tf1, Tc2, Tf2, Tc3, Tf3, Tc4, Tf4, Tc5, Tf5, Tc6, Tf6, Tc7, Tf7, Tc8, Tf8⟩ := cf9 HT71.out
       go_wp2_with fail
       go_ret
       exact ⟨rfl, HK72⟩
   case neg =>
    by_cases k4 : k = 4
    case pos =>
     subst k4
     have HQ : ∀ w, (binOp .eql 38 (.agg #[.int .i64 4, .string ⟨h1.toArray⟩, .string ⟨h2.toArray⟩, .string ⟨o.toArray⟩, .string ⟨a1.toArray⟩, .string ⟨a2.toArray⟩, .string ⟨b1.toArray⟩, .string ⟨b2.toArray⟩, .string ⟨i.toArray⟩]) (.agg (stmEnc ((h1, h2), 4, [], (a1, a2), (b1, b2), [])).toArray)).run Tryz.prog w = .ok (.bool (decide (o = [] ∧ i = []))) w := fun w => by
      have q := stm_eql ((h1, h2), 4, o, (a1, a2), (b1, b2), i) ((h1, h2), 4, [], (a1, a2), (b1, b2), []) w
      have e : decide ((((h1, h2), (4 : Int), o, (a1, a2), (b1, b2), i) : Stm) = ((h1, h2), 4, [], (a1, a2), (b1, b2), [])) = decide (o = [] ∧ i = []) := decide_eq_decide.2 (by simp only [Prod.mk.injEq, noRol, true_and, and_true]; first | done | exact Iff.rfl | (constructor <;> (intro q; simp_all)))
      rw [e] at q
      exact q
     obtain ⟨d, hd⟩ : ∃ d, decide (o = [] ∧ i = []) = d := ⟨_, rfl⟩
     have hres : ∀ z, (if (4 : Int) = 1 then bW && decide ((a1, a2) = noRol) && decide ((b1, b2) = noRol) && decide (i = []) else if (4 : Int) = 2 then decide (o = []) && bA && decide ((b1, b2) = noRol) && decide (i = []) else if (4 : Int) = 3 then decide (o = []) && bA && decide ((b1, b2) = noRol) && bI else if (4 : Int) = 4 then decide (o = []) && bA && bB && decide (i = []) && !bL else z) = ((bA && (bB && !bL)) && d) := fun z => by
      rw [← hd]
      simp only [Bool.decide_and]
      simp
      generalize decide ((a1, a2) = noRol) = x1
      generalize decide ((b1, b2) = noRol) = x2
      generalize decide (i = []) = x3
      generalize decide (o = []) = x4
      cases bW <;> cases bA <;> cases bB <;> cases bI <;> cases bL <;> cases x1 <;> cases x2 <;> cases x3 <;> cases x4 <;> rfl
     rw [hd] at HQ
     rw [hres]
     clear hres hd
     unfold stmEnc at HQ
     (try unfold noRol at HQ)
     simp only at HQ
     obtain ⟨SB, hSB⟩ : ∃ q, W.heap.size = q := ⟨_, rfl⟩
     have hal0 := (MapKept.heap_alloc W (bM 4 h1 h2 o a1 a2 b1 b2 i)).1
     obtain ⟨W1, hW1⟩ : ∃ q, W.alloc (bM 4 h1 h2 o a1 a2 b1 b2 i) = q := ⟨_, rfl⟩
     have k1 : KF W W1 := by rw [← hW1]; exact (Keeps.refl _ _).alloc _
     rw [hW1, hSB] at hal0
     have HS0 := Lib.hid hal0
     have HK0 := Lib.hid k1
     have HN : Hid (W.heap.size ≤ SB) := by show _ ≤ _; omega
     clear k1 hal0
     go_enter Tryz.func158, Tryz.ntmps158
     go_upto_region 1 with fail
     clear hW1 hSB
     obtain ⟨Sc0, Sf0, Sc1, Sf1, Sc2, Sf2, Sc3, Sf3, Sc4, Sf4, Sc5, Sf5, Sc6, Sf6, Sc7, Sf7, Sc8, Sf8⟩ := cf9 HS0.out
     have hal := (MapKept.heap_alloc W1 (.cells #[.int .i64 4, .string ⟨h1.toArray⟩, .string ⟨h2.toArray⟩, .string ⟨#[]⟩, .string ⟨#[]⟩, .string ⟨#[]⟩, .string ⟨#[]⟩, .string ⟨#[]⟩, .string ⟨#[]⟩] 38)).1
     have hkE : KF W1 (W1.alloc (.cells #[.int .i64 4, .string ⟨h1.toArray⟩, .string ⟨h2.toArray⟩, .string ⟨#[]⟩, .string ⟨#[]⟩, .string ⟨#[]⟩, .string ⟨#[]⟩, .string ⟨#[]⟩, .string ⟨#[]⟩] 38)) := (Keeps.refl _ _).alloc _
     obtain ⟨TB, hTB⟩ : ∃ q, W1.heap.size = q := ⟨_, rfl⟩
     rw [hTB] at hal
     have HS75 := Lib.hid (((hkE).block _ (lt_of_heap HS0.out) (fun x => x)).trans HS0.out)
     have HN74 : Hid ((W.heap.size ≤ SB) ∧ W.heap.size ≤ TB ∧ SB < TB) := ⟨HN.out, by
      have hz := HK0.out.size
      have l0 := lt_of_heap HS0.out
      refine ⟨?_, ?_⟩ <;> omega⟩
     have HK76 := Lib.hid (HK0.out.trans hkE)
     have HT77 := Lib.hid hal
     clear hkE hal HS0 HN HK0
     go_upto_region 2 with fail
     clear Sc0 Sf0 Sc1 Sf1 Sc2 Sf2 Sc3 Sf3 Sc4 Sf4 Sc5 Sf5 Sc6 Sf6 Sc7 Sf7 Sc8 Sf8
     clear hTB
     generalize (W1.alloc (.cells #[.int .i64 4, .string ⟨h1.toArray⟩, .string ⟨h2.toArray⟩, .string ⟨#[]⟩, .string ⟨#[]⟩, .string ⟨#[]⟩, .string ⟨#[]⟩, .string ⟨#[]⟩, .string ⟨#[]⟩] 38)) = w73 at *
     obtain ⟨Sc0, Sf0, Sc1, Sf1, Sc2, Sf2, Sc3, Sf3, Sc4, Sf4, Sc5, Sf5, Sc6, Sf6, Sc7, Sf7, Sc8, Sf8⟩ := cf9 HS75.out
     obtain ⟨Tc0, Tf0, Tc1, Tf1, Tc2, Tf2, Tc3, Tf3, Tc4, Tf4, Tc5, Tf5, Tc6, Tf6, Tc7, Tf7, Tc8, Tf8⟩ := cf9 HT77.out
     go_wp2_with fail
     refine (HH.out _).mono ?_
     rintro e w78 ⟨rfl, hk⟩
     have HS79 := Lib.hid (((hk.out).block _ (lt_of_heap HS75.out) (fun x => x)).trans HS75.out)
     have HT80 := Lib.hid (((hk.out).block _ (lt_of_heap HT77.out) (fun x => x)).trans HT77.out)
     have HK81 := Lib.hid (HK76.out.trans hk.out)
     clear Sc0 Sf0 Sc1 Sf1 Sc2 Sf2 Sc3 Sf3 Sc4 Sf4 Sc5 Sf5 Sc6 Sf6 Sc7 Sf7 Sc8 Sf8 Tc0 Tf0 Tc1 Tf1 Tc2 Tf2 Tc3 Tf3 Tc4 Tf4 Tc5 Tf5 Tc6 Tf6 Tc7 Tf7 Tc8 Tf8
     clear hk HS75 HT77 HK76
     clear HH
     obtain ⟨Sc0, Sf0, Sc1, Sf1, Sc2, Sf2, Sc3, Sf3, Sc4, Sf4, Sc5, Sf5, Sc6, Sf6, Sc7, Sf7, Sc8, Sf8⟩ := cf9 HS79.out
     go_upto_region 15 with fail
     clear Sc0 Sf0 Sc1 Sf1 Sc2 Sf2 Sc3 Sf3 Sc4 Sf4 Sc5 Sf5 Sc6 Sf6 Sc7 Sf7 Sc8 Sf8
     have HMK82 : Hid (∀ w' : World, w'.heap[SB]? = some (bM 4 h1 h2 o a1 a2 b1 b2 i) → w'.cell? ⟨SB, 0, none⟩ = some (.int .i64 4) ∧ w'.cell? ⟨SB, 1, none⟩ = some (.string ⟨h1.toArray⟩) ∧ w'.cell? ⟨SB, 2, none⟩ = some (.string ⟨h2.toArray⟩) ∧ w'.cell? ⟨SB, 3, none⟩ = some (.string ⟨o.toArray⟩) ∧ w'.cell? ⟨SB, 4, none⟩ = some (.string ⟨a1.toArray⟩) ∧ w'.cell? ⟨SB, 5, none⟩ = some (.string ⟨a2.toArray⟩) ∧ w'.cell? ⟨SB, 6, none⟩ = some (.string ⟨b1.toArray⟩) ∧ w'.cell? ⟨SB, 7, none⟩ = some (.string ⟨b2.toArray⟩) ∧ w'.cell? ⟨SB, 8, none⟩ = some (.string ⟨i.toArray⟩) ∧ Hid (w'.heap[SB]? = some (bM 4 h1 h2 o a1 a2 b1 b2 i))) := fun w' h0 => ⟨(by rw [cell_of_heap h0]; rfl), (by rw [cell_of_heap h0]; rfl), (by rw [cell_of_heap h0]; rfl), (by rw [cell_of_heap h0]; rfl), (by rw [cell_of_heap h0]; rfl), (by rw [cell_of_heap h0]; rfl), (by rw [cell_of_heap h0]; rfl), (by rw [cell_of_heap h0]; rfl), (by rw [cell_of_heap h0]; rfl), Lib.hid h0⟩
     have hkd : KF w78 w78.drew := (Keeps.refl _ _).drew
     have HS83 := Lib.hid (((hkd).block _ (lt_of_heap HS79.out) (fun x => x)).trans HS79.out)
     have HT84 := Lib.hid (((hkd).block _ (lt_of_heap HT80.out) (fun x => x)).trans HT80.out)
     have HK85 := Lib.hid (HK81.out.drew)
     have hS0 := HMK82.out w78.drew HS83.out
     clear hkd HS79 HT80 HK81
     refine wp_region_noPanic ?_
     refine wp_region_held_drew (S := (fun w' => w'.cell? ⟨SB, 0, none⟩ = some (.int .i64 4) ∧ w'.cell? ⟨SB, 1, none⟩ = some (.string ⟨h1.toArray⟩) ∧ w'.cell? ⟨SB, 2, none⟩ = some (.string ⟨h2.toArray⟩) ∧ w'.cell? ⟨SB, 3, none⟩ = some (.string ⟨o.toArray⟩) ∧ w'.cell? ⟨SB, 4, none⟩ = some (.string ⟨a1.toArray⟩) ∧ w'.cell? ⟨SB, 5, none⟩ = some (.string ⟨a2.toArray⟩) ∧ w'.cell? ⟨SB, 6, none⟩ = some (.string ⟨b1.toArray⟩) ∧ w'.cell? ⟨SB, 7, none⟩ = some (.string ⟨b2.toArray⟩) ∧ w'.cell? ⟨SB, 8, none⟩ = some (.string ⟨i.toArray⟩) ∧ Hid (w'.heap[SB]? = some (bM 4 h1 h2 o a1 a2 b1 b2 i)))) (by kernel_rfl) hS0 (fun hHeld => ?_)
     clear hS0
     generalize w78.drew = w86 at *
     refine tk 0 rfl hHeld ?_
     refine tk 1 rfl hHeld ?_
     refine tk 2 rfl hHeld ?_
     (try simp only [nz])
     refine tk 3 rfl hHeld ?_
     refine tk 4 rfl hHeld ?_
     (try simp only [nz])
     refine on1 5 rfl fun KK hK => ?_
     obtain ⟨Tc0, Tf0, Tc1, Tf1, Tc2, Tf2, Tc3, Tf3, Tc4, Tf4, Tc5, Tf5, Tc6, Tf6, Tc7, Tf7, Tc8, Tf8⟩ := cf9 HT84.out
     have hs0 : (w86.setCell ⟨TB, 4, none⟩ (.string ⟨a1.toArray⟩)).heap[TB]? = some (.cells #[.int .i64 4, .string ⟨h1.toArray⟩, .string ⟨h2.toArray⟩, .string ⟨#[]⟩, .string ⟨a1.toArray⟩, .string ⟨#[]⟩, .string ⟨#[]⟩, .string ⟨#[]⟩, .string ⟨#[]⟩] 38) := heap_set (HT84.out) 4 (.string ⟨a1.toArray⟩)
     have hs1 : ((w86.setCell ⟨TB, 4, none⟩ (.string ⟨a1.toArray⟩)).setCell ⟨TB, 5, none⟩ (.string ⟨a2.toArray⟩)).heap[TB]? = some (.cells #[.int .i64 4, .string ⟨h1.toArray⟩, .string ⟨h2.toArray⟩, .string ⟨#[]⟩, .string ⟨a1.toArray⟩, .string ⟨a2.toArray⟩, .string ⟨#[]⟩, .string ⟨#[]⟩, .string ⟨#[]⟩] 38) := heap_set (hs0) 5 (.string ⟨a2.toArray⟩)
     have hkE : Keeps (fun q => q = TB) w86 ((w86.setCell ⟨TB, 4, none⟩ (.string ⟨a1.toArray⟩)).setCell ⟨TB, 5, none⟩ (.string ⟨a2.toArray⟩)) := (Keeps.setCell (S := fun q => q = TB) (Keeps.setCell (S := fun q => q = TB) (Keeps.refl _ _) (p := ⟨TB, 4, none⟩) (fun _ => rfl) _) (p := ⟨TB, 5, none⟩) (fun _ => rfl) _)
     have HT92 := Lib.hid hs1
     have HS93 := Lib.hid (((hkE).block _ (lt_of_heap HS83.out) (by have := HN74.out; show ¬ _ = _; omega)).trans HS83.out)
     have HK94 := Lib.hid (HK85.out.trans_new hkE (fun q hq e => by have := HN74.out; omega))
     go_simp
     refine hK.out _ _ (HMK82.out _ HS93.out) fun hHeld => ?_
     clear hK KK
     (try simp only [nz])
     clear hkE hs0 hs1 HT84 HS83 HK85
     clear Tc0 Tf0 Tc1 Tf1 Tc2 Tf2 Tc3 Tf3 Tc4 Tf4 Tc5 Tf5 Tc6 Tf6 Tc7 Tf7 Tc8 Tf8
     generalize ((w86.setCell ⟨TB, 4, none⟩ (.string ⟨a1.toArray⟩)).setCell ⟨TB, 5, none⟩ (.string ⟨a2.toArray⟩)) = w96 at *
     refine tk 6 rfl hHeld ?_
     (try simp only [nz])
     refine on1 7 rfl fun KK hK => ?_
     obtain ⟨Tc0, Tf0, Tc1, Tf1, Tc2, Tf2, Tc3, Tf3, Tc4, Tf4, Tc5, Tf5, Tc6, Tf6, Tc7, Tf7, Tc8, Tf8⟩ := cf9 HT92.out
     have hs0 : (w96.setCell ⟨TB, 6, none⟩ (.string ⟨b1.toArray⟩)).heap[TB]? = some (.cells #[.int .i64 4, .string ⟨h1.toArray⟩, .string ⟨h2.toArray⟩, .string ⟨#[]⟩, .string ⟨a1.toArray⟩, .string ⟨a2.toArray⟩, .string ⟨b1.toArray⟩, .string ⟨#[]⟩, .string ⟨#[]⟩] 38) := heap_set (HT92.out) 6 (.string ⟨b1.toArray⟩)
     have hs1 : ((w96.setCell ⟨TB, 6, none⟩ (.string ⟨b1.toArray⟩)).setCell ⟨TB, 7, none⟩ (.string ⟨b2.toArray⟩)).heap[TB]? = some (.cells #[.int .i64 4, .string ⟨h1.toArray⟩, .string ⟨h2.toArray⟩, .string ⟨#[]⟩, .string ⟨a1.toArray⟩, .string ⟨a2.toArray⟩, .string ⟨b1.toArray⟩, .string ⟨b2.toArray⟩, .string ⟨#[]⟩] 38) := heap_set (hs0) 7 (.string ⟨b2.toArray⟩)
     have hkE : Keeps (fun q => q = TB) w96 ((w96.setCell ⟨TB, 6, none⟩ (.string ⟨b1.toArray⟩)).setCell ⟨TB, 7, none⟩ (.string ⟨b2.toArray⟩)) := (Keeps.setCell (S := fun q => q = TB) (Keeps.setCell (S := fun q => q = TB) (Keeps.refl _ _) (p := ⟨TB, 6, none⟩) (fun _ => rfl) _) (p := ⟨TB, 7, none⟩) (fun _ => rfl) _)
     have HT98 := Lib.hid hs1
     have HS99 := Lib.hid (((hkE).block _ (lt_of_heap HS93.out) (by have := HN74.out; show ¬ _ = _; omega)).trans HS93.out)
     have HK100 := Lib.hid (HK94.out.trans_new hkE (fun q hq e => by have := HN74.out; omega))
     go_simp
     refine hK.out _ _ (HMK82.out _ HS99.out) fun hHeld => ?_
     clear hK KK
     (try simp only [nz])
     clear hkE hs0 hs1 HT92 HS93 HK94
     clear Tc0 Tf0 Tc1 Tf1 Tc2 Tf2 Tc3 Tf3 Tc4 Tf4 Tc5 Tf5 Tc6 Tf6 Tc7 Tf7 Tc8 Tf8
     generalize ((w96.setCell ⟨TB, 6, none⟩ (.string ⟨b1.toArray⟩)).setCell ⟨TB, 7, none⟩ (.string ⟨b2.toArray⟩)) = w102 at *
     refine wpAnyH_done (by kernel_rfl) ?_ _
     refine NoPanic.normal ?_
     clear hHeld HMK82
     go_upto_region 16 with fail
     cases bH
     case false =>
      go_wp2_with fail
      go_ret
      exact ⟨rfl, HK100⟩
     case true =>
      obtain ⟨Sc0, Sf0, Sc1, Sf1, Sc2, Sf2, Sc3, Sf3, Sc4, Sf4, Sc5, Sf5, Sc6, Sf6, Sc7, Sf7, Sc8, Sf8⟩ := cf9 HS99.out
      go_wp2_with fail
      refine (HA.out _).mono ?_
      rintro e w103 ⟨rfl, hk⟩
      have HS104 := Lib.hid (((hk.out).block _ (lt_of_heap HS99.out) (fun x => x)).trans HS99.out)
      have HT105 := Lib.hid (((hk.out).block _ (lt_of_heap HT98.out) (fun x => x)).trans HT98.out)
      have HK106 := Lib.hid (HK100.out.trans hk.out)
      clear Sc0 Sf0 Sc1 Sf1 Sc2 Sf2 Sc3 Sf3 Sc4 Sf4 Sc5 Sf5 Sc6 Sf6 Sc7 Sf7 Sc8 Sf8
      clear hk HS99 HT98 HK100
      clear HA
      cases bA
      case false =>
       go_wp2_with fail
       go_ret
       exact ⟨rfl, HK106⟩
      case true =>
       obtain ⟨Sc0, Sf0, Sc1, Sf1, Sc2, Sf2, Sc3, Sf3, Sc4, Sf4, Sc5, Sf5, Sc6, Sf6, Sc7, Sf7, Sc8, Sf8⟩ := cf9 HS104.out
       go_wp2_with fail
       refine (HB.out _).mono ?_
       rintro e w107 ⟨rfl, hk⟩
       have HS108 := Lib.hid (((hk.out).block _ (lt_of_heap HS104.out) (fun x => x)).trans HS104.out)
       have HT109 := Lib.hid (((hk.out).block _ (lt_of_heap HT105.out) (fun x => x)).trans HT105.out)
       have HK110 := Lib.hid (HK106.out.trans hk.out)
       clear Sc0 Sf0 Sc1 Sf1 Sc2 Sf2 Sc3 Sf3 Sc4 Sf4 Sc5 Sf5 Sc6 Sf6 Sc7 Sf7 Sc8 Sf8
       clear hk HS104 HT105 HK106
       clear HB
       cases bB
       case false =>
        go_wp2_with fail
        go_ret
        exact ⟨rfl, HK110⟩
       case true =>
        obtain ⟨Sc0, Sf0, Sc1, Sf1, Sc2, Sf2, Sc3, Sf3, Sc4, Sf4, Sc5, Sf5, Sc6, Sf6, Sc7, Sf7, Sc8, Sf8⟩ := cf9 HS108.out
        go_wp2_with fail
        refine (HLS.out _).mono ?_
        rintro e w111 ⟨rfl, hk⟩
        have HS112 := Lib.hid (((hk.out).block _ (lt_of_heap HS108.out) (fun x => x)).trans HS108.out)
        have HT113 := Lib.hid (((hk.out).block _ (lt_of_heap HT109.out) (fun x => x)).trans HT109.out)
        have HK114 := Lib.hid (HK110.out.trans hk.out)
        clear Sc0 Sf0 Sc1 Sf1 Sc2 Sf2 Sc3 Sf3 Sc4 Sf4 Sc5 Sf5 Sc6 Sf6 Sc7 Sf7 Sc8 Sf8
        clear hk HS108 HT109 HK110
        clear HLS
        cases bL
        case false =>
         obtain ⟨Sc0, Sf0, Sc1, Sf1, Sc2, Sf2, Sc3, Sf3, Sc4, Sf4, Sc5, Sf5, Sc6, Sf6, Sc7, Sf7, Sc8, Sf8⟩ := cf9 HS112.out
         obtain ⟨Tc0, Tf0, Tc1, Tf1, Tc2, Tf2, Tc3, Tf3, Tc4, Tf4, Tc5, Tf5, Tc6, Tf6, Tc7, Tf7, Tc8, Tf8⟩ := cf9 HT113.out
         go_wp2_with fail
         go_ret
         exact ⟨rfl, HK114⟩
        case true =>
         go_wp2_with fail
         go_ret
         exact ⟨rfl, HK114⟩
    case neg =>
     have bk1 : (k == 1) = false := beq_eq_false_iff_ne.2 k1
     have bk2 : (k == 2) = false := beq_eq_false_iff_ne.2 k2
     have bk3 : (k == 3) = false := beq_eq_false_iff_ne.2 k3
     have bk4 : (k == 4) = false := beq_eq_false_iff_ne.2 k4
     rw [if_neg k1, if_neg k2, if_neg k3, if_neg k4, Bool.and_false]
     obtain ⟨SB, hSB⟩ : ∃ q, W.heap.size = q := ⟨_, rfl⟩
     have hal0 := (MapKept.heap_alloc W (bM k h1 h2 o a1 a2 b1 b2 i)).1
     obtain ⟨W1, hW1⟩ : ∃ q, W.alloc (bM k h1 h2 o a1 a2 b1 b2 i) = q := ⟨_, rfl⟩
     have k1 : KF W W1 := by rw [← hW1]; exact (Keeps.refl _ _).alloc _
     rw [hW1, hSB] at hal0
     have HS0 := Lib.hid hal0
     have HK0 := Lib.hid k1
     have HN : Hid (W.heap.size ≤ SB) := by show _ ≤ _; omega
     clear k1 hal0
     go_enter Tryz.func158, Tryz.ntmps158
     go_upto_region 1 with fail
     clear hW1 hSB
     obtain ⟨Sc0, Sf0, Sc1, Sf1, Sc2, Sf2, Sc3, Sf3, Sc4, Sf4, Sc5, Sf5, Sc6, Sf6, Sc7, Sf7, Sc8, Sf8⟩ := cf9 HS0.out
     have hal := (MapKept.heap_alloc W1 (.cells #[.int .i64 k, .string ⟨h1.toArray⟩, .string ⟨h2.toArray⟩, .string ⟨#[]⟩, .string ⟨#[]⟩, .string ⟨#[]⟩, .string ⟨#[]⟩, .string ⟨#[]⟩, .string ⟨#[]⟩] 38)).1
     have hkE : KF W1 (W1.alloc (.cells #[.int .i64 k, .string ⟨h1.toArray⟩, .string ⟨h2.toArray⟩, .string ⟨#[]⟩, .string ⟨#[]⟩, .string ⟨#[]⟩, .string ⟨#[]⟩, .string ⟨#[]⟩, .string ⟨#[]⟩] 38)) := (Keeps.refl _ _).alloc _
     obtain ⟨TB, hTB⟩ : ∃ q, W1.heap.size = q := ⟨_, rfl⟩
     rw [hTB] at hal
     have HS117 := Lib.hid (((hkE).block _ (lt_of_heap HS0.out) (fun x => x)).trans HS0.out)
     have HN116 : Hid ((W.heap.size ≤ SB) ∧ W.heap.size ≤ TB ∧ SB < TB) := ⟨HN.out, by
      have hz := HK0.out.size
      have l0 := lt_of_heap HS0.out
      refine ⟨?_, ?_⟩ <;> omega⟩
     have HK118 := Lib.hid (HK0.out.trans hkE)
     have HT119 := Lib.hid hal
     clear hkE hal HS0 HN HK0
     go_upto_region 2 with fail
     clear Sc0 Sf0 Sc1 Sf1 Sc2 Sf2 Sc3 Sf3 Sc4 Sf4 Sc5 Sf5 Sc6 Sf6 Sc7 Sf7 Sc8 Sf8
     clear hTB
     generalize (W1.alloc (.cells #[.int .i64 k, .string ⟨h1.toArray⟩, .string ⟨h2.toArray⟩, .string ⟨#[]⟩, .string ⟨#[]⟩, .string ⟨#[]⟩, .string ⟨#[]⟩, .string ⟨#[]⟩, .string ⟨#[]⟩] 38)) = w115 at *
     obtain ⟨Sc0, Sf0, Sc1, Sf1, Sc2, Sf2, Sc3, Sf3, Sc4, Sf4, Sc5, Sf5, Sc6, Sf6, Sc7, Sf7, Sc8, Sf8⟩ := cf9 HS117.out
     obtain ⟨Tc0, Tf0, Tc1, Tf1, Tc2, Tf2, Tc3, Tf3, Tc4, Tf4, Tc5, Tf5, Tc6, Tf6, Tc7, Tf7, Tc8, Tf8⟩ := cf9 HT119.out
     go_wp2_with fail
     refine (HH.out _).mono ?_
     rintro e w120 ⟨rfl, hk⟩
     have HS121 := Lib.hid (((hk.out).block _ (lt_of_heap HS117.out) (fun x => x)).trans HS117.out)
     have HT122 := Lib.hid (((hk.out).block _ (lt_of_heap HT119.out) (fun x => x)).trans HT119.out)
     have HK123 := Lib.hid (HK118.out.trans hk.out)
     clear Sc0 Sf0 Sc1 Sf1 Sc2 Sf2 Sc3 Sf3 Sc4 Sf4 Sc5 Sf5 Sc6 Sf6 Sc7 Sf7 Sc8 Sf8 Tc0 Tf0 Tc1 Tf1 Tc2 Tf2 Tc3 Tf3 Tc4 Tf4 Tc5 Tf5 Tc6 Tf6 Tc7 Tf7 Tc8 Tf8
     clear hk HS117 HT119 HK118
     clear HH
     obtain ⟨Sc0, Sf0, Sc1, Sf1, Sc2, Sf2, Sc3, Sf3, Sc4, Sf4, Sc5, Sf5, Sc6, Sf6, Sc7, Sf7, Sc8, Sf8⟩ := cf9 HS121.out
     go_wp2_with fail
     go_ret
     exact ⟨rfl, HK123⟩
end Go.Proofs.YtckikkkdabpjkaaGreat
