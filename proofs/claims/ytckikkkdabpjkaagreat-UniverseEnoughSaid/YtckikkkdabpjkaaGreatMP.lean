/-
 The document's Right, of any query; the program's.
-/
import Derived.Test.YtckikkkdabpjkaaGreatStmAll
import Derived.Test.YtckikkkdabpjkaaGreatStmAllP
import Derived.Test.YtckikkkdabpjkaaGreatKitSq
set_option linter.unusedVariables false
set_option linter.unusedSimpArgs false
set_option linter.unnecessarySimpa false
namespace Go.Proofs.YtckikkkdabpjkaaGreat
open Go.ChangeShapes Go.WideShapes Go.ChangeAt Go.RowKit Go.Deep
theorem getD_of {l : List Str} {i : Nat} {y : Str} (h : l[i]? = some y) : l.getD i [] = y := by rw [List.getD_eq_getElem?_getD, h]; rfl
theorem okAt_zero {l : List Str} {y : Str} (h : l[0]? = some y) : okAt l 0 = prinB y := by
 unfold okAt
 rw [getD_of h, decide_eq_true rfl, Bool.true_or, Bool.and_true]
theorem okAt_next {l : List Str} {m : Nat} {x y : Str} (hx : l[m]? = some x) (hy : l[m + 1]? = some y) : okAt l (m + 1) = (prinB y && decide (x < y)) := by
 unfold okAt
 rw [getD_of hy, show m + 1 - 1 = m from rfl, getD_of hx, decide_eq_false (by omega : ¬ m + 1 = 0), Bool.false_or]
theorem whoB_no {l : List Str} {i : Nat} (hi : i < l.length) (h : okAt l i = false) : whoB l = false := by
 rw [Bool.eq_false_iff]
 intro q
 unfold whoB at q
 have := List.all_eq_true.1 q i (List.mem_range.2 hi)
 rw [h] at this
 cases this
theorem whoB_yes {l : List Str} (h : ∀ i, i < l.length → okAt l i = true) : whoB l = true := by
 unfold whoB
 exact List.all_eq_true.2 fun i hi => h i (List.mem_range.1 hi)
theorem rol_neq_true {b1 b2 : Str} (h : (b1, b2) ≠ noRol) (w : World) : (binOp .neq 28 (.agg #[.string ⟨b1.toArray⟩, .string ⟨b2.toArray⟩]) (.agg #[.string ⟨#[]⟩, .string ⟨#[]⟩])).run Tryz.prog w = .ok (.bool true) w := by
 have q := rol_neq (b1, b2) noRol w
 rw [decide_eq_false h] at q
 exact q
set_option maxRecDepth 100000
set_option maxHeartbeats 3200000
end Go.Proofs.YtckikkkdabpjkaaGreat
/-
 The program's Right, of any query.
-/
set_option linter.unusedVariables false
set_option linter.unusedSimpArgs false
set_option linter.unnecessarySimpa false
namespace Go.Proofs.YtckikkkdabpjkaaGreat
open Go.ChangeShapes Go.WideShapes Go.ChangeAt Go.RowKit Go.Deep
set_option maxRecDepth 100000
set_option maxHeartbeats 3200000
theorem bytesLess_no {x y : Str} : Op.bytesLess x y = decide (x < y) := Go.Proofs.bytesLess_eq x y
theorem rising_spec {W : World} {v : Value} {wl : List Str} (hv : ReadsS W v wl) (hl : wl.length ≤ 1000000) : Calls Tryz.prog 155 #[v] W fun e W' => e = .returned (.bool (whoB wl)) ∧ W = W' := by
 obtain ⟨ao, cap, rfl, hle, hrd⟩ := hv
 obtain ⟨n, hn⟩ : ∃ n, wl.length = n := ⟨_, rfl⟩
 rw [hn] at hle hrd hl ⊢
 have HR := Lib.hid hrd
 have HN := Lib.hid hn
 have HK1 : Hid (KF W W) := Keeps.refl _ _
 obtain ⟨R, hR⟩ : ∃ R, whoB wl = R := ⟨_, rfl⟩
 have HD1 : Hid (R = whoB wl) := hR.symm
 rw [hR]
 clear hR hrd hn
 go_enter Tryz.func155, Tryz.ntmps155
 go_wp2_with fail
 go_loopg [7] n (fun g t wx => ∃ i : Nat, i ≤ n ∧ g = n - i ∧ t = .int .i64 i ∧ (∀ j, j < i → okAt wl j = true) ∧ wx = W)
 case atStart => exact ⟨0, Nat.zero_le _, rfl, rfl, fun j hj => absurd hj (Nat.not_lt_zero _), rfl⟩
 case round =>
  obtain ⟨i, hi, rfl, rfl, hoks, rfl⟩ := hrel
  have HOKS := Lib.hid hoks
  clear hoks
  by_cases hlt : i < n
  ·have hiI : (i : Int) < (n : Int) := by omega
   have hwi : IntKind.i64.wrap ((i : Int) + 1) = (i : Int) + 1 := IntWalk.i64_in _ (by omega)
   have hicap : i < cap := by omega
   obtain ⟨y, hy⟩ : ∃ y, wl[i]? = some y := ⟨_, List.getElem?_eq_getElem (by rw [HN.out]; exact hlt)⟩
   obtain ⟨g, off, rfl, hg, hcc⟩ := HR.out (by omega)
   have hc : wr.cell? ⟨g, off + i, none⟩ = some (.string ⟨y.toArray⟩) := (HK1.out.cell (p := ⟨g, off + i, none⟩) hg (fun x => x)).trans (hcc i y hy)
   obtain ⟨p, hp⟩ : ∃ p, prinB y = p := ⟨_, rfl⟩
   have HP : Hid (∀ w, Calls Tryz.prog 182 #[.string ⟨y.toArray⟩] w fun e w' => e = .returned (.bool p) ∧ w = w') := fun w => (names_prin _ w).mono fun _ _ h => ⟨by rw [h.1, ← hp]; rfl, h.2⟩
   rcases Nat.eq_zero_or_pos i with h0 | h0
   ·subst h0
    have hok := okAt_zero hy
    rw [hp] at hok
    have HOK := Lib.hid hok
    have h0I : ¬ (0 : Int) < ((0 : Nat) : Int) := by omega
    have hc' : wr.cell? ⟨g, off, none⟩ = some (.string ⟨y.toArray⟩) := hc
    clear hcc hy hc hok hp
    cases p
    ·go_wp2_with fail
     refine (HP.out _).mono ?_
     rintro e w2 ⟨rfl, rfl⟩
     go_wp2_with fail
     go_ret
     exact ⟨by rw [show R = false from by rw [HD1.out, whoB_no (i := 0) (by rw [HN.out]; omega) HOK.out]]; rfl, rfl⟩
    ·go_wp2_with fail
     refine (HP.out _).mono ?_
     rintro e w2 ⟨rfl, rfl⟩
     go_wp2_with fail
     go_roundg (n - (0 + 1))
     case measure => omega
     case rel => exact ⟨0 + 1, by omega, rfl, by go_num, fun j hj => by obtain rfl : j = 0 := (by omega); exact HOK.out, rfl⟩
   ·obtain ⟨m, rfl⟩ : ∃ m, i = m + 1 := ⟨i - 1, by omega⟩
    have h0I : (0 : Int) < ((m + 1 : Nat) : Int) := by omega
    obtain ⟨x, hx⟩ : ∃ x, wl[m]? = some x := ⟨_, List.getElem?_eq_getElem (by rw [HN.out]; omega)⟩
    have hok := okAt_next hx hy
    rw [hp] at hok
    have hcx : wr.cell? ⟨g, off + m, none⟩ = some (.string ⟨x.toArray⟩) := (HK1.out.cell (p := ⟨g, off + m, none⟩) hg (fun x => x)).trans (hcc m x hx)
    have hwm : IntKind.i64.wrap (((m + 1 : Nat) : Int) - 1) = (m : Int) := by rw [IntWalk.i64_in _ (by omega)]; omega
    have hmI : (m : Int) < (n : Int) := by omega
    have hmcap : m < cap := by omega
    obtain ⟨u, hu⟩ : ∃ u, Op.bytesLess x y = u := ⟨_, rfl⟩
    have hdu : decide (x < y) = u := by rw [← hu, Go.Proofs.bytesLess_eq]
    rw [hdu] at hok
    have HOK := Lib.hid hok
    clear hcc hy hx hok hp hdu
    cases p
    ·go_wp2_with fail
     refine (HP.out _).mono ?_
     rintro e w2 ⟨rfl, rfl⟩
     go_wp2_with fail
     go_ret
     exact ⟨by rw [show R = false from by rw [HD1.out, whoB_no (i := (m + 1)) (by rw [HN.out]; omega) HOK.out]]; rfl, rfl⟩
    ·cases u
     ·have hxy : ¬ x < y := of_decide_eq_false (by rw [← bytesLess_no]; exact hu)
      rcases str_total x y with q | q | q
      ·exact absurd q hxy
      ·subst q
       have hv1 : Op.bytesLess x x = false := hu
       clear hu hxy
       go_wp2_with fail
       refine (HP.out _).mono ?_
       rintro e w2 ⟨rfl, rfl⟩
       go_wp2_with fail
       go_ret
       exact ⟨by rw [show R = false from by rw [HD1.out, whoB_no (i := (m + 1)) (by rw [HN.out]; omega) HOK.out]]; rfl, rfl⟩
      ·have hv1 : Op.bytesLess y x = true := by rw [bytesLess_no]; exact decide_eq_true q
       clear hu hxy q
       go_wp2_with fail
       refine (HP.out _).mono ?_
       rintro e w2 ⟨rfl, rfl⟩
       go_wp2_with fail
       go_ret
       exact ⟨by rw [show R = false from by rw [HD1.out, whoB_no (i := (m + 1)) (by rw [HN.out]; omega) HOK.out]]; rfl, rfl⟩
     ·have hv1 : Op.bytesLess y x = false := by rw [bytesLess_no]; exact decide_eq_false (fun q => str_irrefl _ (str_trans q (of_decide_eq_true (by rw [← bytesLess_no]; exact hu))))
      have hv2 : (y == x) = false := beq_eq_false_iff_ne.2 (fun q => str_irrefl x (by have := of_decide_eq_true (show decide (x < y) = true by rw [← bytesLess_no]; exact hu); rw [q] at this; exact this))
      clear hu
      go_wp2_with fail
      refine (HP.out _).mono ?_
      rintro e w2 ⟨rfl, rfl⟩
      go_wp2_with fail
      go_roundg (n - (m + 1 + 1))
      case measure => omega
      case rel => exact ⟨m + 1 + 1, by omega, rfl, by go_num, fun j hj => (by
       rcases Nat.lt_or_ge j (m + 1) with q | q
       ·exact HOKS.out j q
       ·obtain rfl : j = m + 1 := (by omega)
        exact HOK.out), rfl⟩
  ·obtain rfl : i = n := by omega
   have hiI : ¬ (i : Int) < (i : Int) := by omega
   have hwho : Hid (R = true) := show R = true by rw [HD1.out, whoB_yes (fun j hj => HOKS.out j (by have := HN.out; omega))]
   go_wp2_with fail
   go_ret
   exact ⟨by rw [hwho.out]; rfl, rfl⟩
theorem sqryright_all {W : World} {v : Value} {q : Qry} (hv : ReadsS W v q.2.2.2) (hl : q.2.2.2.length ≤ 1000000) : Calls Tryz.prog 110 #[qryV q v] W fun e W' => e = .returned (.bool (qryRB q)) ∧ Hid (KF W W') := by
 obtain ⟨k, ⟨a1, a2⟩, ⟨b1, b2⟩, wl⟩ := q
 simp only at hv hl
 obtain ⟨ao, cap, rfl, hle, hrd⟩ := hv
 obtain ⟨n, hn⟩ : ∃ n, wl.length = n := ⟨_, rfl⟩
 rw [hn] at hle hrd hl ⊢
 obtain ⟨bA, eA⟩ : ∃ q, roleB (a1, a2) = q := ⟨_, rfl⟩
 obtain ⟨bB, eB⟩ : ∃ q, roleB (b1, b2) = q := ⟨_, rfl⟩
 obtain ⟨R, hR⟩ : ∃ R, qryRB (k, (a1, a2), (b1, b2), wl) = R := ⟨_, rfl⟩
 have HD : Hid (R = (decide (1 ≤ k ∧ k ≤ 6) && bA && whoB wl && (if 5 ≤ k then bB && decide (n = 0) else decide ((b1, b2) = noRol) && decide (n ≤ 12) && (if k = 4 then decide (n = 0) else decide (k = 3) || decide (0 < n))))) := by
  show R = _
  rw [← hR]
  unfold qryRB
  simp only
  rw [eA, eB, hn]
 rw [hR]
 have HR := Lib.hid hrd
 have HN := Lib.hid hn
 have HA : Hid (∀ w, Calls Tryz.prog 154 #[.agg #[.string ⟨a1.toArray⟩, .string ⟨a2.toArray⟩]] w fun e w' => e = .returned (.bool bA) ∧ Hid (KF w w')) := fun w => (sisrole_all (a1, a2)).mono fun _ _ h => ⟨by rw [h.1, eA], h.2⟩
 have HB : Hid (∀ w, Calls Tryz.prog 154 #[.agg #[.string ⟨b1.toArray⟩, .string ⟨b2.toArray⟩]] w fun e w' => e = .returned (.bool bB) ∧ Hid (KF w w')) := fun w => (sisrole_all (b1, b2)).mono fun _ _ h => ⟨by rw [h.1, eB], h.2⟩
 obtain ⟨bR, eR⟩ : ∃ q, whoB wl = q := ⟨_, rfl⟩
 rw [eR] at HD
 have HRS : Hid (∀ w, KF W w → Calls Tryz.prog 155 #[.slice ao n cap] w fun e w' => e = .returned (.bool bR) ∧ Hid (KF w w')) := fun w hk => (rising_spec (wl := wl) (W := w) (v := .slice ao n cap) ⟨ao, cap, by rw [hn], by rw [hn]; exact hle, fun h0 => by
  obtain ⟨g, off, q1, q2, q3⟩ := hrd (by rw [hn] at h0; exact h0)
  exact ⟨g, off, q1, Nat.lt_of_lt_of_le q2 hk.size, fun j x hj => (hk.cell (p := ⟨g, off + j, none⟩) q2 (fun x => x)).trans (q3 j x hj)⟩⟩ (by rw [hn]; exact hl)).mono fun e w' h => ⟨by rw [h.1, eR], by rw [h.2]; exact Keeps.refl _ _⟩
 have HBE : Hid (bB = roleB (b1, b2)) := eB.symm
 clear hR eA eB eR hrd hn
 unfold qryV
 simp only
 obtain ⟨SB, hSB⟩ : ∃ q, W.heap.size = q := ⟨_, rfl⟩
 have hal0 := (MapKept.heap_alloc W (bQ k a1 a2 b1 b2 ao n cap)).1
 obtain ⟨W1, hW1⟩ : ∃ q, W.alloc (bQ k a1 a2 b1 b2 ao n cap) = q := ⟨_, rfl⟩
 have k1 : KF W W1 := by rw [← hW1]; exact (Keeps.refl _ _).alloc _
 rw [hW1, hSB] at hal0
 have HS0 := Lib.hid hal0
 have HK0 := Lib.hid k1
 have HNN : Hid (W.heap.size ≤ SB) := by show _ ≤ _; omega
 clear k1 hal0
 by_cases hk1 : k < 1
 case pos =>
  go_enter Tryz.func110, Tryz.ntmps110
  go_upto_region 1 with fail
  clear hW1 hSB
  obtain ⟨Qc0, Qf0, Qc1, Qf1, Qc2, Qf2, Qc3, Qf3, Qc4, Qf4, Qc5, Qf5⟩ := cf6 HS0.out
  have e : Hid (R = false) := show R = false by rw [HD.out]; rw [decide_eq_false (show ¬ (1 ≤ k ∧ k ≤ 6) by omega)]; rfl
  go_wp2_with fail
  go_ret
  exact ⟨by rw [e.out]; rfl, HK0⟩
 by_cases hk6 : 6 < k
 case pos =>
  go_enter Tryz.func110, Tryz.ntmps110
  go_upto_region 1 with fail
  clear hW1 hSB
  obtain ⟨Qc0, Qf0, Qc1, Qf1, Qc2, Qf2, Qc3, Qf3, Qc4, Qf4, Qc5, Qf5⟩ := cf6 HS0.out
  have e : Hid (R = false) := show R = false by rw [HD.out]; rw [decide_eq_false (show ¬ (1 ≤ k ∧ k ≤ 6) by omega)]; rfl
  go_wp2_with fail
  go_ret
  exact ⟨by rw [e.out]; rfl, HK0⟩
 go_enter Tryz.func110, Tryz.ntmps110
 go_upto_region 1 with fail
 clear hW1 hSB
 obtain ⟨Qc0, Qf0, Qc1, Qf1, Qc2, Qf2, Qc3, Qf3, Qc4, Qf4, Qc5, Qf5⟩ := cf6 HS0.out
 go_wp2_with fail
 refine (HA.out _).mono ?_
 rintro e w1 ⟨rfl, hk⟩
 have HQ2 := Lib.hid (((hk.out).block _ (lt_of_heap HS0.out) (fun x => x)).trans HS0.out)
 have HK3 := Lib.hid (HK0.out.trans hk.out)
 clear Qc0 Qf0 Qc1 Qf1 Qc2 Qf2 Qc3 Qf3 Qc4 Qf4 Qc5 Qf5
 clear hk HS0 HK0
 clear HA
 cases bA
 case false =>
  obtain ⟨Qc0, Qf0, Qc1, Qf1, Qc2, Qf2, Qc3, Qf3, Qc4, Qf4, Qc5, Qf5⟩ := cf6 HQ2.out
  have e : Hid (R = false) := show R = false by rw [HD.out]; simp
  go_wp2_with fail
  go_ret
  exact ⟨by rw [e.out]; rfl, HK3⟩
 obtain ⟨Qc0, Qf0, Qc1, Qf1, Qc2, Qf2, Qc3, Qf3, Qc4, Qf4, Qc5, Qf5⟩ := cf6 HQ2.out
 go_wp2_with fail
 refine (HRS.out _ HK3.out).mono ?_
 rintro e w4 ⟨rfl, hk⟩
 have HQ5 := Lib.hid (((hk.out).block _ (lt_of_heap HQ2.out) (fun x => x)).trans HQ2.out)
 have HK6 := Lib.hid (HK3.out.trans hk.out)
 clear Qc0 Qf0 Qc1 Qf1 Qc2 Qf2 Qc3 Qf3 Qc4 Qf4 Qc5 Qf5
 clear hk HQ2 HK3
 clear HRS
 cases bR
 case false =>
  obtain ⟨Qc0, Qf0, Qc1, Qf1, Qc2, Qf2, Qc3, Qf3, Qc4, Qf4, Qc5, Qf5⟩ := cf6 HQ5.out
  have e : Hid (R = false) := show R = false by rw [HD.out]; simp
  go_wp2_with fail
  go_ret
  exact ⟨by rw [e.out]; rfl, HK6⟩
 have HD1 : Hid (R = (if 5 ≤ k then bB && decide (n = 0) else decide ((b1, b2) = noRol) && decide (n ≤ 12) && (if k = 4 then decide (n = 0) else decide (k = 3) || decide (0 < n)))) := by
  show R = _
  rw [HD.out, decide_eq_true (show 1 ≤ k ∧ k ≤ 6 by omega), Bool.true_and, Bool.true_and, Bool.true_and]
 clear HD
 have hkk : k = 1 ∨ k = 2 ∨ k = 3 ∨ k = 4 ∨ k = 5 ∨ k = 6 := by omega
 clear hk1 hk6
 rcases hkk with rfl | rfl | rfl | rfl | rfl | rfl
 ·skip
  have HSE : Hid (∀ w, Calls Tryz.prog 156 #[.int .i64 1] w fun e w' => e = .returned (.bool false) ∧ Hid (KF w w')) := fun w => by
   go_enter Tryz.func156, Tryz.ntmps156
   go_wp2_with fail
   go_ret
   exact ⟨rfl, Keeps.refl _ _⟩
  have HLE : Hid (∀ w, Calls Tryz.prog 157 #[.int .i64 1] w fun e w' => e = .returned (.int .i64 (1)) ∧ Hid (KF w w')) := fun w => by
   go_enter Tryz.func157, Tryz.ntmps157
   go_wp2_with fail
   go_ret
   exact ⟨rfl, Keeps.refl _ _⟩
  by_cases hb : (b1, b2) = noRol
  case pos =>
   have HQ : ∀ w, (binOp .neq 28 (.agg #[.string ⟨#[]⟩, .string ⟨#[]⟩]) (.agg #[.string ⟨#[]⟩, .string ⟨#[]⟩])).run Tryz.prog w = .ok (.bool false) w := fun w => by
    have q := rol_neq noRol noRol w
    rw [decide_eq_true rfl] at q
    exact q
   unfold noRol at hb
   simp only [Prod.mk.injEq] at hb
   obtain ⟨rfl, rfl⟩ := hb
   have HR2 : Hid (R = (decide (n ≤ 12) && (if (1 : Int) = 4 then decide (n = 0) else decide ((1 : Int) = 3) || decide (0 < n)))) := show R = _ by rw [HD1.out]; rfl
   clear HD1
   obtain ⟨Qc0, Qf0, Qc1, Qf1, Qc2, Qf2, Qc3, Qf3, Qc4, Qf4, Qc5, Qf5⟩ := cf6 HQ5.out
   go_upto_region 3 with fail
   clear Qc0 Qf0 Qc1 Qf1 Qc2 Qf2 Qc3 Qf3 Qc4 Qf4 Qc5 Qf5
   have HMK7 : Hid (∀ w' : World, w'.heap[SB]? = some (.cells #[.int .i64 1, .string ⟨a1.toArray⟩, .string ⟨a2.toArray⟩, .string ⟨#[]⟩, .string ⟨#[]⟩, .slice ao n cap] 31) → w'.cell? ⟨SB, 0, none⟩ = some (.int .i64 1) ∧ w'.cell? ⟨SB, 1, none⟩ = some (.string ⟨a1.toArray⟩) ∧ w'.cell? ⟨SB, 2, none⟩ = some (.string ⟨a2.toArray⟩) ∧ w'.cell? ⟨SB, 3, none⟩ = some (.string ⟨#[]⟩) ∧ w'.cell? ⟨SB, 4, none⟩ = some (.string ⟨#[]⟩) ∧ w'.cell? ⟨SB, 5, none⟩ = some (.slice ao n cap) ∧ Hid (w'.heap[SB]? = some (.cells #[.int .i64 1, .string ⟨a1.toArray⟩, .string ⟨a2.toArray⟩, .string ⟨#[]⟩, .string ⟨#[]⟩, .slice ao n cap] 31))) := fun w' h0 => ⟨(by rw [cell_of_heap h0]; rfl), (by rw [cell_of_heap h0]; rfl), (by rw [cell_of_heap h0]; rfl), (by rw [cell_of_heap h0]; rfl), (by rw [cell_of_heap h0]; rfl), (by rw [cell_of_heap h0]; rfl), Lib.hid h0⟩
   have hkd : KF w4 w4.drew := (Keeps.refl _ _).drew
   have HQ8 := Lib.hid (((hkd).block _ (lt_of_heap HQ5.out) (fun x => x)).trans HQ5.out)
   have HK9 := Lib.hid (HK6.out.drew)
   have hS0 := HMK7.out w4.drew HQ8.out
   clear hkd HQ5 HK6
   refine wp_region_noPanic ?_
   refine wp_region_held_drew (S := (fun w' => w'.cell? ⟨SB, 0, none⟩ = some (.int .i64 1) ∧ w'.cell? ⟨SB, 1, none⟩ = some (.string ⟨a1.toArray⟩) ∧ w'.cell? ⟨SB, 2, none⟩ = some (.string ⟨a2.toArray⟩) ∧ w'.cell? ⟨SB, 3, none⟩ = some (.string ⟨#[]⟩) ∧ w'.cell? ⟨SB, 4, none⟩ = some (.string ⟨#[]⟩) ∧ w'.cell? ⟨SB, 5, none⟩ = some (.slice ao n cap) ∧ Hid (w'.heap[SB]? = some (.cells #[.int .i64 1, .string ⟨a1.toArray⟩, .string ⟨a2.toArray⟩, .string ⟨#[]⟩, .string ⟨#[]⟩, .slice ao n cap] 31)))) (by kernel_rfl) hS0 (fun hHeld => ?_)
   clear hS0
   generalize w4.drew = w10 at *
   refine tk 0 rfl hHeld ?_
   refine tk 1 rfl hHeld ?_
   refine tk 3 rfl hHeld ?_
   (try simp only [nz])
   refine tk 4 rfl hHeld ?_
   refine tk 5 rfl hHeld ?_
   refine tk 6 rfl hHeld ?_
   (try simp only [nz])
   refine on1 2 rfl fun KK hK => ?_
   go_simp
   refine (HSE.out _).mono ?_
   rintro e w17 ⟨rfl, hk⟩
   have HQ18 := Lib.hid (((hk.out).block _ (lt_of_heap HQ8.out) (fun x => x)).trans HQ8.out)
   have HK19 := Lib.hid (HK9.out.trans hk.out)
   clear hk  HQ8 HK9
   go_simp
   refine hK.out _ _ (HMK7.out _ HQ18.out) fun hHeld => ?_
   clear hK KK
   (try simp only [nz])
   refine on1 7 rfl fun KK hK => ?_
   go_simp
   refine hK.out _ _ (HMK7.out _ HQ18.out) fun hHeld => ?_
   clear hK KK
   (try simp only [nz])
   refine on1 8 rfl fun KK hK => ?_
   go_simp
   refine hK.out _ _ (HMK7.out _ HQ18.out) fun hHeld => ?_
   clear hK KK
   refine tk 9 rfl hHeld ?_
   refine tk 10 rfl hHeld ?_
   (try simp only [nz])
   refine on1 11 rfl fun KK hK => ?_
   go_simp
   refine (HSE.out _).mono ?_
   rintro e w25 ⟨rfl, hk⟩
   have HQ26 := Lib.hid (((hk.out).block _ (lt_of_heap HQ18.out) (fun x => x)).trans HQ18.out)
   have HK27 := Lib.hid (HK19.out.trans hk.out)
   clear hk  HQ18 HK19
   go_simp
   refine hK.out _ _ (HMK7.out _ HQ26.out) fun hHeld => ?_
   clear hK KK
   (try simp only [nz])
   refine on1 12 rfl fun KK hK => ?_
   go_simp
   refine hK.out _ _ (HMK7.out _ HQ26.out) fun hHeld => ?_
   clear hK KK
   (try simp only [nz])
   refine on1 13 rfl fun KK hK => ?_
   go_simp
   refine hK.out _ _ (HMK7.out _ HQ26.out) fun hHeld => ?_
   clear hK KK
   (try simp only [nz])
   refine on1 14 rfl fun KK hK => ?_
   go_simp
   refine hK.out _ _ (HMK7.out _ HQ26.out) fun hHeld => ?_
   clear hK KK
   (try simp only [nz])
   refine on1 15 rfl fun KK hK => ?_
   go_simp
   refine hK.out _ _ (HMK7.out _ HQ26.out) fun hHeld => ?_
   clear hK KK
   (try simp only [nz])
   refine on1 16 rfl fun KK hK => ?_
   go_simp
   refine hK.out _ _ (HMK7.out _ HQ26.out) fun hHeld => ?_
   clear hK KK
   (try simp only [nz])
   refine on1 17 rfl fun KK hK => ?_
   go_simp
   refine hK.out _ _ (HMK7.out _ HQ26.out) fun hHeld => ?_
   clear hK KK
   (try simp only [nz])
   refine on1 18 rfl fun KK hK => ?_
   go_simp
   refine hK.out _ _ (HMK7.out _ HQ26.out) fun hHeld => ?_
   clear hK KK
   (try simp only [nz])
   refine wpAnyH_done (by kernel_rfl) ?_ _
   refine NoPanic.normal ?_
   clear hHeld HMK7
   clear HSE HB HQ
   obtain ⟨Qc0, Qf0, Qc1, Qf1, Qc2, Qf2, Qc3, Qf3, Qc4, Qf4, Qc5, Qf5⟩ := cf6 HQ26.out
   go_upto_region 5 with fail
   clear Qc0 Qf0 Qc1 Qf1 Qc2 Qf2 Qc3 Qf3 Qc4 Qf4 Qc5 Qf5
   obtain ⟨Qc0, Qf0, Qc1, Qf1, Qc2, Qf2, Qc3, Qf3, Qc4, Qf4, Qc5, Qf5⟩ := cf6 HQ26.out
   go_wp2_with fail
   refine (HLE.out _).mono ?_
   rintro e w36 ⟨rfl, hk⟩
   have HQ37 := Lib.hid (((hk.out).block _ (lt_of_heap HQ26.out) (fun x => x)).trans HQ26.out)
   have HK38 := Lib.hid (HK27.out.trans hk.out)
   clear Qc0 Qf0 Qc1 Qf1 Qc2 Qf2 Qc3 Qf3 Qc4 Qf4 Qc5 Qf5
   clear hk HQ26 HK27
   clear HLE
   by_cases hz : n = 0
   case pos =>
    subst hz
    obtain ⟨Qc0, Qf0, Qc1, Qf1, Qc2, Qf2, Qc3, Qf3, Qc4, Qf4, Qc5, Qf5⟩ := cf6 HQ37.out
    have e : Hid (R = false) := show R = false by rw [HR2.out]; rfl
    go_wp2_with fail
    go_ret
    exact ⟨by rw [e.out]; rfl, HK38⟩
   have hzI : (1 : Int) ≤ (n : Int) := by omega
   by_cases h12 : n ≤ 12
   case pos =>
    have h12I : (n : Int) ≤ 12 := by omega
    obtain ⟨Qc0, Qf0, Qc1, Qf1, Qc2, Qf2, Qc3, Qf3, Qc4, Qf4, Qc5, Qf5⟩ := cf6 HQ37.out
    have e : Hid (R = true) := show R = true by rw [HR2.out, decide_eq_true h12]; simp; omega
    go_wp2_with fail
    go_ret
    exact ⟨by rw [e.out]; rfl, HK38⟩
   case neg =>
    have h12I : ¬ (n : Int) ≤ 12 := by omega
    obtain ⟨Qc0, Qf0, Qc1, Qf1, Qc2, Qf2, Qc3, Qf3, Qc4, Qf4, Qc5, Qf5⟩ := cf6 HQ37.out
    have e : Hid (R = false) := show R = false by rw [HR2.out, decide_eq_false h12]; rfl
    go_wp2_with fail
    go_ret
    exact ⟨by rw [e.out]; show Ending.returned (Value.bool (decide ((n : Int) ≤ 12))) = _; rw [decide_eq_false (show ¬ (n : Int) ≤ 12 by omega)], HK38⟩
  case neg =>
   have HQ : ∀ w, (binOp .neq 28 (.agg #[.string ⟨b1.toArray⟩, .string ⟨b2.toArray⟩]) (.agg #[.string ⟨#[]⟩, .string ⟨#[]⟩])).run Tryz.prog w = .ok (.bool true) w := fun w => rol_neq_true hb w
   have e : Hid (R = false) := show R = false by rw [HD1.out, decide_eq_false hb]; rfl
   obtain ⟨Qc0, Qf0, Qc1, Qf1, Qc2, Qf2, Qc3, Qf3, Qc4, Qf4, Qc5, Qf5⟩ := cf6 HQ5.out
   go_upto_region 3 with fail
   clear Qc0 Qf0 Qc1 Qf1 Qc2 Qf2 Qc3 Qf3 Qc4 Qf4 Qc5 Qf5
   have HMK39 : Hid (∀ w' : World, w'.heap[SB]? = some (bQ 1 a1 a2 b1 b2 ao n cap) → w'.cell? ⟨SB, 0, none⟩ = some (.int .i64 1) ∧ w'.cell? ⟨SB, 1, none⟩ = some (.string ⟨a1.toArray⟩) ∧ w'.cell? ⟨SB, 2, none⟩ = some (.string ⟨a2.toArray⟩) ∧ w'.cell? ⟨SB, 3, none⟩ = some (.string ⟨b1.toArray⟩) ∧ w'.cell? ⟨SB, 4, none⟩ = some (.string ⟨b2.toArray⟩) ∧ w'.cell? ⟨SB, 5, none⟩ = some (.slice ao n cap) ∧ Hid (w'.heap[SB]? = some (bQ 1 a1 a2 b1 b2 ao n cap))) := fun w' h0 => ⟨(by rw [cell_of_heap h0]; rfl), (by rw [cell_of_heap h0]; rfl), (by rw [cell_of_heap h0]; rfl), (by rw [cell_of_heap h0]; rfl), (by rw [cell_of_heap h0]; rfl), (by rw [cell_of_heap h0]; rfl), Lib.hid h0⟩
   have hkd : KF w4 w4.drew := (Keeps.refl _ _).drew
   have HQ40 := Lib.hid (((hkd).block _ (lt_of_heap HQ5.out) (fun x => x)).trans HQ5.out)
   have HK41 := Lib.hid (HK6.out.drew)
   have hS0 := HMK39.out w4.drew HQ40.out
   clear hkd HQ5 HK6
   refine wp_region_noPanic ?_
   refine wp_region_held_drew (S := (fun w' => w'.cell? ⟨SB, 0, none⟩ = some (.int .i64 1) ∧ w'.cell? ⟨SB, 1, none⟩ = some (.string ⟨a1.toArray⟩) ∧ w'.cell? ⟨SB, 2, none⟩ = some (.string ⟨a2.toArray⟩) ∧ w'.cell? ⟨SB, 3, none⟩ = some (.string ⟨b1.toArray⟩) ∧ w'.cell? ⟨SB, 4, none⟩ = some (.string ⟨b2.toArray⟩) ∧ w'.cell? ⟨SB, 5, none⟩ = some (.slice ao n cap) ∧ Hid (w'.heap[SB]? = some (bQ 1 a1 a2 b1 b2 ao n cap)))) (by kernel_rfl) hS0 (fun hHeld => ?_)
   clear hS0
   generalize w4.drew = w42 at *
   refine tk 0 rfl hHeld ?_
   refine tk 1 rfl hHeld ?_
   refine tk 3 rfl hHeld ?_
   (try simp only [nz])
   refine tk 4 rfl hHeld ?_
   refine tk 5 rfl hHeld ?_
   refine tk 6 rfl hHeld ?_
   (try simp only [nz])
   refine on1 2 rfl fun KK hK => ?_
   go_simp
   refine (HSE.out _).mono ?_
   rintro e w49 ⟨rfl, hk⟩
   have HQ50 := Lib.hid (((hk.out).block _ (lt_of_heap HQ40.out) (fun x => x)).trans HQ40.out)
   have HK51 := Lib.hid (HK41.out.trans hk.out)
   clear hk  HQ40 HK41
   go_simp
   refine hK.out _ _ (HMK39.out _ HQ50.out) fun hHeld => ?_
   clear hK KK
   (try simp only [nz])
   refine on1 7 rfl fun KK hK => ?_
   go_simp
   refine hK.out _ _ (HMK39.out _ HQ50.out) fun hHeld => ?_
   clear hK KK
   (try simp only [nz])
   refine on1 8 rfl fun KK hK => ?_
   go_simp
   refine hK.out _ _ (HMK39.out _ HQ50.out) fun hHeld => ?_
   clear hK KK
   (try simp only [nz])
   refine on1 9 rfl fun KK hK => ?_
   go_simp
   refine hK.out _ _ (HMK39.out _ HQ50.out) fun hHeld => ?_
   clear hK KK
   (try simp only [nz])
   refine on1 10 rfl fun KK hK => ?_
   go_simp
   refine hK.out _ _ (HMK39.out _ HQ50.out) fun hHeld => ?_
   clear hK KK
   (try simp only [nz])
   refine on1 11 rfl fun KK hK => ?_
   go_simp
   refine hK.out _ _ (HMK39.out _ HQ50.out) fun hHeld => ?_
   clear hK KK
   (try simp only [nz])
   refine on1 12 rfl fun KK hK => ?_
   go_simp
   refine hK.out _ _ (HMK39.out _ HQ50.out) fun hHeld => ?_
   clear hK KK
   (try simp only [nz])
   refine on1 13 rfl fun KK hK => ?_
   go_simp
   refine hK.out _ _ (HMK39.out _ HQ50.out) fun hHeld => ?_
   clear hK KK
   (try simp only [nz])
   refine on1 14 rfl fun KK hK => ?_
   go_simp
   refine hK.out _ _ (HMK39.out _ HQ50.out) fun hHeld => ?_
   clear hK KK
   (try simp only [nz])
   refine on1 15 rfl fun KK hK => ?_
   go_simp
   refine hK.out _ _ (HMK39.out _ HQ50.out) fun hHeld => ?_
   clear hK KK
   (try simp only [nz])
   refine on1 16 rfl fun KK hK => ?_
   go_simp
   refine hK.out _ _ (HMK39.out _ HQ50.out) fun hHeld => ?_
   clear hK KK
   (try simp only [nz])
   refine on1 17 rfl fun KK hK => ?_
   go_simp
   refine hK.out _ _ (HMK39.out _ HQ50.out) fun hHeld => ?_
   clear hK KK
   (try simp only [nz])
   refine on1 18 rfl fun KK hK => ?_
   go_simp
   refine hK.out _ _ (HMK39.out _ HQ50.out) fun hHeld => ?_
   clear hK KK
   (try simp only [nz])
   refine wpAnyH_done (by kernel_rfl) ?_ _
   refine NoPanic.normal ?_
   clear hHeld HMK39
   clear HSE HLE HB HQ
   obtain ⟨Qc0, Qf0, Qc1, Qf1, Qc2, Qf2, Qc3, Qf3, Qc4, Qf4, Qc5, Qf5⟩ := cf6 HQ50.out
   go_wp2_with fail
   go_ret
   exact ⟨by rw [e.out]; rfl, HK51⟩
 ·skip
  have HSE : Hid (∀ w, Calls Tryz.prog 156 #[.int .i64 2] w fun e w' => e = .returned (.bool false) ∧ Hid (KF w w')) := fun w => by
   go_enter Tryz.func156, Tryz.ntmps156
   go_wp2_with fail
   go_ret
   exact ⟨rfl, Keeps.refl _ _⟩
  have HLE : Hid (∀ w, Calls Tryz.prog 157 #[.int .i64 2] w fun e w' => e = .returned (.int .i64 (1)) ∧ Hid (KF w w')) := fun w => by
   go_enter Tryz.func157, Tryz.ntmps157
   go_wp2_with fail
   go_ret
   exact ⟨rfl, Keeps.refl _ _⟩
  by_cases hb : (b1, b2) = noRol
  case pos =>
   have HQ : ∀ w, (binOp .neq 28 (.agg #[.string ⟨#[]⟩, .string ⟨#[]⟩]) (.agg #[.string ⟨#[]⟩, .string ⟨#[]⟩])).run Tryz.prog w = .ok (.bool false) w := fun w => by
    have q := rol_neq noRol noRol w
    rw [decide_eq_true rfl] at q
    exact q
   unfold noRol at hb
   simp only [Prod.mk.injEq] at hb
   obtain ⟨rfl, rfl⟩ := hb
   have HR2 : Hid (R = (decide (n ≤ 12) && (if (2 : Int) = 4 then decide (n = 0) else decide ((2 : Int) = 3) || decide (0 < n)))) := show R = _ by rw [HD1.out]; rfl
   clear HD1
   obtain ⟨Qc0, Qf0, Qc1, Qf1, Qc2, Qf2, Qc3, Qf3, Qc4, Qf4, Qc5, Qf5⟩ := cf6 HQ5.out
   go_upto_region 3 with fail
   clear Qc0 Qf0 Qc1 Qf1 Qc2 Qf2 Qc3 Qf3 Qc4 Qf4 Qc5 Qf5
   have HMK65 : Hid (∀ w' : World, w'.heap[SB]? = some (.cells #[.int .i64 2, .string ⟨a1.toArray⟩, .string ⟨a2.toArray⟩, .string ⟨#[]⟩, .string ⟨#[]⟩, .slice ao n cap] 31) → w'.cell? ⟨SB, 0, none⟩ = some (.int .i64 2) ∧ w'.cell? ⟨SB, 1, none⟩ = some (.string ⟨a1.toArray⟩) ∧ w'.cell? ⟨SB, 2, none⟩ = some (.string ⟨a2.toArray⟩) ∧ w'.cell? ⟨SB, 3, none⟩ = some (.string ⟨#[]⟩) ∧ w'.cell? ⟨SB, 4, none⟩ = some (.string ⟨#[]⟩) ∧ w'.cell? ⟨SB, 5, none⟩ = some (.slice ao n cap) ∧ Hid (w'.heap[SB]? = some (.cells #[.int .i64 2, .string ⟨a1.toArray⟩, .string ⟨a2.toArray⟩, .string ⟨#[]⟩, .string ⟨#[]⟩, .slice ao n cap] 31))) := fun w' h0 => ⟨(by rw [cell_of_heap h0]; rfl), (by rw [cell_of_heap h0]; rfl), (by rw [cell_of_heap h0]; rfl), (by rw [cell_of_heap h0]; rfl), (by rw [cell_of_heap h0]; rfl), (by rw [cell_of_heap h0]; rfl), Lib.hid h0⟩
   have hkd : KF w4 w4.drew := (Keeps.refl _ _).drew
   have HQ66 := Lib.hid (((hkd).block _ (lt_of_heap HQ5.out) (fun x => x)).trans HQ5.out)
   have HK67 := Lib.hid (HK6.out.drew)
   have hS0 := HMK65.out w4.drew HQ66.out
   clear hkd HQ5 HK6
   refine wp_region_noPanic ?_
   refine wp_region_held_drew (S := (fun w' => w'.cell? ⟨SB, 0, none⟩ = some (.int .i64 2) ∧ w'.cell? ⟨SB, 1, none⟩ = some (.string ⟨a1.toArray⟩) ∧ w'.cell? ⟨SB, 2, none⟩ = some (.string ⟨a2.toArray⟩) ∧ w'.cell? ⟨SB, 3, none⟩ = some (.string ⟨#[]⟩) ∧ w'.cell? ⟨SB, 4, none⟩ = some (.string ⟨#[]⟩) ∧ w'.cell? ⟨SB, 5, none⟩ = some (.slice ao n cap) ∧ Hid (w'.heap[SB]? = some (.cells #[.int .i64 2, .string ⟨a1.toArray⟩, .string ⟨a2.toArray⟩, .string ⟨#[]⟩, .string ⟨#[]⟩, .slice ao n cap] 31)))) (by kernel_rfl) hS0 (fun hHeld => ?_)
   clear hS0
   generalize w4.drew = w68 at *
   refine tk 0 rfl hHeld ?_
   refine tk 1 rfl hHeld ?_
   refine tk 3 rfl hHeld ?_
   (try simp only [nz])
   refine tk 4 rfl hHeld ?_
   refine tk 5 rfl hHeld ?_
   refine tk 6 rfl hHeld ?_
   (try simp only [nz])
   refine on1 2 rfl fun KK hK => ?_
   go_simp
   refine (HSE.out _).mono ?_
   rintro e w75 ⟨rfl, hk⟩
   have HQ76 := Lib.hid (((hk.out).block _ (lt_of_heap HQ66.out) (fun x => x)).trans HQ66.out)
   have HK77 := Lib.hid (HK67.out.trans hk.out)
   clear hk  HQ66 HK67
   go_simp
   refine hK.out _ _ (HMK65.out _ HQ76.out) fun hHeld => ?_
   clear hK KK
   (try simp only [nz])
   refine on1 7 rfl fun KK hK => ?_
   go_simp
   refine hK.out _ _ (HMK65.out _ HQ76.out) fun hHeld => ?_
   clear hK KK
   (try simp only [nz])
   refine on1 8 rfl fun KK hK => ?_
   go_simp
   refine hK.out _ _ (HMK65.out _ HQ76.out) fun hHeld => ?_
   clear hK KK
   refine tk 9 rfl hHeld ?_
   refine tk 10 rfl hHeld ?_
   (try simp only [nz])
   refine on1 11 rfl fun KK hK => ?_
   go_simp
   refine (HSE.out _).mono ?_
   rintro e w83 ⟨rfl, hk⟩
   have HQ84 := Lib.hid (((hk.out).block _ (lt_of_heap HQ76.out) (fun x => x)).trans HQ76.out)
   have HK85 := Lib.hid (HK77.out.trans hk.out)
   clear hk  HQ76 HK77
   go_simp
   refine hK.out _ _ (HMK65.out _ HQ84.out) fun hHeld => ?_
   clear hK KK
   (try simp only [nz])
   refine on1 12 rfl fun KK hK => ?_
   go_simp
   refine hK.out _ _ (HMK65.out _ HQ84.out) fun hHeld => ?_
   clear hK KK
   (try simp only [nz])
   refine on1 13 rfl fun KK hK => ?_
   go_simp
   refine hK.out _ _ (HMK65.out _ HQ84.out) fun hHeld => ?_
   clear hK KK
   (try simp only [nz])
   refine on1 14 rfl fun KK hK => ?_
   go_simp
   refine hK.out _ _ (HMK65.out _ HQ84.out) fun hHeld => ?_
   clear hK KK
   (try simp only [nz])
   refine on1 15 rfl fun KK hK => ?_
   go_simp
   refine hK.out _ _ (HMK65.out _ HQ84.out) fun hHeld => ?_
   clear hK KK
   (try simp only [nz])
   refine on1 16 rfl fun KK hK => ?_
   go_simp
   refine hK.out _ _ (HMK65.out _ HQ84.out) fun hHeld => ?_
   clear hK KK
   (try simp only [nz])
   refine on1 17 rfl fun KK hK => ?_
   go_simp
   refine hK.out _ _ (HMK65.out _ HQ84.out) fun hHeld => ?_
   clear hK KK
   (try simp only [nz])
   refine on1 18 rfl fun KK hK => ?_
   go_simp
   refine hK.out _ _ (HMK65.out _ HQ84.out) fun hHeld => ?_
   clear hK KK
   (try simp only [nz])
   refine wpAnyH_done (by kernel_rfl) ?_ _
   refine NoPanic.normal ?_
   clear hHeld HMK65
   clear HSE HB HQ
   obtain ⟨Qc0, Qf0, Qc1, Qf1, Qc2, Qf2, Qc3, Qf3, Qc4, Qf4, Qc5, Qf5⟩ := cf6 HQ84.out
   go_upto_region 5 with fail
   clear Qc0 Qf0 Qc1 Qf1 Qc2 Qf2 Qc3 Qf3 Qc4 Qf4 Qc5 Qf5
   obtain ⟨Qc0, Qf0, Qc1, Qf1, Qc2, Qf2, Qc3, Qf3, Qc4, Qf4, Qc5, Qf5⟩ := cf6 HQ84.out
   go_wp2_with fail
   refine (HLE.out _).mono ?_
   rintro e w94 ⟨rfl, hk⟩
   have HQ95 := Lib.hid (((hk.out).block _ (lt_of_heap HQ84.out) (fun x => x)).trans HQ84.out)
   have HK96 := Lib.hid (HK85.out.trans hk.out)
   clear Qc0 Qf0 Qc1 Qf1 Qc2 Qf2 Qc3 Qf3 Qc4 Qf4 Qc5 Qf5
   clear hk HQ84 HK85
   clear HLE
   by_cases hz : n = 0
   case pos =>
    subst hz
    obtain ⟨Qc0, Qf0, Qc1, Qf1, Qc2, Qf2, Qc3, Qf3, Qc4, Qf4, Qc5, Qf5⟩ := cf6 HQ95.out
    have e : Hid (R = false) := show R = false by rw [HR2.out]; rfl
    go_wp2_with fail
    go_ret
    exact ⟨by rw [e.out]; rfl, HK96⟩
   have hzI : (1 : Int) ≤ (n : Int) := by omega
   by_cases h12 : n ≤ 12
   case pos =>
    have h12I : (n : Int) ≤ 12 := by omega
    obtain ⟨Qc0, Qf0, Qc1, Qf1, Qc2, Qf2, Qc3, Qf3, Qc4, Qf4, Qc5, Qf5⟩ := cf6 HQ95.out
    have e : Hid (R = true) := show R = true by rw [HR2.out, decide_eq_true h12]; simp; omega
    go_wp2_with fail
    go_ret
    exact ⟨by rw [e.out]; rfl, HK96⟩
   case neg =>
    have h12I : ¬ (n : Int) ≤ 12 := by omega
    obtain ⟨Qc0, Qf0, Qc1, Qf1, Qc2, Qf2, Qc3, Qf3, Qc4, Qf4, Qc5, Qf5⟩ := cf6 HQ95.out
    have e : Hid (R = false) := show R = false by rw [HR2.out, decide_eq_false h12]; rfl
    go_wp2_with fail
    go_ret
    exact ⟨by rw [e.out]; show Ending.returned (Value.bool (decide ((n : Int) ≤ 12))) = _; rw [decide_eq_false (show ¬ (n : Int) ≤ 12 by omega)], HK96⟩
  case neg =>
   have HQ : ∀ w, (binOp .neq 28 (.agg #[.string ⟨b1.toArray⟩, .string ⟨b2.toArray⟩]) (.agg #[.string ⟨#[]⟩, .string ⟨#[]⟩])).run Tryz.prog w = .ok (.bool true) w := fun w => rol_neq_true hb w
   have e : Hid (R = false) := show R = false by rw [HD1.out, decide_eq_false hb]; rfl
   obtain ⟨Qc0, Qf0, Qc1, Qf1, Qc2, Qf2, Qc3, Qf3, Qc4, Qf4, Qc5, Qf5⟩ := cf6 HQ5.out
   go_upto_region 3 with fail
   clear Qc0 Qf0 Qc1 Qf1 Qc2 Qf2 Qc3 Qf3 Qc4 Qf4 Qc5 Qf5
   have HMK97 : Hid (∀ w' : World, w'.heap[SB]? = some (bQ 2 a1 a2 b1 b2 ao n cap) → w'.cell? ⟨SB, 0, none⟩ = some (.int .i64 2) ∧ w'.cell? ⟨SB, 1, none⟩ = some (.string ⟨a1.toArray⟩) ∧ w'.cell? ⟨SB, 2, none⟩ = some (.string ⟨a2.toArray⟩) ∧ w'.cell? ⟨SB, 3, none⟩ = some (.string ⟨b1.toArray⟩) ∧ w'.cell? ⟨SB, 4, none⟩ = some (.string ⟨b2.toArray⟩) ∧ w'.cell? ⟨SB, 5, none⟩ = some (.slice ao n cap) ∧ Hid (w'.heap[SB]? = some (bQ 2 a1 a2 b1 b2 ao n cap))) := fun w' h0 => ⟨(by rw [cell_of_heap h0]; rfl), (by rw [cell_of_heap h0]; rfl), (by rw [cell_of_heap h0]; rfl), (by rw [cell_of_heap h0]; rfl), (by rw [cell_of_heap h0]; rfl), (by rw [cell_of_heap h0]; rfl), Lib.hid h0⟩
   have hkd : KF w4 w4.drew := (Keeps.refl _ _).drew
   have HQ98 := Lib.hid (((hkd).block _ (lt_of_heap HQ5.out) (fun x => x)).trans HQ5.out)
   have HK99 := Lib.hid (HK6.out.drew)
   have hS0 := HMK97.out w4.drew HQ98.out
   clear hkd HQ5 HK6
   refine wp_region_noPanic ?_
   refine wp_region_held_drew (S := (fun w' => w'.cell? ⟨SB, 0, none⟩ = some (.int .i64 2) ∧ w'.cell? ⟨SB, 1, none⟩ = some (.string ⟨a1.toArray⟩) ∧ w'.cell? ⟨SB, 2, none⟩ = some (.string ⟨a2.toArray⟩) ∧ w'.cell? ⟨SB, 3, none⟩ = some (.string ⟨b1.toArray⟩) ∧ w'.cell? ⟨SB, 4, none⟩ = some (.string ⟨b2.toArray⟩) ∧ w'.cell? ⟨SB, 5, none⟩ = some (.slice ao n cap) ∧ Hid (w'.heap[SB]? = some (bQ 2 a1 a2 b1 b2 ao n cap)))) (by kernel_rfl) hS0 (fun hHeld => ?_)
   clear hS0
   generalize w4.drew = w100 at *
   refine tk 0 rfl hHeld ?_
   refine tk 1 rfl hHeld ?_
   refine tk 3 rfl hHeld ?_
   (try simp only [nz])
   refine tk 4 rfl hHeld ?_
   refine tk 5 rfl hHeld ?_
   refine tk 6 rfl hHeld ?_
   (try simp only [nz])
   refine on1 2 rfl fun KK hK => ?_
   go_simp
   refine (HSE.out _).mono ?_
   rintro e w107 ⟨rfl, hk⟩
   have HQ108 := Lib.hid (((hk.out).block _ (lt_of_heap HQ98.out) (fun x => x)).trans HQ98.out)
   have HK109 := Lib.hid (HK99.out.trans hk.out)
   clear hk  HQ98 HK99
   go_simp
   refine hK.out _ _ (HMK97.out _ HQ108.out) fun hHeld => ?_
   clear hK KK
   (try simp only [nz])
   refine on1 7 rfl fun KK hK => ?_
   go_simp
   refine hK.out _ _ (HMK97.out _ HQ108.out) fun hHeld => ?_
   clear hK KK
   (try simp only [nz])
   refine on1 8 rfl fun KK hK => ?_
   go_simp
   refine hK.out _ _ (HMK97.out _ HQ108.out) fun hHeld => ?_
   clear hK KK
   (try simp only [nz])
   refine on1 9 rfl fun KK hK => ?_
   go_simp
   refine hK.out _ _ (HMK97.out _ HQ108.out) fun hHeld => ?_
   clear hK KK
   (try simp only [nz])
   refine on1 10 rfl fun KK hK => ?_
   go_simp
   refine hK.out _ _ (HMK97.out _ HQ108.out) fun hHeld => ?_
   clear hK KK
   (try simp only [nz])
   refine on1 11 rfl fun KK hK => ?_
   go_simp
   refine hK.out _ _ (HMK97.out _ HQ108.out) fun hHeld => ?_
   clear hK KK
   (try simp only [nz])
   refine on1 12 rfl fun KK hK => ?_
   go_simp
   refine hK.out _ _ (HMK97.out _ HQ108.out) fun hHeld => ?_
   clear hK KK
   (try simp only [nz])
   refine on1 13 rfl fun KK hK => ?_
   go_simp
   refine hK.out _ _ (HMK97.out _ HQ108.out) fun hHeld => ?_
   clear hK KK
   (try simp only [nz])
   refine on1 14 rfl fun KK hK => ?_
   go_simp
   refine hK.out _ _ (HMK97.out _ HQ108.out) fun hHeld => ?_
   clear hK KK
   (try simp only [nz])
   refine on1 15 rfl fun KK hK => ?_
   go_simp
   refine hK.out _ _ (HMK97.out _ HQ108.out) fun hHeld => ?_
   clear hK KK
   (try simp only [nz])
   refine on1 16 rfl fun KK hK => ?_
   go_simp
   refine hK.out _ _ (HMK97.out _ HQ108.out) fun hHeld => ?_
   clear hK KK
   (try simp only [nz])
   refine on1 17 rfl fun KK hK => ?_
   go_simp
   refine hK.out _ _ (HMK97.out _ HQ108.out) fun hHeld => ?_
   clear hK KK
   (try simp only [nz])
   refine on1 18 rfl fun KK hK => ?_
   go_simp
   refine hK.out _ _ (HMK97.out _ HQ108.out) fun hHeld => ?_
   clear hK KK
   (try simp only [nz])
   refine wpAnyH_done (by kernel_rfl) ?_ _
   refine NoPanic.normal ?_
   clear hHeld HMK97
   clear HSE HLE HB HQ
   obtain ⟨Qc0, Qf0, Qc1, Qf1, Qc2, Qf2, Qc3, Qf3, Qc4, Qf4, Qc5, Qf5⟩ := cf6 HQ108.out
   go_wp2_with fail
   go_ret
   exact ⟨by rw [e.out]; rfl, HK109⟩
 ·skip
  have HSE : Hid (∀ w, Calls Tryz.prog 156 #[.int .i64 3] w fun e w' => e = .returned (.bool false) ∧ Hid (KF w w')) := fun w => by
   go_enter Tryz.func156, Tryz.ntmps156
   go_wp2_with fail
   go_ret
   exact ⟨rfl, Keeps.refl _ _⟩
  have HLE : Hid (∀ w, Calls Tryz.prog 157 #[.int .i64 3] w fun e w' => e = .returned (.int .i64 (0)) ∧ Hid (KF w w')) := fun w => by
   go_enter Tryz.func157, Tryz.ntmps157
   go_wp2_with fail
   go_ret
   exact ⟨rfl, Keeps.refl _ _⟩
  by_cases hb : (b1, b2) = noRol
  case pos =>
   have HQ : ∀ w, (binOp .neq 28 (.agg #[.string ⟨#[]⟩, .string ⟨#[]⟩]) (.agg #[.string ⟨#[]⟩, .string ⟨#[]⟩])).run Tryz.prog w = .ok (.bool false) w := fun w => by
    have q := rol_neq noRol noRol w
    rw [decide_eq_true rfl] at q
    exact q
   unfold noRol at hb
   simp only [Prod.mk.injEq] at hb
   obtain ⟨rfl, rfl⟩ := hb
   have HR2 : Hid (R = (decide (n ≤ 12) && (if (3 : Int) = 4 then decide (n = 0) else decide ((3 : Int) = 3) || decide (0 < n)))) := show R = _ by rw [HD1.out]; rfl
   clear HD1
   obtain ⟨Qc0, Qf0, Qc1, Qf1, Qc2, Qf2, Qc3, Qf3, Qc4, Qf4, Qc5, Qf5⟩ := cf6 HQ5.out
   go_upto_region 3 with fail
   clear Qc0 Qf0 Qc1 Qf1 Qc2 Qf2 Qc3 Qf3 Qc4 Qf4 Qc5 Qf5
   have HMK123 : Hid (∀ w' : World, w'.heap[SB]? = some (.cells #[.int .i64 3, .string ⟨a1.toArray⟩, .string ⟨a2.toArray⟩, .string ⟨#[]⟩, .string ⟨#[]⟩, .slice ao n cap] 31) → w'.cell? ⟨SB, 0, none⟩ = some (.int .i64 3) ∧ w'.cell? ⟨SB, 1, none⟩ = some (.string ⟨a1.toArray⟩) ∧ w'.cell? ⟨SB, 2, none⟩ = some (.string ⟨a2.toArray⟩) ∧ w'.cell? ⟨SB, 3, none⟩ = some (.string ⟨#[]⟩) ∧ w'.cell? ⟨SB, 4, none⟩ = some (.string ⟨#[]⟩) ∧ w'.cell? ⟨SB, 5, none⟩ = some (.slice ao n cap) ∧ Hid (w'.heap[SB]? = some (.cells #[.int .i64 3, .string ⟨a1.toArray⟩, .string ⟨a2.toArray⟩, .string ⟨#[]⟩, .string ⟨#[]⟩, .slice ao n cap] 31))) := fun w' h0 => ⟨(by rw [cell_of_heap h0]; rfl), (by rw [cell_of_heap h0]; rfl), (by rw [cell_of_heap h0]; rfl), (by rw [cell_of_heap h0]; rfl), (by rw [cell_of_heap h0]; rfl), (by rw [cell_of_heap h0]; rfl), Lib.hid h0⟩
   have hkd : KF w4 w4.drew := (Keeps.refl _ _).drew
   have HQ124 := Lib.hid (((hkd).block _ (lt_of_heap HQ5.out) (fun x => x)).trans HQ5.out)
   have HK125 := Lib.hid (HK6.out.drew)
   have hS0 := HMK123.out w4.drew HQ124.out
   clear hkd HQ5 HK6
   refine wp_region_noPanic ?_
   refine wp_region_held_drew (S := (fun w' => w'.cell? ⟨SB, 0, none⟩ = some (.int .i64 3) ∧ w'.cell? ⟨SB, 1, none⟩ = some (.string ⟨a1.toArray⟩) ∧ w'.cell? ⟨SB, 2, none⟩ = some (.string ⟨a2.toArray⟩) ∧ w'.cell? ⟨SB, 3, none⟩ = some (.string ⟨#[]⟩) ∧ w'.cell? ⟨SB, 4, none⟩ = some (.string ⟨#[]⟩) ∧ w'.cell? ⟨SB, 5, none⟩ = some (.slice ao n cap) ∧ Hid (w'.heap[SB]? = some (.cells #[.int .i64 3, .string ⟨a1.toArray⟩, .string ⟨a2.toArray⟩, .string ⟨#[]⟩, .string ⟨#[]⟩, .slice ao n cap] 31)))) (by kernel_rfl) hS0 (fun hHeld => ?_)
   clear hS0
   generalize w4.drew = w126 at *
   refine tk 0 rfl hHeld ?_
   refine tk 1 rfl hHeld ?_
   refine tk 3 rfl hHeld ?_
   (try simp only [nz])
   refine tk 4 rfl hHeld ?_
   refine tk 5 rfl hHeld ?_
   refine tk 6 rfl hHeld ?_
   (try simp only [nz])
   refine on1 2 rfl fun KK hK => ?_
   go_simp
   refine (HSE.out _).mono ?_
   rintro e w133 ⟨rfl, hk⟩
   have HQ134 := Lib.hid (((hk.out).block _ (lt_of_heap HQ124.out) (fun x => x)).trans HQ124.out)
   have HK135 := Lib.hid (HK125.out.trans hk.out)
   clear hk  HQ124 HK125
   go_simp
   refine hK.out _ _ (HMK123.out _ HQ134.out) fun hHeld => ?_
   clear hK KK
   (try simp only [nz])
   refine on1 7 rfl fun KK hK => ?_
   go_simp
   refine hK.out _ _ (HMK123.out _ HQ134.out) fun hHeld => ?_
   clear hK KK
   (try simp only [nz])
   refine on1 8 rfl fun KK hK => ?_
   go_simp
   refine hK.out _ _ (HMK123.out _ HQ134.out) fun hHeld => ?_
   clear hK KK
   refine tk 9 rfl hHeld ?_
   refine tk 10 rfl hHeld ?_
   (try simp only [nz])
   refine on1 11 rfl fun KK hK => ?_
   go_simp
   refine (HSE.out _).mono ?_
   rintro e w141 ⟨rfl, hk⟩
   have HQ142 := Lib.hid (((hk.out).block _ (lt_of_heap HQ134.out) (fun x => x)).trans HQ134.out)
   have HK143 := Lib.hid (HK135.out.trans hk.out)
   clear hk  HQ134 HK135
   go_simp
   refine hK.out _ _ (HMK123.out _ HQ142.out) fun hHeld => ?_
   clear hK KK
   (try simp only [nz])
   refine on1 12 rfl fun KK hK => ?_
   go_simp
   refine hK.out _ _ (HMK123.out _ HQ142.out) fun hHeld => ?_
   clear hK KK
   (try simp only [nz])
   refine on1 13 rfl fun KK hK => ?_
   go_simp
   refine hK.out _ _ (HMK123.out _ HQ142.out) fun hHeld => ?_
   clear hK KK
   (try simp only [nz])
   refine on1 14 rfl fun KK hK => ?_
   go_simp
   refine hK.out _ _ (HMK123.out _ HQ142.out) fun hHeld => ?_
   clear hK KK
   (try simp only [nz])
   refine on1 15 rfl fun KK hK => ?_
   go_simp
   refine hK.out _ _ (HMK123.out _ HQ142.out) fun hHeld => ?_
   clear hK KK
   (try simp only [nz])
   refine on1 16 rfl fun KK hK => ?_
   go_simp
   refine hK.out _ _ (HMK123.out _ HQ142.out) fun hHeld => ?_
   clear hK KK
   (try simp only [nz])
   refine on1 17 rfl fun KK hK => ?_
   go_simp
   refine hK.out _ _ (HMK123.out _ HQ142.out) fun hHeld => ?_
   clear hK KK
   (try simp only [nz])
   refine on1 18 rfl fun KK hK => ?_
   go_simp
   refine hK.out _ _ (HMK123.out _ HQ142.out) fun hHeld => ?_
   clear hK KK
   (try simp only [nz])
   refine wpAnyH_done (by kernel_rfl) ?_ _
   refine NoPanic.normal ?_
   clear hHeld HMK123
   clear HSE HB HQ
   obtain ⟨Qc0, Qf0, Qc1, Qf1, Qc2, Qf2, Qc3, Qf3, Qc4, Qf4, Qc5, Qf5⟩ := cf6 HQ142.out
   go_upto_region 5 with fail
   clear Qc0 Qf0 Qc1 Qf1 Qc2 Qf2 Qc3 Qf3 Qc4 Qf4 Qc5 Qf5
   obtain ⟨Qc0, Qf0, Qc1, Qf1, Qc2, Qf2, Qc3, Qf3, Qc4, Qf4, Qc5, Qf5⟩ := cf6 HQ142.out
   go_wp2_with fail
   refine (HLE.out _).mono ?_
   rintro e w152 ⟨rfl, hk⟩
   have HQ153 := Lib.hid (((hk.out).block _ (lt_of_heap HQ142.out) (fun x => x)).trans HQ142.out)
   have HK154 := Lib.hid (HK143.out.trans hk.out)
   clear Qc0 Qf0 Qc1 Qf1 Qc2 Qf2 Qc3 Qf3 Qc4 Qf4 Qc5 Qf5
   clear hk HQ142 HK143
   clear HLE
   have hzI : (0 : Int) ≤ (n : Int) := by omega
   by_cases h12 : n ≤ 12
   case pos =>
    have h12I : (n : Int) ≤ 12 := by omega
    obtain ⟨Qc0, Qf0, Qc1, Qf1, Qc2, Qf2, Qc3, Qf3, Qc4, Qf4, Qc5, Qf5⟩ := cf6 HQ153.out
    have e : Hid (R = true) := show R = true by rw [HR2.out, decide_eq_true h12]; rfl
    go_wp2_with fail
    go_ret
    exact ⟨by rw [e.out]; rfl, HK154⟩
   case neg =>
    have h12I : ¬ (n : Int) ≤ 12 := by omega
    obtain ⟨Qc0, Qf0, Qc1, Qf1, Qc2, Qf2, Qc3, Qf3, Qc4, Qf4, Qc5, Qf5⟩ := cf6 HQ153.out
    have e : Hid (R = false) := show R = false by rw [HR2.out, decide_eq_false h12]; rfl
    go_wp2_with fail
    go_ret
    exact ⟨by rw [e.out]; show Ending.returned (Value.bool (decide ((n : Int) ≤ 12))) = _; rw [decide_eq_false (show ¬ (n : Int) ≤ 12 by omega)], HK154⟩
  case neg =>
   have HQ : ∀ w, (binOp .neq 28 (.agg #[.string ⟨b1.toArray⟩, .string ⟨b2.toArray⟩]) (.agg #[.string ⟨#[]⟩, .string ⟨#[]⟩])).run Tryz.prog w = .ok (.bool true) w := fun w => rol_neq_true hb w
   have e : Hid (R = false) := show R = false by rw [HD1.out, decide_eq_false hb]; rfl
   obtain ⟨Qc0, Qf0, Qc1, Qf1, Qc2, Qf2, Qc3, Qf3, Qc4, Qf4, Qc5, Qf5⟩ := cf6 HQ5.out
   go_upto_region 3 with fail
   clear Qc0 Qf0 Qc1 Qf1 Qc2 Qf2 Qc3 Qf3 Qc4 Qf4 Qc5 Qf5
   have HMK155 : Hid (∀ w' : World, w'.heap[SB]? = some (bQ 3 a1 a2 b1 b2 ao n cap) → w'.cell? ⟨SB, 0, none⟩ = some (.int .i64 3) ∧ w'.cell? ⟨SB, 1, none⟩ = some (.string ⟨a1.toArray⟩) ∧ w'.cell? ⟨SB, 2, none⟩ = some (.string ⟨a2.toArray⟩) ∧ w'.cell? ⟨SB, 3, none⟩ = some (.string ⟨b1.toArray⟩) ∧ w'.cell? ⟨SB, 4, none⟩ = some (.string ⟨b2.toArray⟩) ∧ w'.cell? ⟨SB, 5, none⟩ = some (.slice ao n cap) ∧ Hid (w'.heap[SB]? = some (bQ 3 a1 a2 b1 b2 ao n cap))) := fun w' h0 => ⟨(by rw [cell_of_heap h0]; rfl), (by rw [cell_of_heap h0]; rfl), (by rw [cell_of_heap h0]; rfl), (by rw [cell_of_heap h0]; rfl), (by rw [cell_of_heap h0]; rfl), (by rw [cell_of_heap h0]; rfl), Lib.hid h0⟩
   have hkd : KF w4 w4.drew := (Keeps.refl _ _).drew
   have HQ156 := Lib.hid (((hkd).block _ (lt_of_heap HQ5.out) (fun x => x)).trans HQ5.out)
   have HK157 := Lib.hid (HK6.out.drew)
   have hS0 := HMK155.out w4.drew HQ156.out
   clear hkd HQ5 HK6
   refine wp_region_noPanic ?_
   refine wp_region_held_drew (S := (fun w' => w'.cell? ⟨SB, 0, none⟩ = some (.int .i64 3) ∧ w'.cell? ⟨SB, 1, none⟩ = some (.string ⟨a1.toArray⟩) ∧ w'.cell? ⟨SB, 2, none⟩ = some (.string ⟨a2.toArray⟩) ∧ w'.cell? ⟨SB, 3, none⟩ = some (.string ⟨b1.toArray⟩) ∧ w'.cell? ⟨SB, 4, none⟩ = some (.string ⟨b2.toArray⟩) ∧ w'.cell? ⟨SB, 5, none⟩ = some (.slice ao n cap) ∧ Hid (w'.heap[SB]? = some (bQ 3 a1 a2 b1 b2 ao n cap)))) (by kernel_rfl) hS0 (fun hHeld => ?_)
   clear hS0
   generalize w4.drew = w158 at *
   refine tk 0 rfl hHeld ?_
   refine tk 1 rfl hHeld ?_
   refine tk 3 rfl hHeld ?_
   (try simp only [nz])
   refine tk 4 rfl hHeld ?_
   refine tk 5 rfl hHeld ?_
   refine tk 6 rfl hHeld ?_
   (try simp only [nz])
   refine on1 2 rfl fun KK hK => ?_
   go_simp
   refine (HSE.out _).mono ?_
   rintro e w165 ⟨rfl, hk⟩
   have HQ166 := Lib.hid (((hk.out).block _ (lt_of_heap HQ156.out) (fun x => x)).trans HQ156.out)
   have HK167 := Lib.hid (HK157.out.trans hk.out)
   clear hk  HQ156 HK157
   go_simp
   refine hK.out _ _ (HMK155.out _ HQ166.out) fun hHeld => ?_
   clear hK KK
   (try simp only [nz])
   refine on1 7 rfl fun KK hK => ?_
   go_simp
   refine hK.out _ _ (HMK155.out _ HQ166.out) fun hHeld => ?_
   clear hK KK
   (try simp only [nz])
   refine on1 8 rfl fun KK hK => ?_
   go_simp
   refine hK.out _ _ (HMK155.out _ HQ166.out) fun hHeld => ?_
   clear hK KK
   (try simp only [nz])
   refine on1 9 rfl fun KK hK => ?_
   go_simp
   refine hK.out _ _ (HMK155.out _ HQ166.out) fun hHeld => ?_
   clear hK KK
   (try simp only [nz])
   refine on1 10 rfl fun KK hK => ?_
   go_simp
   refine hK.out _ _ (HMK155.out _ HQ166.out) fun hHeld => ?_
   clear hK KK
   (try simp only [nz])
   refine on1 11 rfl fun KK hK => ?_
   go_simp
   refine hK.out _ _ (HMK155.out _ HQ166.out) fun hHeld => ?_
   clear hK KK
   (try simp only [nz])
   refine on1 12 rfl fun KK hK => ?_
   go_simp
   refine hK.out _ _ (HMK155.out _ HQ166.out) fun hHeld => ?_
   clear hK KK
   (try simp only [nz])
   refine on1 13 rfl fun KK hK => ?_
   go_simp
   refine hK.out _ _ (HMK155.out _ HQ166.out) fun hHeld => ?_
   clear hK KK
   (try simp only [nz])
   refine on1 14 rfl fun KK hK => ?_
   go_simp
   refine hK.out _ _ (HMK155.out _ HQ166.out) fun hHeld => ?_
   clear hK KK
   (try simp only [nz])
   refine on1 15 rfl fun KK hK => ?_
   go_simp
   refine hK.out _ _ (HMK155.out _ HQ166.out) fun hHeld => ?_
   clear hK KK
   (try simp only [nz])
   refine on1 16 rfl fun KK hK => ?_
   go_simp
   refine hK.out _ _ (HMK155.out _ HQ166.out) fun hHeld => ?_
   clear hK KK
   (try simp only [nz])
   refine on1 17 rfl fun KK hK => ?_
   go_simp
   refine hK.out _ _ (HMK155.out _ HQ166.out) fun hHeld => ?_
   clear hK KK
   (try simp only [nz])
   refine on1 18 rfl fun KK hK => ?_
   go_simp
   refine hK.out _ _ (HMK155.out _ HQ166.out) fun hHeld => ?_
   clear hK KK
   (try simp only [nz])
   refine wpAnyH_done (by kernel_rfl) ?_ _
   refine NoPanic.normal ?_
   clear hHeld HMK155
   clear HSE HLE HB HQ
   obtain ⟨Qc0, Qf0, Qc1, Qf1, Qc2, Qf2, Qc3, Qf3, Qc4, Qf4, Qc5, Qf5⟩ := cf6 HQ166.out
   go_wp2_with fail
   go_ret
   exact ⟨by rw [e.out]; rfl, HK167⟩
 ·skip
  have HSE : Hid (∀ w, Calls Tryz.prog 156 #[.int .i64 4] w fun e w' => e = .returned (.bool false) ∧ Hid (KF w w')) := fun w => by
   go_enter Tryz.func156, Tryz.ntmps156
   go_wp2_with fail
   go_ret
   exact ⟨rfl, Keeps.refl _ _⟩
  have HLE : Hid (∀ w, Calls Tryz.prog 157 #[.int .i64 4] w fun e w' => e = .returned (.int .i64 (-1)) ∧ Hid (KF w w')) := fun w => by
   go_enter Tryz.func157, Tryz.ntmps157
   go_wp2_with fail
   go_ret
   exact ⟨rfl, Keeps.refl _ _⟩
  by_cases hb : (b1, b2) = noRol
  case pos =>
   have HQ : ∀ w, (binOp .neq 28 (.agg #[.string ⟨#[]⟩, .string ⟨#[]⟩]) (.agg #[.string ⟨#[]⟩, .string ⟨#[]⟩])).run Tryz.prog w = .ok (.bool false) w := fun w => by
    have q := rol_neq noRol noRol w
    rw [decide_eq_true rfl] at q
    exact q
   unfold noRol at hb
   simp only [Prod.mk.injEq] at hb
   obtain ⟨rfl, rfl⟩ := hb
   have HR2 : Hid (R = (decide (n ≤ 12) && (if (4 : Int) = 4 then decide (n = 0) else decide ((4 : Int) = 3) || decide (0 < n)))) := show R = _ by rw [HD1.out]; rfl
   clear HD1
   obtain ⟨Qc0, Qf0, Qc1, Qf1, Qc2, Qf2, Qc3, Qf3, Qc4, Qf4, Qc5, Qf5⟩ := cf6 HQ5.out
   go_upto_region 3 with fail
   clear Qc0 Qf0 Qc1 Qf1 Qc2 Qf2 Qc3 Qf3 Qc4 Qf4 Qc5 Qf5
   have HMK181 : Hid (∀ w' : World, w'.heap[SB]? = some (.cells #[.int .i64 4, .string ⟨a1.toArray⟩, .string ⟨a2.toArray⟩, .string ⟨#[]⟩, .string ⟨#[]⟩, .slice ao n cap] 31) → w'.cell? ⟨SB, 0, none⟩ = some (.int .i64 4) ∧ w'.cell? ⟨SB, 1, none⟩ = some (.string ⟨a1.toArray⟩) ∧ w'.cell? ⟨SB, 2, none⟩ = some (.string ⟨a2.toArray⟩) ∧ w'.cell? ⟨SB, 3, none⟩ = some (.string ⟨#[]⟩) ∧ w'.cell? ⟨SB, 4, none⟩ = some (.string ⟨#[]⟩) ∧ w'.cell? ⟨SB, 5, none⟩ = some (.slice ao n cap) ∧ Hid (w'.heap[SB]? = some (.cells #[.int .i64 4, .string ⟨a1.toArray⟩, .string ⟨a2.toArray⟩, .string ⟨#[]⟩, .string ⟨#[]⟩, .slice ao n cap] 31))) := fun w' h0 => ⟨(by rw [cell_of_heap h0]; rfl), (by rw [cell_of_heap h0]; rfl), (by rw [cell_of_heap h0]; rfl), (by rw [cell_of_heap h0]; rfl), (by rw [cell_of_heap h0]; rfl), (by rw [cell_of_heap h0]; rfl), Lib.hid h0⟩
   have hkd : KF w4 w4.drew := (Keeps.refl _ _).drew
   have HQ182 := Lib.hid (((hkd).block _ (lt_of_heap HQ5.out) (fun x => x)).trans HQ5.out)
   have HK183 := Lib.hid (HK6.out.drew)
   have hS0 := HMK181.out w4.drew HQ182.out
   clear hkd HQ5 HK6
   refine wp_region_noPanic ?_
   refine wp_region_held_drew (S := (fun w' => w'.cell? ⟨SB, 0, none⟩ = some (.int .i64 4) ∧ w'.cell? ⟨SB, 1, none⟩ = some (.string ⟨a1.toArray⟩) ∧ w'.cell? ⟨SB, 2, none⟩ = some (.string ⟨a2.toArray⟩) ∧ w'.cell? ⟨SB, 3, none⟩ = some (.string ⟨#[]⟩) ∧ w'.cell? ⟨SB, 4, none⟩ = some (.string ⟨#[]⟩) ∧ w'.cell? ⟨SB, 5, none⟩ = some (.slice ao n cap) ∧ Hid (w'.heap[SB]? = some (.cells #[.int .i64 4, .string ⟨a1.toArray⟩, .string ⟨a2.toArray⟩, .string ⟨#[]⟩, .string ⟨#[]⟩, .slice ao n cap] 31)))) (by kernel_rfl) hS0 (fun hHeld => ?_)
   clear hS0
   generalize w4.drew = w184 at *
   refine tk 0 rfl hHeld ?_
   refine tk 1 rfl hHeld ?_
   refine tk 3 rfl hHeld ?_
   (try simp only [nz])
   refine tk 4 rfl hHeld ?_
   refine tk 5 rfl hHeld ?_
   refine tk 6 rfl hHeld ?_
   (try simp only [nz])
   refine on1 2 rfl fun KK hK => ?_
   go_simp
   refine (HSE.out _).mono ?_
   rintro e w191 ⟨rfl, hk⟩
   have HQ192 := Lib.hid (((hk.out).block _ (lt_of_heap HQ182.out) (fun x => x)).trans HQ182.out)
   have HK193 := Lib.hid (HK183.out.trans hk.out)
   clear hk  HQ182 HK183
   go_simp
   refine hK.out _ _ (HMK181.out _ HQ192.out) fun hHeld => ?_
   clear hK KK
   (try simp only [nz])
   refine on1 7 rfl fun KK hK => ?_
   go_simp
   refine hK.out _ _ (HMK181.out _ HQ192.out) fun hHeld => ?_
   clear hK KK
   (try simp only [nz])
   refine on1 8 rfl fun KK hK => ?_
   go_simp
   refine hK.out _ _ (HMK181.out _ HQ192.out) fun hHeld => ?_
   clear hK KK
   refine tk 9 rfl hHeld ?_
   refine tk 10 rfl hHeld ?_
   (try simp only [nz])
   refine on1 11 rfl fun KK hK => ?_
   go_simp
   refine (HSE.out _).mono ?_
   rintro e w199 ⟨rfl, hk⟩
   have HQ200 := Lib.hid (((hk.out).block _ (lt_of_heap HQ192.out) (fun x => x)).trans HQ192.out)
   have HK201 := Lib.hid (HK193.out.trans hk.out)
   clear hk  HQ192 HK193
   go_simp
   refine hK.out _ _ (HMK181.out _ HQ200.out) fun hHeld => ?_
   clear hK KK
   (try simp only [nz])
   refine on1 12 rfl fun KK hK => ?_
   go_simp
   refine hK.out _ _ (HMK181.out _ HQ200.out) fun hHeld => ?_
   clear hK KK
   (try simp only [nz])
   refine on1 13 rfl fun KK hK => ?_
   go_simp
   refine hK.out _ _ (HMK181.out _ HQ200.out) fun hHeld => ?_
   clear hK KK
   (try simp only [nz])
   refine on1 14 rfl fun KK hK => ?_
   go_simp
   refine hK.out _ _ (HMK181.out _ HQ200.out) fun hHeld => ?_
   clear hK KK
   (try simp only [nz])
   refine on1 15 rfl fun KK hK => ?_
   go_simp
   refine hK.out _ _ (HMK181.out _ HQ200.out) fun hHeld => ?_
   clear hK KK
   (try simp only [nz])
   refine on1 16 rfl fun KK hK => ?_
   go_simp
   refine hK.out _ _ (HMK181.out _ HQ200.out) fun hHeld => ?_
   clear hK KK
   (try simp only [nz])
   refine on1 17 rfl fun KK hK => ?_
   go_simp
   refine hK.out _ _ (HMK181.out _ HQ200.out) fun hHeld => ?_
   clear hK KK
   (try simp only [nz])
   refine on1 18 rfl fun KK hK => ?_
   go_simp
   refine hK.out _ _ (HMK181.out _ HQ200.out) fun hHeld => ?_
   clear hK KK
   (try simp only [nz])
   refine wpAnyH_done (by kernel_rfl) ?_ _
   refine NoPanic.normal ?_
   clear hHeld HMK181
   clear HSE HB HQ
   obtain ⟨Qc0, Qf0, Qc1, Qf1, Qc2, Qf2, Qc3, Qf3, Qc4, Qf4, Qc5, Qf5⟩ := cf6 HQ200.out
   go_upto_region 5 with fail
   clear Qc0 Qf0 Qc1 Qf1 Qc2 Qf2 Qc3 Qf3 Qc4 Qf4 Qc5 Qf5
   obtain ⟨Qc0, Qf0, Qc1, Qf1, Qc2, Qf2, Qc3, Qf3, Qc4, Qf4, Qc5, Qf5⟩ := cf6 HQ200.out
   go_wp2_with fail
   refine (HLE.out _).mono ?_
   rintro e w210 ⟨rfl, hk⟩
   have HQ211 := Lib.hid (((hk.out).block _ (lt_of_heap HQ200.out) (fun x => x)).trans HQ200.out)
   have HK212 := Lib.hid (HK201.out.trans hk.out)
   clear Qc0 Qf0 Qc1 Qf1 Qc2 Qf2 Qc3 Qf3 Qc4 Qf4 Qc5 Qf5
   clear hk HQ200 HK201
   clear HLE
   by_cases hz : n = 0
   case pos =>
    subst hz
    obtain ⟨Qc0, Qf0, Qc1, Qf1, Qc2, Qf2, Qc3, Qf3, Qc4, Qf4, Qc5, Qf5⟩ := cf6 HQ211.out
    have e : Hid (R = true) := show R = true by rw [HR2.out]; rfl
    go_wp2_with fail
    go_ret
    exact ⟨by rw [e.out]; rfl, HK212⟩
   case neg =>
    have hzI : ¬ (n : Int) = 0 := by omega
    have hzb : ((n : Int) == 0) = false := beq_eq_false_iff_ne.2 hzI
    obtain ⟨Qc0, Qf0, Qc1, Qf1, Qc2, Qf2, Qc3, Qf3, Qc4, Qf4, Qc5, Qf5⟩ := cf6 HQ211.out
    have e : Hid (R = false) := show R = false by rw [HR2.out, decide_eq_false hz]; simp
    go_wp2_with fail
    go_ret
    exact ⟨by rw [e.out]; rfl, HK212⟩
  case neg =>
   have HQ : ∀ w, (binOp .neq 28 (.agg #[.string ⟨b1.toArray⟩, .string ⟨b2.toArray⟩]) (.agg #[.string ⟨#[]⟩, .string ⟨#[]⟩])).run Tryz.prog w = .ok (.bool true) w := fun w => rol_neq_true hb w
   have e : Hid (R = false) := show R = false by rw [HD1.out, decide_eq_false hb]; rfl
   obtain ⟨Qc0, Qf0, Qc1, Qf1, Qc2, Qf2, Qc3, Qf3, Qc4, Qf4, Qc5, Qf5⟩ := cf6 HQ5.out
   go_upto_region 3 with fail
   clear Qc0 Qf0 Qc1 Qf1 Qc2 Qf2 Qc3 Qf3 Qc4 Qf4 Qc5 Qf5
   have HMK213 : Hid (∀ w' : World, w'.heap[SB]? = some (bQ 4 a1 a2 b1 b2 ao n cap) → w'.cell? ⟨SB, 0, none⟩ = some (.int .i64 4) ∧ w'.cell? ⟨SB, 1, none⟩ = some (.string ⟨a1.toArray⟩) ∧ w'.cell? ⟨SB, 2, none⟩ = some (.string ⟨a2.toArray⟩) ∧ w'.cell? ⟨SB, 3, none⟩ = some (.string ⟨b1.toArray⟩) ∧ w'.cell? ⟨SB, 4, none⟩ = some (.string ⟨b2.toArray⟩) ∧ w'.cell? ⟨SB, 5, none⟩ = some (.slice ao n cap) ∧ Hid (w'.heap[SB]? = some (bQ 4 a1 a2 b1 b2 ao n cap))) := fun w' h0 => ⟨(by rw [cell_of_heap h0]; rfl), (by rw [cell_of_heap h0]; rfl), (by rw [cell_of_heap h0]; rfl), (by rw [cell_of_heap h0]; rfl), (by rw [cell_of_heap h0]; rfl), (by rw [cell_of_heap h0]; rfl), Lib.hid h0⟩
   have hkd : KF w4 w4.drew := (Keeps.refl _ _).drew
   have HQ214 := Lib.hid (((hkd).block _ (lt_of_heap HQ5.out) (fun x => x)).trans HQ5.out)
   have HK215 := Lib.hid (HK6.out.drew)
   have hS0 := HMK213.out w4.drew HQ214.out
   clear hkd HQ5 HK6
   refine wp_region_noPanic ?_
   refine wp_region_held_drew (S := (fun w' => w'.cell? ⟨SB, 0, none⟩ = some (.int .i64 4) ∧ w'.cell? ⟨SB, 1, none⟩ = some (.string ⟨a1.toArray⟩) ∧ w'.cell? ⟨SB, 2, none⟩ = some (.string ⟨a2.toArray⟩) ∧ w'.cell? ⟨SB, 3, none⟩ = some (.string ⟨b1.toArray⟩) ∧ w'.cell? ⟨SB, 4, none⟩ = some (.string ⟨b2.toArray⟩) ∧ w'.cell? ⟨SB, 5, none⟩ = some (.slice ao n cap) ∧ Hid (w'.heap[SB]? = some (bQ 4 a1 a2 b1 b2 ao n cap)))) (by kernel_rfl) hS0 (fun hHeld => ?_)
   clear hS0
   generalize w4.drew = w216 at *
   refine tk 0 rfl hHeld ?_
   refine tk 1 rfl hHeld ?_
   refine tk 3 rfl hHeld ?_
   (try simp only [nz])
   refine tk 4 rfl hHeld ?_
   refine tk 5 rfl hHeld ?_
   refine tk 6 rfl hHeld ?_
   (try simp only [nz])
   refine on1 2 rfl fun KK hK => ?_
   go_simp
   refine (HSE.out _).mono ?_
   rintro e w223 ⟨rfl, hk⟩
   have HQ224 := Lib.hid (((hk.out).block _ (lt_of_heap HQ214.out) (fun x => x)).trans HQ214.out)
   have HK225 := Lib.hid (HK215.out.trans hk.out)
   clear hk  HQ214 HK215
   go_simp
   refine hK.out _ _ (HMK213.out _ HQ224.out) fun hHeld => ?_
   clear hK KK
   (try simp only [nz])
   refine on1 7 rfl fun KK hK => ?_
   go_simp
   refine hK.out _ _ (HMK213.out _ HQ224.out) fun hHeld => ?_
   clear hK KK
   (try simp only [nz])
   refine on1 8 rfl fun KK hK => ?_
   go_simp
   refine hK.out _ _ (HMK213.out _ HQ224.out) fun hHeld => ?_
   clear hK KK
   (try simp only [nz])
   refine on1 9 rfl fun KK hK => ?_
   go_simp
   refine hK.out _ _ (HMK213.out _ HQ224.out) fun hHeld => ?_
   clear hK KK
   (try simp only [nz])
   refine on1 10 rfl fun KK hK => ?_
   go_simp
   refine hK.out _ _ (HMK213.out _ HQ224.out) fun hHeld => ?_
   clear hK KK
   (try simp only [nz])
   refine on1 11 rfl fun KK hK => ?_
   go_simp
   refine hK.out _ _ (HMK213.out _ HQ224.out) fun hHeld => ?_
   clear hK KK
   (try simp only [nz])
   refine on1 12 rfl fun KK hK => ?_
   go_simp
   refine hK.out _ _ (HMK213.out _ HQ224.out) fun hHeld => ?_
   clear hK KK
   (try simp only [nz])
   refine on1 13 rfl fun KK hK => ?_
   go_simp
   refine hK.out _ _ (HMK213.out _ HQ224.out) fun hHeld => ?_
   clear hK KK
   (try simp only [nz])
   refine on1 14 rfl fun KK hK => ?_
   go_simp
   refine hK.out _ _ (HMK213.out _ HQ224.out) fun hHeld => ?_
   clear hK KK
   (try simp only [nz])
   refine on1 15 rfl fun KK hK => ?_
   go_simp
   refine hK.out _ _ (HMK213.out _ HQ224.out) fun hHeld => ?_
   clear hK KK
   (try simp only [nz])
   refine on1 16 rfl fun KK hK => ?_
   go_simp
   refine hK.out _ _ (HMK213.out _ HQ224.out) fun hHeld => ?_
   clear hK KK
   (try simp only [nz])
   refine on1 17 rfl fun KK hK => ?_
   go_simp
   refine hK.out _ _ (HMK213.out _ HQ224.out) fun hHeld => ?_
   clear hK KK
   (try simp only [nz])
   refine on1 18 rfl fun KK hK => ?_
   go_simp
   refine hK.out _ _ (HMK213.out _ HQ224.out) fun hHeld => ?_
   clear hK KK
   (try simp only [nz])
   refine wpAnyH_done (by kernel_rfl) ?_ _
   refine NoPanic.normal ?_
   clear hHeld HMK213
   clear HSE HLE HB HQ
   obtain ⟨Qc0, Qf0, Qc1, Qf1, Qc2, Qf2, Qc3, Qf3, Qc4, Qf4, Qc5, Qf5⟩ := cf6 HQ224.out
   go_wp2_with fail
   go_ret
   exact ⟨by rw [e.out]; rfl, HK225⟩
 ·skip
  have HSE : Hid (∀ w, Calls Tryz.prog 156 #[.int .i64 5] w fun e w' => e = .returned (.bool true) ∧ Hid (KF w w')) := fun w => by
   go_enter Tryz.func156, Tryz.ntmps156
   go_wp2_with fail
   go_ret
   exact ⟨rfl, Keeps.refl _ _⟩
  have HLE : Hid (∀ w, Calls Tryz.prog 157 #[.int .i64 5] w fun e w' => e = .returned (.int .i64 (-1)) ∧ Hid (KF w w')) := fun w => by
   go_enter Tryz.func157, Tryz.ntmps157
   go_wp2_with fail
   go_ret
   exact ⟨rfl, Keeps.refl _ _⟩
  by_cases hb : (b1, b2) = noRol
  case pos =>
   have HQ : ∀ w, (binOp .neq 28 (.agg #[.string ⟨#[]⟩, .string ⟨#[]⟩]) (.agg #[.string ⟨#[]⟩, .string ⟨#[]⟩])).run Tryz.prog w = .ok (.bool false) w := fun w => by
    have q := rol_neq noRol noRol w
    rw [decide_eq_true rfl] at q
    exact q
   have hbb : bB = roleB (b1, b2) := HBE.out
   rw [hb, roleB_no] at hbb
   unfold noRol at hb
   simp only [Prod.mk.injEq] at hb
   obtain ⟨rfl, rfl⟩ := hb
   have e : Hid (R = false) := show R = false by rw [HD1.out, hbb]; rfl
   clear hbb
   obtain ⟨Qc0, Qf0, Qc1, Qf1, Qc2, Qf2, Qc3, Qf3, Qc4, Qf4, Qc5, Qf5⟩ := cf6 HQ5.out
   go_upto_region 3 with fail
   clear Qc0 Qf0 Qc1 Qf1 Qc2 Qf2 Qc3 Qf3 Qc4 Qf4 Qc5 Qf5
   have HMK239 : Hid (∀ w' : World, w'.heap[SB]? = some (.cells #[.int .i64 5, .string ⟨a1.toArray⟩, .string ⟨a2.toArray⟩, .string ⟨#[]⟩, .string ⟨#[]⟩, .slice ao n cap] 31) → w'.cell? ⟨SB, 0, none⟩ = some (.int .i64 5) ∧ w'.cell? ⟨SB, 1, none⟩ = some (.string ⟨a1.toArray⟩) ∧ w'.cell? ⟨SB, 2, none⟩ = some (.string ⟨a2.toArray⟩) ∧ w'.cell? ⟨SB, 3, none⟩ = some (.string ⟨#[]⟩) ∧ w'.cell? ⟨SB, 4, none⟩ = some (.string ⟨#[]⟩) ∧ w'.cell? ⟨SB, 5, none⟩ = some (.slice ao n cap) ∧ Hid (w'.heap[SB]? = some (.cells #[.int .i64 5, .string ⟨a1.toArray⟩, .string ⟨a2.toArray⟩, .string ⟨#[]⟩, .string ⟨#[]⟩, .slice ao n cap] 31))) := fun w' h0 => ⟨(by rw [cell_of_heap h0]; rfl), (by rw [cell_of_heap h0]; rfl), (by rw [cell_of_heap h0]; rfl), (by rw [cell_of_heap h0]; rfl), (by rw [cell_of_heap h0]; rfl), (by rw [cell_of_heap h0]; rfl), Lib.hid h0⟩
   have hkd : KF w4 w4.drew := (Keeps.refl _ _).drew
   have HQ240 := Lib.hid (((hkd).block _ (lt_of_heap HQ5.out) (fun x => x)).trans HQ5.out)
   have HK241 := Lib.hid (HK6.out.drew)
   have hS0 := HMK239.out w4.drew HQ240.out
   clear hkd HQ5 HK6
   refine wp_region_noPanic ?_
   refine wp_region_held_drew (S := (fun w' => w'.cell? ⟨SB, 0, none⟩ = some (.int .i64 5) ∧ w'.cell? ⟨SB, 1, none⟩ = some (.string ⟨a1.toArray⟩) ∧ w'.cell? ⟨SB, 2, none⟩ = some (.string ⟨a2.toArray⟩) ∧ w'.cell? ⟨SB, 3, none⟩ = some (.string ⟨#[]⟩) ∧ w'.cell? ⟨SB, 4, none⟩ = some (.string ⟨#[]⟩) ∧ w'.cell? ⟨SB, 5, none⟩ = some (.slice ao n cap) ∧ Hid (w'.heap[SB]? = some (.cells #[.int .i64 5, .string ⟨a1.toArray⟩, .string ⟨a2.toArray⟩, .string ⟨#[]⟩, .string ⟨#[]⟩, .slice ao n cap] 31)))) (by kernel_rfl) hS0 (fun hHeld => ?_)
   clear hS0
   generalize w4.drew = w242 at *
   refine tk 0 rfl hHeld ?_
   refine tk 1 rfl hHeld ?_
   refine tk 3 rfl hHeld ?_
   (try simp only [nz])
   refine tk 4 rfl hHeld ?_
   refine tk 5 rfl hHeld ?_
   refine tk 6 rfl hHeld ?_
   (try simp only [nz])
   refine on1 2 rfl fun KK hK => ?_
   go_simp
   refine (HSE.out _).mono ?_
   rintro e w249 ⟨rfl, hk⟩
   have HQ250 := Lib.hid (((hk.out).block _ (lt_of_heap HQ240.out) (fun x => x)).trans HQ240.out)
   have HK251 := Lib.hid (HK241.out.trans hk.out)
   clear hk  HQ240 HK241
   go_simp
   refine hK.out _ _ (HMK239.out _ HQ250.out) fun hHeld => ?_
   clear hK KK
   (try simp only [nz])
   refine on1 7 rfl fun KK hK => ?_
   go_simp
   refine hK.out _ _ (HMK239.out _ HQ250.out) fun hHeld => ?_
   clear hK KK
   (try simp only [nz])
   refine on1 8 rfl fun KK hK => ?_
   go_simp
   refine hK.out _ _ (HMK239.out _ HQ250.out) fun hHeld => ?_
   clear hK KK
   (try simp only [nz])
   refine on1 9 rfl fun KK hK => ?_
   go_simp
   refine hK.out _ _ (HMK239.out _ HQ250.out) fun hHeld => ?_
   clear hK KK
   (try simp only [nz])
   refine on1 10 rfl fun KK hK => ?_
   go_simp
   refine hK.out _ _ (HMK239.out _ HQ250.out) fun hHeld => ?_
   clear hK KK
   (try simp only [nz])
   refine on1 11 rfl fun KK hK => ?_
   go_simp
   refine hK.out _ _ (HMK239.out _ HQ250.out) fun hHeld => ?_
   clear hK KK
   (try simp only [nz])
   refine on1 12 rfl fun KK hK => ?_
   go_simp
   refine hK.out _ _ (HMK239.out _ HQ250.out) fun hHeld => ?_
   clear hK KK
   (try simp only [nz])
   refine on1 13 rfl fun KK hK => ?_
   go_simp
   refine hK.out _ _ (HMK239.out _ HQ250.out) fun hHeld => ?_
   clear hK KK
   (try simp only [nz])
   refine on1 14 rfl fun KK hK => ?_
   go_simp
   refine hK.out _ _ (HMK239.out _ HQ250.out) fun hHeld => ?_
   clear hK KK
   (try simp only [nz])
   refine on1 15 rfl fun KK hK => ?_
   go_simp
   refine hK.out _ _ (HMK239.out _ HQ250.out) fun hHeld => ?_
   clear hK KK
   (try simp only [nz])
   refine on1 16 rfl fun KK hK => ?_
   go_simp
   refine hK.out _ _ (HMK239.out _ HQ250.out) fun hHeld => ?_
   clear hK KK
   (try simp only [nz])
   refine on1 17 rfl fun KK hK => ?_
   go_simp
   refine hK.out _ _ (HMK239.out _ HQ250.out) fun hHeld => ?_
   clear hK KK
   (try simp only [nz])
   refine on1 18 rfl fun KK hK => ?_
   go_simp
   refine hK.out _ _ (HMK239.out _ HQ250.out) fun hHeld => ?_
   clear hK KK
   (try simp only [nz])
   refine wpAnyH_done (by kernel_rfl) ?_ _
   refine NoPanic.normal ?_
   clear hHeld HMK239
   clear HSE HLE HB HQ
   obtain ⟨Qc0, Qf0, Qc1, Qf1, Qc2, Qf2, Qc3, Qf3, Qc4, Qf4, Qc5, Qf5⟩ := cf6 HQ250.out
   go_wp2_with fail
   go_ret
   exact ⟨by rw [e.out]; rfl, HK251⟩
  case neg =>
   have HQ : ∀ w, (binOp .neq 28 (.agg #[.string ⟨b1.toArray⟩, .string ⟨b2.toArray⟩]) (.agg #[.string ⟨#[]⟩, .string ⟨#[]⟩])).run Tryz.prog w = .ok (.bool true) w := fun w => rol_neq_true hb w
   have HR2 : Hid (R = (bB && decide (n = 0))) := show R = _ by rw [HD1.out]; rfl
   clear HD1
   obtain ⟨Qc0, Qf0, Qc1, Qf1, Qc2, Qf2, Qc3, Qf3, Qc4, Qf4, Qc5, Qf5⟩ := cf6 HQ5.out
   go_upto_region 3 with fail
   clear Qc0 Qf0 Qc1 Qf1 Qc2 Qf2 Qc3 Qf3 Qc4 Qf4 Qc5 Qf5
   have HMK265 : Hid (∀ w' : World, w'.heap[SB]? = some (bQ 5 a1 a2 b1 b2 ao n cap) → w'.cell? ⟨SB, 0, none⟩ = some (.int .i64 5) ∧ w'.cell? ⟨SB, 1, none⟩ = some (.string ⟨a1.toArray⟩) ∧ w'.cell? ⟨SB, 2, none⟩ = some (.string ⟨a2.toArray⟩) ∧ w'.cell? ⟨SB, 3, none⟩ = some (.string ⟨b1.toArray⟩) ∧ w'.cell? ⟨SB, 4, none⟩ = some (.string ⟨b2.toArray⟩) ∧ w'.cell? ⟨SB, 5, none⟩ = some (.slice ao n cap) ∧ Hid (w'.heap[SB]? = some (bQ 5 a1 a2 b1 b2 ao n cap))) := fun w' h0 => ⟨(by rw [cell_of_heap h0]; rfl), (by rw [cell_of_heap h0]; rfl), (by rw [cell_of_heap h0]; rfl), (by rw [cell_of_heap h0]; rfl), (by rw [cell_of_heap h0]; rfl), (by rw [cell_of_heap h0]; rfl), Lib.hid h0⟩
   have hkd : KF w4 w4.drew := (Keeps.refl _ _).drew
   have HQ266 := Lib.hid (((hkd).block _ (lt_of_heap HQ5.out) (fun x => x)).trans HQ5.out)
   have HK267 := Lib.hid (HK6.out.drew)
   have hS0 := HMK265.out w4.drew HQ266.out
   clear hkd HQ5 HK6
   refine wp_region_noPanic ?_
   refine wp_region_held_drew (S := (fun w' => w'.cell? ⟨SB, 0, none⟩ = some (.int .i64 5) ∧ w'.cell? ⟨SB, 1, none⟩ = some (.string ⟨a1.toArray⟩) ∧ w'.cell? ⟨SB, 2, none⟩ = some (.string ⟨a2.toArray⟩) ∧ w'.cell? ⟨SB, 3, none⟩ = some (.string ⟨b1.toArray⟩) ∧ w'.cell? ⟨SB, 4, none⟩ = some (.string ⟨b2.toArray⟩) ∧ w'.cell? ⟨SB, 5, none⟩ = some (.slice ao n cap) ∧ Hid (w'.heap[SB]? = some (bQ 5 a1 a2 b1 b2 ao n cap)))) (by kernel_rfl) hS0 (fun hHeld => ?_)
   clear hS0
   generalize w4.drew = w268 at *
   refine tk 0 rfl hHeld ?_
   refine tk 1 rfl hHeld ?_
   refine tk 3 rfl hHeld ?_
   (try simp only [nz])
   refine tk 4 rfl hHeld ?_
   refine tk 5 rfl hHeld ?_
   refine tk 6 rfl hHeld ?_
   (try simp only [nz])
   refine on1 2 rfl fun KK hK => ?_
   go_simp
   refine (HSE.out _).mono ?_
   rintro e w275 ⟨rfl, hk⟩
   have HQ276 := Lib.hid (((hk.out).block _ (lt_of_heap HQ266.out) (fun x => x)).trans HQ266.out)
   have HK277 := Lib.hid (HK267.out.trans hk.out)
   clear hk  HQ266 HK267
   go_simp
   refine hK.out _ _ (HMK265.out _ HQ276.out) fun hHeld => ?_
   clear hK KK
   (try simp only [nz])
   refine on1 7 rfl fun KK hK => ?_
   go_simp
   refine hK.out _ _ (HMK265.out _ HQ276.out) fun hHeld => ?_
   clear hK KK
   (try simp only [nz])
   refine on1 8 rfl fun KK hK => ?_
   go_simp
   refine hK.out _ _ (HMK265.out _ HQ276.out) fun hHeld => ?_
   clear hK KK
   refine tk 9 rfl hHeld ?_
   refine tk 10 rfl hHeld ?_
   (try simp only [nz])
   refine on1 11 rfl fun KK hK => ?_
   go_simp
   refine (HSE.out _).mono ?_
   rintro e w283 ⟨rfl, hk⟩
   have HQ284 := Lib.hid (((hk.out).block _ (lt_of_heap HQ276.out) (fun x => x)).trans HQ276.out)
   have HK285 := Lib.hid (HK277.out.trans hk.out)
   clear hk HSE HQ276 HK277
   go_simp
   refine hK.out _ _ (HMK265.out _ HQ284.out) fun hHeld => ?_
   clear hK KK
   (try simp only [nz])
   refine on1 12 rfl fun KK hK => ?_
   go_simp
   refine hK.out _ _ (HMK265.out _ HQ284.out) fun hHeld => ?_
   clear hK KK
   refine tk 13 rfl hHeld ?_
   refine tk 14 rfl hHeld ?_
   (try simp only [nz])
   refine on1 15 rfl fun KK hK => ?_
   go_simp
   refine (HB.out _).mono ?_
   rintro e w290 ⟨rfl, hk⟩
   have HQ291 := Lib.hid (((hk.out).block _ (lt_of_heap HQ284.out) (fun x => x)).trans HQ284.out)
   have HK292 := Lib.hid (HK285.out.trans hk.out)
   clear hk HB HQ284 HK285
   go_simp
   refine hK.out _ _ (HMK265.out _ HQ291.out) fun hHeld => ?_
   clear hK KK
   (try simp only [nz])
   cases bB
   case false =>
    refine on1 16 rfl fun KK hK => ?_
    go_simp
    refine hK.out _ _ (HMK265.out _ HQ291.out) fun hHeld => ?_
    clear hK KK
    (try simp only [nz])
    refine on1 17 rfl fun KK hK => ?_
    go_simp
    refine hK.out _ _ (HMK265.out _ HQ291.out) fun hHeld => ?_
    clear hK KK
    (try simp only [nz])
    refine on1 18 rfl fun KK hK => ?_
    go_simp
    refine hK.out _ _ (HMK265.out _ HQ291.out) fun hHeld => ?_
    clear hK KK
    (try simp only [nz])
    refine wpAnyH_done (by kernel_rfl) ?_ _
    refine NoPanic.normal ?_
    clear hHeld HMK265
    clear HLE HQ
    obtain ⟨Qc0, Qf0, Qc1, Qf1, Qc2, Qf2, Qc3, Qf3, Qc4, Qf4, Qc5, Qf5⟩ := cf6 HQ291.out
    have e : Hid (R = false) := show R = false by rw [HR2.out]; rfl
    go_wp2_with fail
    go_ret
    exact ⟨by rw [e.out]; rfl, HK292⟩
   case true =>
    refine on1 16 rfl fun KK hK => ?_
    go_simp
    refine hK.out _ _ (HMK265.out _ HQ291.out) fun hHeld => ?_
    clear hK KK
    (try simp only [nz])
    refine on1 17 rfl fun KK hK => ?_
    go_simp
    refine hK.out _ _ (HMK265.out _ HQ291.out) fun hHeld => ?_
    clear hK KK
    (try simp only [nz])
    refine on1 18 rfl fun KK hK => ?_
    go_simp
    refine hK.out _ _ (HMK265.out _ HQ291.out) fun hHeld => ?_
    clear hK KK
    (try simp only [nz])
    refine wpAnyH_done (by kernel_rfl) ?_ _
    refine NoPanic.normal ?_
    clear hHeld HMK265
    clear HQ
    have HR2 : Hid (R = decide (n = 0)) := show R = _ by rw [HR2.out, Bool.true_and]
    obtain ⟨Qc0, Qf0, Qc1, Qf1, Qc2, Qf2, Qc3, Qf3, Qc4, Qf4, Qc5, Qf5⟩ := cf6 HQ291.out
    go_upto_region 5 with fail
    clear Qc0 Qf0 Qc1 Qf1 Qc2 Qf2 Qc3 Qf3 Qc4 Qf4 Qc5 Qf5
    obtain ⟨Qc0, Qf0, Qc1, Qf1, Qc2, Qf2, Qc3, Qf3, Qc4, Qf4, Qc5, Qf5⟩ := cf6 HQ291.out
    go_wp2_with fail
    refine (HLE.out _).mono ?_
    rintro e w300 ⟨rfl, hk⟩
    have HQ301 := Lib.hid (((hk.out).block _ (lt_of_heap HQ291.out) (fun x => x)).trans HQ291.out)
    have HK302 := Lib.hid (HK292.out.trans hk.out)
    clear Qc0 Qf0 Qc1 Qf1 Qc2 Qf2 Qc3 Qf3 Qc4 Qf4 Qc5 Qf5
    clear hk HQ291 HK292
    clear HLE
    by_cases hz : n = 0
    case pos =>
     subst hz
     obtain ⟨Qc0, Qf0, Qc1, Qf1, Qc2, Qf2, Qc3, Qf3, Qc4, Qf4, Qc5, Qf5⟩ := cf6 HQ301.out
     have e : Hid (R = true) := show R = true by rw [HR2.out]; rfl
     go_wp2_with fail
     go_ret
     exact ⟨by rw [e.out]; rfl, HK302⟩
    case neg =>
     have hzI : ¬ (n : Int) = 0 := by omega
     have hzb : ((n : Int) == 0) = false := beq_eq_false_iff_ne.2 hzI
     obtain ⟨Qc0, Qf0, Qc1, Qf1, Qc2, Qf2, Qc3, Qf3, Qc4, Qf4, Qc5, Qf5⟩ := cf6 HQ301.out
     have e : Hid (R = false) := show R = false by rw [HR2.out, decide_eq_false hz]
     go_wp2_with fail
     go_ret
     exact ⟨by rw [e.out]; rfl, HK302⟩
 ·skip
  have HSE : Hid (∀ w, Calls Tryz.prog 156 #[.int .i64 6] w fun e w' => e = .returned (.bool true) ∧ Hid (KF w w')) := fun w => by
   go_enter Tryz.func156, Tryz.ntmps156
   go_wp2_with fail
   go_ret
   exact ⟨rfl, Keeps.refl _ _⟩
  have HLE : Hid (∀ w, Calls Tryz.prog 157 #[.int .i64 6] w fun e w' => e = .returned (.int .i64 (-1)) ∧ Hid (KF w w')) := fun w => by
   go_enter Tryz.func157, Tryz.ntmps157
   go_wp2_with fail
   go_ret
   exact ⟨rfl, Keeps.refl _ _⟩
  by_cases hb : (b1, b2) = noRol
  case pos =>
   have HQ : ∀ w, (binOp .neq 28 (.agg #[.string ⟨#[]⟩, .string ⟨#[]⟩]) (.agg #[.string ⟨#[]⟩, .string ⟨#[]⟩])).run Tryz.prog w = .ok (.bool false) w := fun w => by
    have q := rol_neq noRol noRol w
    rw [decide_eq_true rfl] at q
    exact q
   have hbb : bB = roleB (b1, b2) := HBE.out
   rw [hb, roleB_no] at hbb
   unfold noRol at hb
   simp only [Prod.mk.injEq] at hb
   obtain ⟨rfl, rfl⟩ := hb
   have e : Hid (R = false) := show R = false by rw [HD1.out, hbb]; rfl
   clear hbb
   obtain ⟨Qc0, Qf0, Qc1, Qf1, Qc2, Qf2, Qc3, Qf3, Qc4, Qf4, Qc5, Qf5⟩ := cf6 HQ5.out
   go_upto_region 3 with fail
   clear Qc0 Qf0 Qc1 Qf1 Qc2 Qf2 Qc3 Qf3 Qc4 Qf4 Qc5 Qf5
   have HMK303 : Hid (∀ w' : World, w'.heap[SB]? = some (.cells #[.int .i64 6, .string ⟨a1.toArray⟩, .string ⟨a2.toArray⟩, .string ⟨#[]⟩, .string ⟨#[]⟩, .slice ao n cap] 31) → w'.cell? ⟨SB, 0, none⟩ = some (.int .i64 6) ∧ w'.cell? ⟨SB, 1, none⟩ = some (.string ⟨a1.toArray⟩) ∧ w'.cell? ⟨SB, 2, none⟩ = some (.string ⟨a2.toArray⟩) ∧ w'.cell? ⟨SB, 3, none⟩ = some (.string ⟨#[]⟩) ∧ w'.cell? ⟨SB, 4, none⟩ = some (.string ⟨#[]⟩) ∧ w'.cell? ⟨SB, 5, none⟩ = some (.slice ao n cap) ∧ Hid (w'.heap[SB]? = some (.cells #[.int .i64 6, .string ⟨a1.toArray⟩, .string ⟨a2.toArray⟩, .string ⟨#[]⟩, .string ⟨#[]⟩, .slice ao n cap] 31))) := fun w' h0 => ⟨(by rw [cell_of_heap h0]; rfl), (by rw [cell_of_heap h0]; rfl), (by rw [cell_of_heap h0]; rfl), (by rw [cell_of_heap h0]; rfl), (by rw [cell_of_heap h0]; rfl), (by rw [cell_of_heap h0]; rfl), Lib.hid h0⟩
   have hkd : KF w4 w4.drew := (Keeps.refl _ _).drew
   have HQ304 := Lib.hid (((hkd).block _ (lt_of_heap HQ5.out) (fun x => x)).trans HQ5.out)
   have HK305 := Lib.hid (HK6.out.drew)
   have hS0 := HMK303.out w4.drew HQ304.out
   clear hkd HQ5 HK6
   refine wp_region_noPanic ?_
   refine wp_region_held_drew (S := (fun w' => w'.cell? ⟨SB, 0, none⟩ = some (.int .i64 6) ∧ w'.cell? ⟨SB, 1, none⟩ = some (.string ⟨a1.toArray⟩) ∧ w'.cell? ⟨SB, 2, none⟩ = some (.string ⟨a2.toArray⟩) ∧ w'.cell? ⟨SB, 3, none⟩ = some (.string ⟨#[]⟩) ∧ w'.cell? ⟨SB, 4, none⟩ = some (.string ⟨#[]⟩) ∧ w'.cell? ⟨SB, 5, none⟩ = some (.slice ao n cap) ∧ Hid (w'.heap[SB]? = some (.cells #[.int .i64 6, .string ⟨a1.toArray⟩, .string ⟨a2.toArray⟩, .string ⟨#[]⟩, .string ⟨#[]⟩, .slice ao n cap] 31)))) (by kernel_rfl) hS0 (fun hHeld => ?_)
   clear hS0
   generalize w4.drew = w306 at *
   refine tk 0 rfl hHeld ?_
   refine tk 1 rfl hHeld ?_
   refine tk 3 rfl hHeld ?_
   (try simp only [nz])
   refine tk 4 rfl hHeld ?_
   refine tk 5 rfl hHeld ?_
   refine tk 6 rfl hHeld ?_
   (try simp only [nz])
   refine on1 2 rfl fun KK hK => ?_
   go_simp
   refine (HSE.out _).mono ?_
   rintro e w313 ⟨rfl, hk⟩
   have HQ314 := Lib.hid (((hk.out).block _ (lt_of_heap HQ304.out) (fun x => x)).trans HQ304.out)
   have HK315 := Lib.hid (HK305.out.trans hk.out)
   clear hk  HQ304 HK305
   go_simp
   refine hK.out _ _ (HMK303.out _ HQ314.out) fun hHeld => ?_
   clear hK KK
   (try simp only [nz])
   refine on1 7 rfl fun KK hK => ?_
   go_simp
   refine hK.out _ _ (HMK303.out _ HQ314.out) fun hHeld => ?_
   clear hK KK
   (try simp only [nz])
   refine on1 8 rfl fun KK hK => ?_
   go_simp
   refine hK.out _ _ (HMK303.out _ HQ314.out) fun hHeld => ?_
   clear hK KK
   (try simp only [nz])
   refine on1 9 rfl fun KK hK => ?_
   go_simp
   refine hK.out _ _ (HMK303.out _ HQ314.out) fun hHeld => ?_
   clear hK KK
   (try simp only [nz])
   refine on1 10 rfl fun KK hK => ?_
   go_simp
   refine hK.out _ _ (HMK303.out _ HQ314.out) fun hHeld => ?_
   clear hK KK
   (try simp only [nz])
   refine on1 11 rfl fun KK hK => ?_
   go_simp
   refine hK.out _ _ (HMK303.out _ HQ314.out) fun hHeld => ?_
   clear hK KK
   (try simp only [nz])
   refine on1 12 rfl fun KK hK => ?_
   go_simp
   refine hK.out _ _ (HMK303.out _ HQ314.out) fun hHeld => ?_
   clear hK KK
   (try simp only [nz])
   refine on1 13 rfl fun KK hK => ?_
   go_simp
   refine hK.out _ _ (HMK303.out _ HQ314.out) fun hHeld => ?_
   clear hK KK
   (try simp only [nz])
   refine on1 14 rfl fun KK hK => ?_
   go_simp
   refine hK.out _ _ (HMK303.out _ HQ314.out) fun hHeld => ?_
   clear hK KK
   (try simp only [nz])
   refine on1 15 rfl fun KK hK => ?_
   go_simp
   refine hK.out _ _ (HMK303.out _ HQ314.out) fun hHeld => ?_
   clear hK KK
   (try simp only [nz])
   refine on1 16 rfl fun KK hK => ?_
   go_simp
   refine hK.out _ _ (HMK303.out _ HQ314.out) fun hHeld => ?_
   clear hK KK
   (try simp only [nz])
   refine on1 17 rfl fun KK hK => ?_
   go_simp
   refine hK.out _ _ (HMK303.out _ HQ314.out) fun hHeld => ?_
   clear hK KK
   (try simp only [nz])
   refine on1 18 rfl fun KK hK => ?_
   go_simp
   refine hK.out _ _ (HMK303.out _ HQ314.out) fun hHeld => ?_
   clear hK KK
   (try simp only [nz])
   refine wpAnyH_done (by kernel_rfl) ?_ _
   refine NoPanic.normal ?_
   clear hHeld HMK303
   clear HSE HLE HB HQ
   obtain ⟨Qc0, Qf0, Qc1, Qf1, Qc2, Qf2, Qc3, Qf3, Qc4, Qf4, Qc5, Qf5⟩ := cf6 HQ314.out
   go_wp2_with fail
   go_ret
   exact ⟨by rw [e.out]; rfl, HK315⟩
  case neg =>
   have HQ : ∀ w, (binOp .neq 28 (.agg #[.string ⟨b1.toArray⟩, .string ⟨b2.toArray⟩]) (.agg #[.string ⟨#[]⟩, .string ⟨#[]⟩])).run Tryz.prog w = .ok (.bool true) w := fun w => rol_neq_true hb w
   have HR2 : Hid (R = (bB && decide (n = 0))) := show R = _ by rw [HD1.out]; rfl
   clear HD1
   obtain ⟨Qc0, Qf0, Qc1, Qf1, Qc2, Qf2, Qc3, Qf3, Qc4, Qf4, Qc5, Qf5⟩ := cf6 HQ5.out
   go_upto_region 3 with fail
   clear Qc0 Qf0 Qc1 Qf1 Qc2 Qf2 Qc3 Qf3 Qc4 Qf4 Qc5 Qf5
   have HMK329 : Hid (∀ w' : World, w'.heap[SB]? = some (bQ 6 a1 a2 b1 b2 ao n cap) → w'.cell? ⟨SB, 0, none⟩ = some (.int .i64 6) ∧ w'.cell? ⟨SB, 1, none⟩ = some (.string ⟨a1.toArray⟩) ∧ w'.cell? ⟨SB, 2, none⟩ = some (.string ⟨a2.toArray⟩) ∧ w'.cell? ⟨SB, 3, none⟩ = some (.string ⟨b1.toArray⟩) ∧ w'.cell? ⟨SB, 4, none⟩ = some (.string ⟨b2.toArray⟩) ∧ w'.cell? ⟨SB, 5, none⟩ = some (.slice ao n cap) ∧ Hid (w'.heap[SB]? = some (bQ 6 a1 a2 b1 b2 ao n cap))) := fun w' h0 => ⟨(by rw [cell_of_heap h0]; rfl), (by rw [cell_of_heap h0]; rfl), (by rw [cell_of_heap h0]; rfl), (by rw [cell_of_heap h0]; rfl), (by rw [cell_of_heap h0]; rfl), (by rw [cell_of_heap h0]; rfl), Lib.hid h0⟩
   have hkd : KF w4 w4.drew := (Keeps.refl _ _).drew
   have HQ330 := Lib.hid (((hkd).block _ (lt_of_heap HQ5.out) (fun x => x)).trans HQ5.out)
   have HK331 := Lib.hid (HK6.out.drew)
   have hS0 := HMK329.out w4.drew HQ330.out
   clear hkd HQ5 HK6
   refine wp_region_noPanic ?_
   refine wp_region_held_drew (S := (fun w' => w'.cell? ⟨SB, 0, none⟩ = some (.int .i64 6) ∧ w'.cell? ⟨SB, 1, none⟩ = some (.string ⟨a1.toArray⟩) ∧ w'.cell? ⟨SB, 2, none⟩ = some (.string ⟨a2.toArray⟩) ∧ w'.cell? ⟨SB, 3, none⟩ = some (.string ⟨b1.toArray⟩) ∧ w'.cell? ⟨SB, 4, none⟩ = some (.string ⟨b2.toArray⟩) ∧ w'.cell? ⟨SB, 5, none⟩ = some (.slice ao n cap) ∧ Hid (w'.heap[SB]? = some (bQ 6 a1 a2 b1 b2 ao n cap)))) (by kernel_rfl) hS0 (fun hHeld => ?_)
   clear hS0
   generalize w4.drew = w332 at *
   refine tk 0 rfl hHeld ?_
   refine tk 1 rfl hHeld ?_
   refine tk 3 rfl hHeld ?_
   (try simp only [nz])
   refine tk 4 rfl hHeld ?_
   refine tk 5 rfl hHeld ?_
   refine tk 6 rfl hHeld ?_
   (try simp only [nz])
   refine on1 2 rfl fun KK hK => ?_
   go_simp
   refine (HSE.out _).mono ?_
   rintro e w339 ⟨rfl, hk⟩
   have HQ340 := Lib.hid (((hk.out).block _ (lt_of_heap HQ330.out) (fun x => x)).trans HQ330.out)
   have HK341 := Lib.hid (HK331.out.trans hk.out)
   clear hk  HQ330 HK331
   go_simp
   refine hK.out _ _ (HMK329.out _ HQ340.out) fun hHeld => ?_
   clear hK KK
   (try simp only [nz])
   refine on1 7 rfl fun KK hK => ?_
   go_simp
   refine hK.out _ _ (HMK329.out _ HQ340.out) fun hHeld => ?_
   clear hK KK
   (try simp only [nz])
   refine on1 8 rfl fun KK hK => ?_
   go_simp
   refine hK.out _ _ (HMK329.out _ HQ340.out) fun hHeld => ?_
   clear hK KK
   refine tk 9 rfl hHeld ?_
   refine tk 10 rfl hHeld ?_
   (try simp only [nz])
   refine on1 11 rfl fun KK hK => ?_
   go_simp
   refine (HSE.out _).mono ?_
   rintro e w347 ⟨rfl, hk⟩
   have HQ348 := Lib.hid (((hk.out).block _ (lt_of_heap HQ340.out) (fun x => x)).trans HQ340.out)
   have HK349 := Lib.hid (HK341.out.trans hk.out)
   clear hk HSE HQ340 HK341
   go_simp
   refine hK.out _ _ (HMK329.out _ HQ348.out) fun hHeld => ?_
   clear hK KK
   (try simp only [nz])
   refine on1 12 rfl fun KK hK => ?_
   go_simp
   refine hK.out _ _ (HMK329.out _ HQ348.out) fun hHeld => ?_
   clear hK KK
   refine tk 13 rfl hHeld ?_
   refine tk 14 rfl hHeld ?_
   (try simp only [nz])
   refine on1 15 rfl fun KK hK => ?_
   go_simp
   refine (HB.out _).mono ?_
   rintro e w354 ⟨rfl, hk⟩
   have HQ355 := Lib.hid (((hk.out).block _ (lt_of_heap HQ348.out) (fun x => x)).trans HQ348.out)
   have HK356 := Lib.hid (HK349.out.trans hk.out)
   clear hk HB HQ348 HK349
   go_simp
   refine hK.out _ _ (HMK329.out _ HQ355.out) fun hHeld => ?_
   clear hK KK
   (try simp only [nz])
   cases bB
   case false =>
    refine on1 16 rfl fun KK hK => ?_
    go_simp
    refine hK.out _ _ (HMK329.out _ HQ355.out) fun hHeld => ?_
    clear hK KK
    (try simp only [nz])
    refine on1 17 rfl fun KK hK => ?_
    go_simp
    refine hK.out _ _ (HMK329.out _ HQ355.out) fun hHeld => ?_
    clear hK KK
    (try simp only [nz])
    refine on1 18 rfl fun KK hK => ?_
    go_simp
    refine hK.out _ _ (HMK329.out _ HQ355.out) fun hHeld => ?_
    clear hK KK
    (try simp only [nz])
    refine wpAnyH_done (by kernel_rfl) ?_ _
    refine NoPanic.normal ?_
    clear hHeld HMK329
    clear HLE HQ
    obtain ⟨Qc0, Qf0, Qc1, Qf1, Qc2, Qf2, Qc3, Qf3, Qc4, Qf4, Qc5, Qf5⟩ := cf6 HQ355.out
    have e : Hid (R = false) := show R = false by rw [HR2.out]; rfl
    go_wp2_with fail
    go_ret
    exact ⟨by rw [e.out]; rfl, HK356⟩
   case true =>
    refine on1 16 rfl fun KK hK => ?_
    go_simp
    refine hK.out _ _ (HMK329.out _ HQ355.out) fun hHeld => ?_
    clear hK KK
    (try simp only [nz])
    refine on1 17 rfl fun KK hK => ?_
    go_simp
    refine hK.out _ _ (HMK329.out _ HQ355.out) fun hHeld => ?_
    clear hK KK
    (try simp only [nz])
    refine on1 18 rfl fun KK hK => ?_
    go_simp
    refine hK.out _ _ (HMK329.out _ HQ355.out) fun hHeld => ?_
    clear hK KK
    (try simp only [nz])
    refine wpAnyH_done (by kernel_rfl) ?_ _
    refine NoPanic.normal ?_
    clear hHeld HMK329
    clear HQ
    have HR2 : Hid (R = decide (n = 0)) := show R = _ by rw [HR2.out, Bool.true_and]
    obtain ⟨Qc0, Qf0, Qc1, Qf1, Qc2, Qf2, Qc3, Qf3, Qc4, Qf4, Qc5, Qf5⟩ := cf6 HQ355.out
    go_upto_region 5 with fail
    clear Qc0 Qf0 Qc1 Qf1 Qc2 Qf2 Qc3 Qf3 Qc4 Qf4 Qc5 Qf5
    obtain ⟨Qc0, Qf0, Qc1, Qf1, Qc2, Qf2, Qc3, Qf3, Qc4, Qf4, Qc5, Qf5⟩ := cf6 HQ355.out
    go_wp2_with fail
    refine (HLE.out _).mono ?_
    rintro e w364 ⟨rfl, hk⟩
    have HQ365 := Lib.hid (((hk.out).block _ (lt_of_heap HQ355.out) (fun x => x)).trans HQ355.out)
    have HK366 := Lib.hid (HK356.out.trans hk.out)
    clear Qc0 Qf0 Qc1 Qf1 Qc2 Qf2 Qc3 Qf3 Qc4 Qf4 Qc5 Qf5
    clear hk HQ355 HK356
    clear HLE
    by_cases hz : n = 0
    case pos =>
     subst hz
     obtain ⟨Qc0, Qf0, Qc1, Qf1, Qc2, Qf2, Qc3, Qf3, Qc4, Qf4, Qc5, Qf5⟩ := cf6 HQ365.out
     have e : Hid (R = true) := show R = true by rw [HR2.out]; rfl
     go_wp2_with fail
     go_ret
     exact ⟨by rw [e.out]; rfl, HK366⟩
    case neg =>
     have hzI : ¬ (n : Int) = 0 := by omega
     have hzb : ((n : Int) == 0) = false := beq_eq_false_iff_ne.2 hzI
     obtain ⟨Qc0, Qf0, Qc1, Qf1, Qc2, Qf2, Qc3, Qf3, Qc4, Qf4, Qc5, Qf5⟩ := cf6 HQ365.out
     have e : Hid (R = false) := show R = false by rw [HR2.out, decide_eq_false hz]
     go_wp2_with fail
     go_ret
     exact ⟨by rw [e.out]; rfl, HK366⟩
end Go.Proofs.YtckikkkdabpjkaaGreat
