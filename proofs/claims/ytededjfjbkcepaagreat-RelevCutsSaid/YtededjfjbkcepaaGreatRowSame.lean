/-
 The document's Same of any rows of statements, of roles.
-/
import Derived.Test.YtededjfjbkcepaaGreatKitSq
import Derived.Test.YtededjfjbkcepaaGreatStmEql
set_option linter.unusedVariables false
set_option linter.unusedSimpArgs false
set_option linter.unnecessarySimpa false
namespace Go.Proofs.YtededjfjbkcepaaGreat
open Go.ChangeShapes Go.WideShapes Go.ChangeAt Go.RowKit Go.Deep
theorem len_ne {α : Type} {a b : List α} (h : a.length ≠ b.length) : a ≠ b := fun e => h (by rw [e])
theorem at_ne {α : Type} {a b : List α} {k : Nat} {x y : α} (hx : a[k]? = some x) (hy : b[k]? = some y) (h : x ≠ y) : a ≠ b := fun e => h (by rw [e, hy] at hx; exact (Option.some.inj hx).symm)
theorem take_eq_all {α : Type} {a b : List α} {n : Nat} (ha : a.length = n) (hb : b.length = n) (h : a.take n = b.take n) : a = b := by
 rw [List.take_of_length_le (by omega), List.take_of_length_le (by omega)] at h
 exact h
theorem take_more {α : Type} {a b : List α} {k : Nat} {x : α} (h : a.take k = b.take k) (hx : a[k]? = some x) (hy : b[k]? = some x) : a.take (k + 1) = b.take (k + 1) := by
 rw [List.take_add_one, List.take_add_one, h, hx, hy]
set_option maxRecDepth 100000
set_option maxHeartbeats 3200000
theorem rsame_all {w : World} {u v : Value} {a b : List Rol} (hu : RdK rolE w u a) (hv : RdK rolE w v b) (ha : a.length ≤ 1000000) :
 Calls Tryz.prog 26 #[u, v] w fun e w' => e = .returned (.bool (decide (a = b))) ∧ Hid (KF w w') := by
 obtain ⟨au, cu, rfl, hcu0, hru⟩ := hu
 obtain ⟨av, cv, rfl, hcv0, hrv⟩ := hv
 obtain ⟨R, hR⟩ : ∃ R, decide (a = b) = R := ⟨_, rfl⟩
 have HD : Hid (R = decide (a = b)) := hR.symm
 rw [hR]
 clear hR
 obtain ⟨n, hn⟩ : ∃ n, a.length = n := ⟨_, rfl⟩
 obtain ⟨m, hm⟩ : ∃ n, b.length = n := ⟨_, rfl⟩
 rw [hn] at hcu0 hru ha ⊢
 rw [hm] at hcv0 hrv ⊢
 have HN := Lib.hid hn
 have HM := Lib.hid hm
 by_cases hnm : n = m
 case neg =>
  have hI : ¬ (n : Int) = (m : Int) := by omega
  have hIb : ((n : Int) == (m : Int)) = false := beq_eq_false_iff_ne.2 hI
  have hIc : ((n : Int) != (m : Int)) = true := bne_iff_ne.2 hI
  have e : Hid (R = false) := show R = false by rw [HD.out, decide_eq_false (len_ne (by rw [HN.out, HM.out]; exact hnm))]
  have HK : Hid (KF w w) := Keeps.refl _ _
  clear hru hrv hn hm
  go_enter Tryz.func26, Tryz.ntmps26
  go_wp2_with fail
  go_ret
  exact ⟨by rw [e.out]; rfl, HK⟩
 subst hnm
 have HU : Hid (∀ W : World, KF w W → 0 < n → ∃ g off, au = some ⟨g, off, none⟩ ∧ ∀ (j : Nat) (x : Rol), a[j]? = some x → ∀ (i : Nat) (u : Value), (rolE.enc x)[i]? = some u → W.cell? ⟨g, off + j * 2 + i, none⟩ = some u) := fun W hk h0 => by
  obtain ⟨g, off, q1, q2, q3⟩ := hru h0
  exact ⟨g, off, q1, fun j x hj i u hu => (hk.cell (p := ⟨g, off + j * 2 + i, none⟩) q2 (fun x => x)).trans (q3 j x hj i u hu)⟩
 have HV : Hid (∀ W : World, KF w W → 0 < n → ∃ g off, av = some ⟨g, off, none⟩ ∧ ∀ (j : Nat) (x : Rol), b[j]? = some x → ∀ (i : Nat) (u : Value), (rolE.enc x)[i]? = some u → W.cell? ⟨g, off + j * 2 + i, none⟩ = some u) := fun W hk h0 => by
  obtain ⟨g, off, q1, q2, q3⟩ := hrv h0
  exact ⟨g, off, q1, fun j x hj i u hu => (hk.cell (p := ⟨g, off + j * 2 + i, none⟩) q2 (fun x => x)).trans (q3 j x hj i u hu)⟩
 clear hru hrv hn hm
 go_enter Tryz.func26, Tryz.ntmps26
 go_wp2_with fail
 go_loopg [13] n (fun g s wr => ∃ k nq : Nat, k ≤ n ∧ g = n - k ∧ s = .int .i64 k ∧ Hid (a.take k = b.take k) ∧ wr = w.drewN nq)
 case atStart => exact ⟨0, 0, Nat.zero_le _, rfl, rfl, rfl, rfl⟩
 case round =>
  obtain ⟨k, nq, hk, rfl, rfl, HT, rfl⟩ := hrel
  by_cases hlt : k < n
  ·obtain ⟨gu, ou, rfl, hcu⟩ := HU.out _ (Keeps.refl _ w) (by omega)
   obtain ⟨gv, ov, rfl, hcv⟩ := HV.out _ (Keeps.refl _ w) (by omega)
   obtain ⟨x, hx⟩ : ∃ x, a[k]? = some x := ⟨_, List.getElem?_eq_getElem (by rw [HN.out]; exact hlt)⟩
   obtain ⟨y, hy⟩ : ∃ x, b[k]? = some x := ⟨_, List.getElem?_eq_getElem (by rw [HM.out]; exact hlt)⟩
   have HX := Lib.hid hx
   have HY := Lib.hid hy
   obtain ⟨yr1, yr2⟩ := x
   obtain ⟨zr1, zr2⟩ := y
   have q0 : w.cell? ⟨gu, ou + k * 2, none⟩ = some (.string ⟨yr1.toArray⟩) := hcu k _ hx 0 _ rfl
   have p0 : w.cell? ⟨gv, ov + k * 2, none⟩ = some (.string ⟨zr1.toArray⟩) := hcv k _ hy 0 _ rfl
   have q1 : w.cell? ⟨gu, ou + k * 2 + 1, none⟩ = some (.string ⟨yr2.toArray⟩) := hcu k _ hx 1 _ rfl
   have p1 : w.cell? ⟨gv, ov + k * 2 + 1, none⟩ = some (.string ⟨zr2.toArray⟩) := hcv k _ hy 1 _ rfl
   have hkI : (k : Int) < (n : Int) := by omega
   have hwk : IntKind.i64.wrap ((k : Int) + 1) = (k : Int) + 1 := IntWalk.i64_in _ (by omega)
   have hku : k < cu := by omega
   have hkv : k < cv := by omega
   clear hcu hcv hx hy
   by_cases e : (((yr1, yr2) : Rol) = (zr1, zr2))
   ·simp only [Prod.mk.injEq] at e
    obtain ⟨rfl, rfl⟩ := e
    have HT2 := Lib.hid (take_more HT.out HX.out HY.out)
    clear HX HY
    go_wp2_with fail
    go_quiet (fail)
    go_wp2_with fail
    go_roundg (n - (k + 1))
    case measure => omega
    case rel => exact ⟨k + 1, _, by omega, rfl, by go_num, HT2, rfl⟩
   ·have HQ : ∀ w, (binOp .neq 28 (.agg #[.string ⟨yr1.toArray⟩, .string ⟨yr2.toArray⟩]) (.agg #[.string ⟨zr1.toArray⟩, .string ⟨zr2.toArray⟩])).run Tryz.prog w = .ok (.bool true) w := fun w => by
     have q := rol_neq (yr1, yr2) (zr1, zr2) w
     rw [decide_eq_false e] at q
     exact q
    have er : Hid (R = false) := show R = false by rw [HD.out, decide_eq_false (at_ne HX.out HY.out e)]
    clear e
    have HK : Hid (∀ q, KF w ((w.drewN nq).drewN q)) := fun q => ((Keeps.refl _ _).drewN nq).drewN q
    go_wp2_with fail
    go_quiet (fail)
    go_wp2_with fail
    go_ret
    exact ⟨by rw [er.out]; rfl, Lib.hid (HK.out _)⟩
  ·obtain rfl : k = n := by omega
   have hkI : ¬ (k : Int) < (k : Int) := by omega
   have er : Hid (R = true) := show R = true by rw [HD.out, decide_eq_true (take_eq_all HN.out HM.out HT.out)]
   have HK : Hid (KF w (w.drewN nq)) := (Keeps.refl _ _).drewN nq
   go_wp2_with fail
   go_ret
   exact ⟨by rw [er.out]; rfl, HK⟩
theorem msame_all {w : World} {u v : Value} {a b : List Stm} (hu : RdK stmE w u a) (hv : RdK stmE w v b) (ha : a.length ≤ 1000000) :
 Calls Tryz.prog 27 #[u, v] w fun e w' => e = .returned (.bool (decide (a = b))) ∧ Hid (KF w w') := by
 obtain ⟨au, cu, rfl, hcu0, hru⟩ := hu
 obtain ⟨av, cv, rfl, hcv0, hrv⟩ := hv
 obtain ⟨R, hR⟩ : ∃ R, decide (a = b) = R := ⟨_, rfl⟩
 have HD : Hid (R = decide (a = b)) := hR.symm
 rw [hR]
 clear hR
 obtain ⟨n, hn⟩ : ∃ n, a.length = n := ⟨_, rfl⟩
 obtain ⟨m, hm⟩ : ∃ n, b.length = n := ⟨_, rfl⟩
 rw [hn] at hcu0 hru ha ⊢
 rw [hm] at hcv0 hrv ⊢
 have HN := Lib.hid hn
 have HM := Lib.hid hm
 by_cases hnm : n = m
 case neg =>
  have hI : ¬ (n : Int) = (m : Int) := by omega
  have hIb : ((n : Int) == (m : Int)) = false := beq_eq_false_iff_ne.2 hI
  have hIc : ((n : Int) != (m : Int)) = true := bne_iff_ne.2 hI
  have e : Hid (R = false) := show R = false by rw [HD.out, decide_eq_false (len_ne (by rw [HN.out, HM.out]; exact hnm))]
  have HK : Hid (KF w w) := Keeps.refl _ _
  clear hru hrv hn hm
  go_enter Tryz.func27, Tryz.ntmps27
  go_wp2_with fail
  go_ret
  exact ⟨by rw [e.out]; rfl, HK⟩
 subst hnm
 have HU : Hid (∀ W : World, KF w W → 0 < n → ∃ g off, au = some ⟨g, off, none⟩ ∧ ∀ (j : Nat) (x : Stm), a[j]? = some x → ∀ (i : Nat) (u : Value), (stmE.enc x)[i]? = some u → W.cell? ⟨g, off + j * 9 + i, none⟩ = some u) := fun W hk h0 => by
  obtain ⟨g, off, q1, q2, q3⟩ := hru h0
  exact ⟨g, off, q1, fun j x hj i u hu => (hk.cell (p := ⟨g, off + j * 9 + i, none⟩) q2 (fun x => x)).trans (q3 j x hj i u hu)⟩
 have HV : Hid (∀ W : World, KF w W → 0 < n → ∃ g off, av = some ⟨g, off, none⟩ ∧ ∀ (j : Nat) (x : Stm), b[j]? = some x → ∀ (i : Nat) (u : Value), (stmE.enc x)[i]? = some u → W.cell? ⟨g, off + j * 9 + i, none⟩ = some u) := fun W hk h0 => by
  obtain ⟨g, off, q1, q2, q3⟩ := hrv h0
  exact ⟨g, off, q1, fun j x hj i u hu => (hk.cell (p := ⟨g, off + j * 9 + i, none⟩) q2 (fun x => x)).trans (q3 j x hj i u hu)⟩
 clear hru hrv hn hm
 go_enter Tryz.func27, Tryz.ntmps27
 go_wp2_with fail
 go_loopg [13] n (fun g s wr => ∃ k nq : Nat, k ≤ n ∧ g = n - k ∧ s = .int .i64 k ∧ Hid (a.take k = b.take k) ∧ wr = w.drewN nq)
 case atStart => exact ⟨0, 0, Nat.zero_le _, rfl, rfl, rfl, rfl⟩
 case round =>
  obtain ⟨k, nq, hk, rfl, rfl, HT, rfl⟩ := hrel
  by_cases hlt : k < n
  ·obtain ⟨gu, ou, rfl, hcu⟩ := HU.out _ (Keeps.refl _ w) (by omega)
   obtain ⟨gv, ov, rfl, hcv⟩ := HV.out _ (Keeps.refl _ w) (by omega)
   obtain ⟨x, hx⟩ : ∃ x, a[k]? = some x := ⟨_, List.getElem?_eq_getElem (by rw [HN.out]; exact hlt)⟩
   obtain ⟨y, hy⟩ : ∃ x, b[k]? = some x := ⟨_, List.getElem?_eq_getElem (by rw [HM.out]; exact hlt)⟩
   have HX := Lib.hid hx
   have HY := Lib.hid hy
   obtain ⟨⟨yh1, yh2⟩, yk, yo, ⟨ya1, ya2⟩, ⟨yb1, yb2⟩, yi⟩ := x
   obtain ⟨⟨zh1, zh2⟩, zk, zo, ⟨za1, za2⟩, ⟨zb1, zb2⟩, zi⟩ := y
   have q0 : w.cell? ⟨gu, ou + k * 9, none⟩ = some (.int .i64 yk) := hcu k _ hx 0 _ rfl
   have p0 : w.cell? ⟨gv, ov + k * 9, none⟩ = some (.int .i64 zk) := hcv k _ hy 0 _ rfl
   have q1 : w.cell? ⟨gu, ou + k * 9 + 1, none⟩ = some (.string ⟨yh1.toArray⟩) := hcu k _ hx 1 _ rfl
   have p1 : w.cell? ⟨gv, ov + k * 9 + 1, none⟩ = some (.string ⟨zh1.toArray⟩) := hcv k _ hy 1 _ rfl
   have q2 : w.cell? ⟨gu, ou + k * 9 + 2, none⟩ = some (.string ⟨yh2.toArray⟩) := hcu k _ hx 2 _ rfl
   have p2 : w.cell? ⟨gv, ov + k * 9 + 2, none⟩ = some (.string ⟨zh2.toArray⟩) := hcv k _ hy 2 _ rfl
   have q3 : w.cell? ⟨gu, ou + k * 9 + 3, none⟩ = some (.string ⟨yo.toArray⟩) := hcu k _ hx 3 _ rfl
   have p3 : w.cell? ⟨gv, ov + k * 9 + 3, none⟩ = some (.string ⟨zo.toArray⟩) := hcv k _ hy 3 _ rfl
   have q4 : w.cell? ⟨gu, ou + k * 9 + 4, none⟩ = some (.string ⟨ya1.toArray⟩) := hcu k _ hx 4 _ rfl
   have p4 : w.cell? ⟨gv, ov + k * 9 + 4, none⟩ = some (.string ⟨za1.toArray⟩) := hcv k _ hy 4 _ rfl
   have q5 : w.cell? ⟨gu, ou + k * 9 + 5, none⟩ = some (.string ⟨ya2.toArray⟩) := hcu k _ hx 5 _ rfl
   have p5 : w.cell? ⟨gv, ov + k * 9 + 5, none⟩ = some (.string ⟨za2.toArray⟩) := hcv k _ hy 5 _ rfl
   have q6 : w.cell? ⟨gu, ou + k * 9 + 6, none⟩ = some (.string ⟨yb1.toArray⟩) := hcu k _ hx 6 _ rfl
   have p6 : w.cell? ⟨gv, ov + k * 9 + 6, none⟩ = some (.string ⟨zb1.toArray⟩) := hcv k _ hy 6 _ rfl
   have q7 : w.cell? ⟨gu, ou + k * 9 + 7, none⟩ = some (.string ⟨yb2.toArray⟩) := hcu k _ hx 7 _ rfl
   have p7 : w.cell? ⟨gv, ov + k * 9 + 7, none⟩ = some (.string ⟨zb2.toArray⟩) := hcv k _ hy 7 _ rfl
   have q8 : w.cell? ⟨gu, ou + k * 9 + 8, none⟩ = some (.string ⟨yi.toArray⟩) := hcu k _ hx 8 _ rfl
   have p8 : w.cell? ⟨gv, ov + k * 9 + 8, none⟩ = some (.string ⟨zi.toArray⟩) := hcv k _ hy 8 _ rfl
   have hkI : (k : Int) < (n : Int) := by omega
   have hwk : IntKind.i64.wrap ((k : Int) + 1) = (k : Int) + 1 := IntWalk.i64_in _ (by omega)
   have hku : k < cu := by omega
   have hkv : k < cv := by omega
   clear hcu hcv hx hy
   by_cases e : ((((yh1, yh2), yk, yo, (ya1, ya2), (yb1, yb2), yi) : Stm) = ((zh1, zh2), zk, zo, (za1, za2), (zb1, zb2), zi))
   ·simp only [Prod.mk.injEq] at e
    obtain ⟨⟨rfl, rfl⟩, rfl, rfl, ⟨rfl, rfl⟩, ⟨rfl, rfl⟩, rfl⟩ := e
    have HT2 := Lib.hid (take_more HT.out HX.out HY.out)
    clear HX HY
    go_wp2_with fail
    go_quiet (fail)
    go_wp2_with fail
    go_roundg (n - (k + 1))
    case measure => omega
    case rel => exact ⟨k + 1, _, by omega, rfl, by go_num, HT2, rfl⟩
   ·have HQ : ∀ w, (binOp .neq 38 (.agg #[.int .i64 yk, .string ⟨yh1.toArray⟩, .string ⟨yh2.toArray⟩, .string ⟨yo.toArray⟩, .string ⟨ya1.toArray⟩, .string ⟨ya2.toArray⟩, .string ⟨yb1.toArray⟩, .string ⟨yb2.toArray⟩, .string ⟨yi.toArray⟩]) (.agg #[.int .i64 zk, .string ⟨zh1.toArray⟩, .string ⟨zh2.toArray⟩, .string ⟨zo.toArray⟩, .string ⟨za1.toArray⟩, .string ⟨za2.toArray⟩, .string ⟨zb1.toArray⟩, .string ⟨zb2.toArray⟩, .string ⟨zi.toArray⟩])).run Tryz.prog w = .ok (.bool true) w := fun w => by
     have q := stm_neq ((yh1, yh2), yk, yo, (ya1, ya2), (yb1, yb2), yi) ((zh1, zh2), zk, zo, (za1, za2), (zb1, zb2), zi) w
     rw [decide_eq_false e] at q
     exact q
    have er : Hid (R = false) := show R = false by rw [HD.out, decide_eq_false (at_ne HX.out HY.out e)]
    clear e
    have HK : Hid (∀ q, KF w ((w.drewN nq).drewN q)) := fun q => ((Keeps.refl _ _).drewN nq).drewN q
    go_wp2_with fail
    go_quiet (fail)
    go_wp2_with fail
    go_ret
    exact ⟨by rw [er.out]; rfl, Lib.hid (HK.out _)⟩
  ·obtain rfl : k = n := by omega
   have hkI : ¬ (k : Int) < (k : Int) := by omega
   have er : Hid (R = true) := show R = true by rw [HD.out, decide_eq_true (take_eq_all HN.out HM.out HT.out)]
   have HK : Hid (KF w (w.drewN nq)) := (Keeps.refl _ _).drewN nq
   go_wp2_with fail
   go_ret
   exact ⟨by rw [er.out]; rfl, HK⟩
end Go.Proofs.YtededjfjbkcepaaGreat
