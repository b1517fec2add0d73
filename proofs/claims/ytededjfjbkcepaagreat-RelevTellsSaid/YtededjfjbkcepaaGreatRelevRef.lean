/-
 The document's: what counts, what is followed, how many are told apart, the very same.
-/
import Derived.Test.YtededjfjbkcepaaGreatKitSq
import Derived.Test.YtededjfjbkcepaaGreatRelevOf
import Derived.Test.YtededjfjbkcepaaGreatPolAll
import Derived.Test.YtededjfjbkcepaaGreatMI
import Derived.Test.YtededjfjbkcepaaGreatRowSame
set_option linter.unusedVariables false
set_option linter.unusedSimpArgs false
set_option linter.unnecessarySimpa false
namespace Go.Proofs.YtededjfjbkcepaaGreat
open Go.ChangeShapes Go.WideShapes Go.ChangeAt Go.RowKit Go.Deep
set_option maxRecDepth 100000
set_option maxHeartbeats 3200000
theorem wvhas_spec {W : World} {ro lo : Option Addr} {rn rc ln lc : Nat} {pv fv ov gv : Value} {lk : Bool} {R : List Rol} {Lk : List Str} (hR : RdK rolE W (.slice ro rn rc) R) (hL : ReadsS W (.slice lo ln lc) Lk) (h1 : R.length ≤ 100000) (h2 : Lk.length ≤ 100000) (s : Rol) : Calls Tryz.prog 42 #[.agg #[.slice ro rn rc, .slice lo ln lc, pv, fv, ov, gv, .bool lk], rolV2 s] W fun e W' => e = .returned (.bool (hasV R Lk s)) ∧ Hid (KF W W') := by
 obtain ⟨s1, s2⟩ := s
 have HR := Lib.hid (fun (w : World) (hk : KF W w) => rhas_spec (rdk_r.1 (hR.keeps hk)) (by omega) (s1, s2))
 have HL := Lib.hid (fun (w : World) (hk : KF W w) => ref_has (hL.keeps hk) (by omega) s2)
 have HD : Hid (hasV R Lk (s1, s2) = (decide ((s1, s2) ∈ R) || decide (s2 ∈ Lk))) := rfl
 obtain ⟨x, hx⟩ : ∃ x, decide ((s1, s2) ∈ R) = x := ⟨_, rfl⟩
 obtain ⟨y, hy⟩ : ∃ y, decide (s2 ∈ Lk) = y := ⟨_, rfl⟩
 rw [hx] at HR
 rw [hy] at HL
 rw [hx, hy] at HD
 rw [HD.out]
 clear hx hy HD hR hL
 unfold rolV2 at HR ⊢
 simp only at HR ⊢
 have halWA := (MapKept.heap_alloc W (.cells #[.slice ro rn rc, .slice lo ln lc, pv, fv, ov, gv, .bool lk] 67)).1
 obtain ⟨WA, hWA⟩ : ∃ q, W.alloc (.cells #[.slice ro rn rc, .slice lo ln lc, pv, fv, ov, gv, .bool lk] 67) = q := ⟨_, rfl⟩
 have hkWA : KF W WA := by rw [← hWA]; exact (Keeps.refl _ _).alloc _
 rw [hWA] at halWA
 obtain ⟨bWA, hbWA⟩ : ∃ q, W.heap.size = q := ⟨_, rfl⟩
 rw [hbWA] at halWA
 have halWB := (MapKept.heap_alloc WA (bR s1 s2)).1
 obtain ⟨WB, hWB⟩ : ∃ q, WA.alloc (bR s1 s2) = q := ⟨_, rfl⟩
 have hkWB : KF WA WB := by rw [← hWB]; exact (Keeps.refl _ _).alloc _
 rw [hWB] at halWB
 obtain ⟨bWB, hbWB⟩ : ∃ q, WA.heap.size = q := ⟨_, rfl⟩
 rw [hbWB] at halWB
 have HV := Lib.hid ((hkWB.block _ (lt_of_heap halWA) (fun x => x)).trans halWA)
 have HS := Lib.hid halWB
 have HK := Lib.hid (hkWA.trans hkWB)
 clear halWA halWB hkWA hkWB
 obtain ⟨c0, f0, c1, f1, c2, f2, c3, f3, c4, f4, c5, f5, c6, f6⟩ := cf7 HV.out
 obtain ⟨d0, e0, d1, e1⟩ := cf2 HS.out
 clear f0 f1 f2 f3 f4 f5 f6 e0 e1
 go_enter Tryz.func42, Tryz.ntmps42
 go_upto_region 1 with fail
 (try simp only [hWA, hWB, hbWA, hbWB])
 clear hWA hWB hbWA hbWB
 go_wp2_with fail
 refine (HR.out _ HK.out).mono ?_
 rintro e w1 ⟨rfl, hk⟩
 have HK1 := Lib.hid (HK.out.trans hk.out)
 have hv := (hk.out.block _ (lt_of_heap HV.out) (fun x => x)).trans HV.out
 have hs := (hk.out.block _ (lt_of_heap HS.out) (fun x => x)).trans HS.out
 clear HR hk HV HS HK c0 c1 c2 c3 c4 c5 c6 d0 d1
 obtain ⟨c0, f0, c1, f1, c2, f2, c3, f3, c4, f4, c5, f5, c6, f6⟩ := cf7 hv
 obtain ⟨d0, e0, d1, e1⟩ := cf2 hs
 clear hv hs f0 f1 f2 f3 f4 f5 f6 e0 e1
 cases x
 ·go_wp2_with fail
  refine (HL.out _ HK1.out).mono ?_
  rintro e w2 ⟨rfl, rfl⟩
  clear HL
  go_wp2_with fail
  go_ret
  exact ⟨by first | rfl | (cases y <;> rfl), HK1⟩
 ·clear HL
  go_wp2_with fail
  go_ret
  exact ⟨rfl, HK1⟩
theorem wfollowed_spec {W : World} {ro lo : Option Addr} {rn rc ln lc : Nat} {pv fv ov gv : Value} {lk : Bool} {go ho : Option Addr} {gn gc hn hc : Nat} {v0 v3 : Value} {R gr sh : List Rol} {Lk : List Str} (hR : RdK rolE W (.slice ro rn rc) R) (hL : ReadsS W (.slice lo ln lc) Lk) (hg : RdK rolE W (.slice go gn gc) gr) (hs : RdK rolE W (.slice ho hn hc) sh) (h1 : R.length ≤ 100000) (h2 : Lk.length ≤ 100000) (h3 : gr.length ≤ 100000) (h4 : sh.length ≤ 100000) (y : Stm) : Calls Tryz.prog 85 #[.agg #[v0, .slice go gn gc, .slice ho hn hc, v3], .agg #[.slice ro rn rc, .slice lo ln lc, pv, fv, ov, gv, .bool lk], stmV y] W fun e W' => e = .returned (.bool (folB gr sh R Lk y)) ∧ Hid (KF W W') := by
 have HV := Lib.hid (fun (w : World) (hk : KF W w) => wvhas_spec (pv := pv) (fv := fv) (ov := ov) (gv := gv) (lk := lk) (hR.keeps hk) (hL.keeps hk) h1 h2 y.1)
 have HG := Lib.hid (fun (w : World) (hk : KF W w) => rhas_spec (rdk_r.1 (hg.keeps hk)) (by omega) y.1)
 have HS := Lib.hid (fun (w : World) (hk : KF W w) => rhas_spec (rdk_r.1 (hs.keeps hk)) (by omega) y.1)
 have HD : Hid (folB gr sh R Lk y = (hasV R Lk y.1 && (decide (y.1 ∈ gr) || decide (y.1 ∈ sh)))) := rfl
 obtain ⟨x, hx⟩ : ∃ x, hasV R Lk y.1 = x := ⟨_, rfl⟩
 obtain ⟨z1, hz1⟩ : ∃ x, decide (y.1 ∈ gr) = x := ⟨_, rfl⟩
 obtain ⟨z2, hz2⟩ : ∃ x, decide (y.1 ∈ sh) = x := ⟨_, rfl⟩
 rw [hx] at HV
 rw [hz1] at HG
 rw [hz2] at HS
 rw [hx, hz1, hz2] at HD
 rw [HD.out]
 clear hx hz1 hz2 HD hR hL hg hs
 obtain ⟨⟨yh1, yh2⟩, yk, yo, ⟨ya1, ya2⟩, ⟨yb1, yb2⟩, yi⟩ := y
 unfold rolV2 at HV HG HS
 simp only at HV HG HS
 unfold stmV
 simp only
 have halWA := (MapKept.heap_alloc W (.cells #[v0, .slice go gn gc, .slice ho hn hc, v3] 26)).1
 obtain ⟨WA, hWA⟩ : ∃ q, W.alloc (.cells #[v0, .slice go gn gc, .slice ho hn hc, v3] 26) = q := ⟨_, rfl⟩
 have hkWA : KF W WA := by rw [← hWA]; exact (Keeps.refl _ _).alloc _
 rw [hWA] at halWA
 obtain ⟨bWA, hbWA⟩ : ∃ q, W.heap.size = q := ⟨_, rfl⟩
 rw [hbWA] at halWA
 have halWB := (MapKept.heap_alloc WA (.cells #[.slice ro rn rc, .slice lo ln lc, pv, fv, ov, gv, .bool lk] 67)).1
 obtain ⟨WB, hWB⟩ : ∃ q, WA.alloc (.cells #[.slice ro rn rc, .slice lo ln lc, pv, fv, ov, gv, .bool lk] 67) = q := ⟨_, rfl⟩
 have hkWB : KF WA WB := by rw [← hWB]; exact (Keeps.refl _ _).alloc _
 rw [hWB] at halWB
 obtain ⟨bWB, hbWB⟩ : ∃ q, WA.heap.size = q := ⟨_, rfl⟩
 rw [hbWB] at halWB
 have halWC := (MapKept.heap_alloc WB (bM yk yh1 yh2 yo ya1 ya2 yb1 yb2 yi)).1
 obtain ⟨WC, hWC⟩ : ∃ q, WB.alloc (bM yk yh1 yh2 yo ya1 ya2 yb1 yb2 yi) = q := ⟨_, rfl⟩
 have hkWC : KF WB WC := by rw [← hWC]; exact (Keeps.refl _ _).alloc _
 rw [hWC] at halWC
 obtain ⟨bWC, hbWC⟩ : ∃ q, WB.heap.size = q := ⟨_, rfl⟩
 rw [hbWC] at halWC
 have HP := Lib.hid (((hkWB.trans hkWC).block _ (lt_of_heap halWA) (fun x => x)).trans halWA)
 have HVB := Lib.hid ((hkWC.block _ (lt_of_heap halWB) (fun x => x)).trans halWB)
 have HSB := Lib.hid halWC
 have HK := Lib.hid (hkWA.trans (hkWB.trans hkWC))
 clear halWA halWB halWC hkWA hkWB hkWC
 obtain ⟨c0, f0, c1, f1, c2, f2, c3, f3, c4, f4, c5, f5, c6, f6⟩ := cf7 HVB.out
 obtain ⟨d0, e0, d1, e1, d2, e2, d3, e3, d4, e4, d5, e5, d6, e6, d7, e7, d8, e8⟩ := cf9 HSB.out
 clear f0 f1 f2 f3 f4 f5 f6 e0 e1 e2 e3 e4 e5 e6 e7 e8
 go_enter Tryz.func85, Tryz.ntmps85
 go_upto_region 1 with fail
 (try simp only [hWA, hWB, hWC, hbWA, hbWB, hbWC])
 clear hWA hWB hWC hbWA hbWB hbWC
 go_wp2_with fail
 refine (HV.out _ HK.out).mono ?_
 rintro e w1 ⟨rfl, hk⟩
 have HK1 := Lib.hid (HK.out.trans hk.out)
 have HP1 := Lib.hid ((hk.out.block _ (lt_of_heap HP.out) (fun x => x)).trans HP.out)
 have HS1 := Lib.hid ((hk.out.block _ (lt_of_heap HSB.out) (fun x => x)).trans HSB.out)
 clear HV hk HP HVB HSB HK c0 c1 c2 c3 c4 c5 c6 d0 d1 d2 d3 d4 d5 d6 d7 d8
 cases x
 case false =>
  clear HG HS
  go_wp2_with fail
  go_ret
  exact ⟨rfl, HK1⟩
 case true =>
  obtain ⟨c0, f0, c1, f1, c2, f2, c3, f3⟩ := cf4 HP1.out
  obtain ⟨d0, e0, d1, e1, d2, e2, d3, e3, d4, e4, d5, e5, d6, e6, d7, e7, d8, e8⟩ := cf9 HS1.out
  clear f0 f1 f2 f3 e0 e1 e2 e3 e4 e5 e6 e7 e8
  go_wp2_with fail
  refine (HG.out _ HK1.out).mono ?_
  rintro e w2 ⟨rfl, hk⟩
  have HK2 := Lib.hid (HK1.out.trans hk.out)
  have hp := ((hk.out.block _ (lt_of_heap HP1.out) (fun x => x)).trans HP1.out)
  have hs := ((hk.out.block _ (lt_of_heap HS1.out) (fun x => x)).trans HS1.out)
  clear HG hk HP1 HS1 HK1 c0 c1 c2 c3 d0 d1 d2 d3 d4 d5 d6 d7 d8
  cases z1
  case true =>
   clear HS hp hs
   go_wp2_with fail
   go_ret
   exact ⟨rfl, HK2⟩
  case false =>
   obtain ⟨c0, f0, c1, f1, c2, f2, c3, f3⟩ := cf4 hp
   obtain ⟨d0, e0, d1, e1, d2, e2, d3, e3, d4, e4, d5, e5, d6, e6, d7, e7, d8, e8⟩ := cf9 hs
   clear hp hs f0 f1 f2 f3 e0 e1 e2 e3 e4 e5 e6 e7 e8
   go_wp2_with fail
   refine (HS.out _ HK2.out).mono ?_
   rintro e w3 ⟨rfl, hk⟩
   have HK3 := Lib.hid (HK2.out.trans hk.out)
   clear HS hk HK2 c0 c1 c2 c3 d0 d1 d2 d3 d4 d5 d6 d7 d8
   go_wp2_with fail
   go_ret
   exact ⟨by first | rfl | (cases z2 <;> rfl), HK3⟩
/-- How many new principals are told apart. -/
def freshN (lk : Bool) (n : Nat) : Int := if lk then (if 4 < n then 0 else (2 : Int) ^ n) else 1
theorem fresh_spec {W : World} {rv lv pv fv ov : Value} {lk : Bool} {go : Option Addr} {gn gc : Nat} (hn : gn ≤ 60) : Calls Tryz.prog 43 #[.agg #[rv, lv, pv, fv, ov, .slice go gn gc, .bool lk]] W fun e W' => e = .returned (.int .i64 (freshN lk gn)) ∧ Hid (KF W W') := by
 have halWA := (MapKept.heap_alloc W (.cells #[rv, lv, pv, fv, ov, .slice go gn gc, .bool lk] 62)).1
 obtain ⟨WA, hWA⟩ : ∃ q, W.alloc (.cells #[rv, lv, pv, fv, ov, .slice go gn gc, .bool lk] 62) = q := ⟨_, rfl⟩
 have hkWA : KF W WA := by rw [← hWA]; exact (Keeps.refl _ _).alloc _
 rw [hWA] at halWA
 obtain ⟨bWA, hbWA⟩ : ∃ q, W.heap.size = q := ⟨_, rfl⟩
 rw [hbWA] at halWA
 have HK := Lib.hid hkWA
 obtain ⟨c0, f0, c1, f1, c2, f2, c3, f3, c4, f4, c5, f5, c6, f6⟩ := cf7 halWA
 clear halWA hkWA f0 f1 f2 f3 f4 f5 f6 c0 c1 c2 c3 c4
 go_enter Tryz.func43, Tryz.ntmps43
 go_upto_region 1 with fail
 (try simp only [hWA, hbWA])
 clear hWA hbWA
 cases lk
 case false =>
  go_wp2_with fail
  go_ret
  exact ⟨rfl, HK⟩
 case true =>
  by_cases h4 : 4 < gn
  case pos =>
   have h4I : (4 : Int) < (gn : Int) := by omega
   have HF : Hid (freshN true gn = 0) := by show (if 4 < gn then _ else _) = _; rw [if_pos h4]
   go_wp2_with fail
   go_ret
   exact ⟨by rw [HF.out]; rfl, HK⟩
  case neg =>
   have h4I : ¬ (4 : Int) < (gn : Int) := by omega
   have h5 : gn = 0 ∨ gn = 1 ∨ gn = 2 ∨ gn = 3 ∨ gn = 4 := by omega
   clear hn
   rcases h5 with rfl | rfl | rfl | rfl | rfl
   all_goals
    clear h4 h4I
    go_wp2_with fail
    go_ret
    exact ⟨rfl, HK⟩
theorem wfresh_spec {W : World} {rv lv pv fv ov : Value} {lk : Bool} {go : Option Addr} {gn gc : Nat} (hn : gn ≤ 60) : Calls Tryz.prog 44 #[.agg #[rv, lv, pv, fv, ov, .slice go gn gc, .bool lk]] W fun e W' => e = .returned (.int .i64 (freshN lk gn)) ∧ Hid (KF W W') := by
 have halWA := (MapKept.heap_alloc W (.cells #[rv, lv, pv, fv, ov, .slice go gn gc, .bool lk] 67)).1
 obtain ⟨WA, hWA⟩ : ∃ q, W.alloc (.cells #[rv, lv, pv, fv, ov, .slice go gn gc, .bool lk] 67) = q := ⟨_, rfl⟩
 have hkWA : KF W WA := by rw [← hWA]; exact (Keeps.refl _ _).alloc _
 rw [hWA] at halWA
 obtain ⟨bWA, hbWA⟩ : ∃ q, W.heap.size = q := ⟨_, rfl⟩
 rw [hbWA] at halWA
 have HK := Lib.hid hkWA
 obtain ⟨c0, f0, c1, f1, c2, f2, c3, f3, c4, f4, c5, f5, c6, f6⟩ := cf7 halWA
 clear halWA hkWA f0 f1 f2 f3 f4 f5 f6 c0 c1 c2 c3 c4
 go_enter Tryz.func44, Tryz.ntmps44
 go_upto_region 1 with fail
 (try simp only [hWA, hbWA])
 clear hWA hbWA
 cases lk
 case false =>
  go_wp2_with fail
  go_ret
  exact ⟨rfl, HK⟩
 case true =>
  go_wp2_with fail
  go_loopg [3, 10] gn (fun g m t wx => ∃ i : Nat, i ≤ gn ∧ g = gn - i ∧ t = .int .i64 i ∧ m = .int .i64 ((2 : Int) ^ i) ∧ wx = WA)
  case atStart => exact ⟨0, Nat.zero_le _, rfl, rfl, rfl, rfl⟩
  case round =>
   obtain ⟨i, hi, rfl, rfl, rfl, rfl⟩ := hrel
   by_cases hlt : i < gn
   ·have hiI : (i : Int) < (gn : Int) := by omega
    have hwi : IntKind.i64.wrap ((i : Int) + 1) = (i : Int) + 1 := IntWalk.i64_in _ (by omega)
    obtain ⟨p, hp⟩ : ∃ p : Int, (2 : Int) ^ i = p := ⟨_, rfl⟩
    have hpb : 0 ≤ p ∧ p ≤ 576460752303423488 := by
     have h1 : p = ((2 ^ i : Nat) : Int) := by rw [← hp, Int.natCast_pow]; rfl
     have h2 : 2 ^ i ≤ 576460752303423488 := Nat.le_trans (Nat.pow_le_pow_right (by decide) (show i ≤ 59 by omega)) (by decide)
     generalize 2 ^ i = m at h1 h2
     omega
    have hw2 : IntKind.i64.wrap (p * 2) = p * 2 := IntWalk.i64_in _ (by omega)
    have HN : Hid ((2 : Int) ^ (i + 1) = p * 2) := by show _ = _; rw [Int.pow_succ, hp]
    rw [hp]
    clear hp
    go_wp2_with fail
    go_roundg (gn - (i + 1))
    case measure => omega
    case rel => exact ⟨i + 1, by omega, rfl, by go_num, by rw [HN.out], rfl⟩
   ·obtain rfl : gn = i := by omega
    have hiI : ¬ (gn : Int) < (gn : Int) := by omega
    obtain ⟨p, hp⟩ : ∃ p : Int, (2 : Int) ^ gn = p := ⟨_, rfl⟩
    have HF : Hid (freshN true gn = if 4 < gn then 0 else p) := by rw [← hp]; rfl
    have HB : Hid ((16 : Int) < p ↔ 4 < gn) := by
     have h1 : p = ((2 ^ gn : Nat) : Int) := by rw [← hp, Int.natCast_pow]; rfl
     have k1 : gn ≤ 4 → 2 ^ gn ≤ 16 := fun hle => Nat.le_trans (Nat.pow_le_pow_right (by decide) hle) (by decide)
     have k2 : 4 < gn → 32 ≤ 2 ^ gn := fun h => Nat.le_trans (by decide) (Nat.pow_le_pow_right (by decide) (show 5 ≤ gn from h))
     show _ ↔ _
     generalize 2 ^ gn = m at h1 k1 k2
     constructor
     ·intro h
      refine Nat.lt_of_not_le (fun hle => ?_)
      have := k1 hle
      omega
     ·intro h
      have := k2 h
      omega
    rw [hp]
    clear hp
    by_cases h4 : 4 < gn
    case pos =>
     have h16 : (16 : Int) < p := HB.out.2 h4
     go_wp2_with fail
     go_ret
     exact ⟨by rw [HF.out, if_pos h4]; rfl, HK⟩
    case neg =>
     have h16 : ¬ (16 : Int) < p := fun h => h4 (HB.out.1 h)
     go_wp2_with fail
     go_ret
     exact ⟨by rw [HF.out, if_neg h4]; rfl, HK⟩
/-- What a view says, read. -/
structure VwR (W : World) (rv lv pv fv ov gv : Value) (R : List Rol) (Lk P : List Str) (Fx Ls : List Stm) (G : List Rol) : Prop where
 r : RdK rolE W rv R
 l : ReadsS W lv Lk
 p : ReadsS W pv P
 f : RdK stmE W fv Fx
 o : RdK stmE W ov Ls
 g : RdK rolE W gv G
theorem VwR.keeps {W W' : World} {rv lv pv fv ov gv : Value} {R : List Rol} {Lk P : List Str} {Fx Ls : List Stm} {G : List Rol} (h : VwR W rv lv pv fv ov gv R Lk P Fx Ls G) (hk : KF W W') : VwR W' rv lv pv fv ov gv R Lk P Fx Ls G := ⟨h.r.keeps hk, h.l.keeps hk, h.p.keeps hk, h.f.keeps hk, h.o.keeps hk, h.g.keeps hk⟩
theorem wsame_spec {W : World} {rv lv pv fv ov gv rv' lv' pv' fv' ov' gv' : Value} {R G : List Rol} {Lk P : List Str} {Fx Ls : List Stm} {lk : Bool} (h : VwR W rv lv pv fv ov gv R Lk P Fx Ls G) (h' : VwR W rv' lv' pv' fv' ov' gv' R Lk P Fx Ls G) (n1 : R.length ≤ 1000000) (n2 : Lk.length ≤ 1000000) (n3 : P.length ≤ 1000000) (n4 : Fx.length ≤ 1000000) (n5 : Ls.length ≤ 1000000) (n6 : G.length ≤ 1000000) : Calls Tryz.prog 39 #[.agg #[rv, lv, pv, fv, ov, gv, .bool lk], .agg #[rv', lv', pv', fv', ov', gv', .bool lk]] W fun e W' => e = .returned (.bool true) ∧ Hid (KF W W') := by
 have Sr : Hid (∀ w, KF W w → Calls Tryz.prog 26 #[rv, rv'] w fun e W' => e = .returned (.bool true) ∧ Hid (KF w W')) := fun w hk => (rsame_all (h.r.keeps hk) (h'.r.keeps hk) n1).mono fun _ _ ⟨e, r⟩ => ⟨by rw [e, decide_eq_true (rfl : R = R)], r⟩
 have Sg : Hid (∀ w, KF W w → Calls Tryz.prog 26 #[gv, gv'] w fun e W' => e = .returned (.bool true) ∧ Hid (KF w W')) := fun w hk => (rsame_all (h.g.keeps hk) (h'.g.keeps hk) n6).mono fun _ _ ⟨e, r⟩ => ⟨by rw [e, decide_eq_true (rfl : G = G)], r⟩
 have Sl : Hid (∀ w, KF W w → Calls Tryz.prog 22 #[lv, lv'] w fun e W' => e = .returned (.bool true) ∧ Hid (KF w W')) := fun w hk => (ref_same (h.l.keeps hk) (h'.l.keeps hk) n2 rfl).mono fun _ _ ⟨e, nq, r⟩ => ⟨e, by rw [r]; exact Lib.hid ((Keeps.refl _ _).drewN nq)⟩
 have Sp : Hid (∀ w, KF W w → Calls Tryz.prog 22 #[pv, pv'] w fun e W' => e = .returned (.bool true) ∧ Hid (KF w W')) := fun w hk => (ref_same (h.p.keeps hk) (h'.p.keeps hk) n3 rfl).mono fun _ _ ⟨e, nq, r⟩ => ⟨e, by rw [r]; exact Lib.hid ((Keeps.refl _ _).drewN nq)⟩
 have Sf : Hid (∀ w, KF W w → Calls Tryz.prog 27 #[fv, fv'] w fun e W' => e = .returned (.bool true) ∧ Hid (KF w W')) := fun w hk => (msame_all (h.f.keeps hk) (h'.f.keeps hk) n4).mono fun _ _ ⟨e, r⟩ => ⟨by rw [e, decide_eq_true (rfl : Fx = Fx)], r⟩
 have So : Hid (∀ w, KF W w → Calls Tryz.prog 27 #[ov, ov'] w fun e W' => e = .returned (.bool true) ∧ Hid (KF w W')) := fun w hk => (msame_all (h.o.keeps hk) (h'.o.keeps hk) n5).mono fun _ _ ⟨e, r⟩ => ⟨by rw [e, decide_eq_true (rfl : Ls = Ls)], r⟩
 clear h h'
 have halWA := (MapKept.heap_alloc W (.cells #[rv, lv, pv, fv, ov, gv, .bool lk] 67)).1
 obtain ⟨WA, hWA⟩ : ∃ q, W.alloc (.cells #[rv, lv, pv, fv, ov, gv, .bool lk] 67) = q := ⟨_, rfl⟩
 have hkWA : KF W WA := by rw [← hWA]; exact (Keeps.refl _ _).alloc _
 rw [hWA] at halWA
 obtain ⟨bWA, hbWA⟩ : ∃ q, W.heap.size = q := ⟨_, rfl⟩
 rw [hbWA] at halWA
 have halWB := (MapKept.heap_alloc WA (.cells #[rv', lv', pv', fv', ov', gv', .bool lk] 67)).1
 obtain ⟨WB, hWB⟩ : ∃ q, WA.alloc (.cells #[rv', lv', pv', fv', ov', gv', .bool lk] 67) = q := ⟨_, rfl⟩
 have hkWB : KF WA WB := by rw [← hWB]; exact (Keeps.refl _ _).alloc _
 rw [hWB] at halWB
 obtain ⟨bWB, hbWB⟩ : ∃ q, WA.heap.size = q := ⟨_, rfl⟩
 rw [hbWB] at halWB
 have HA := Lib.hid ((hkWB.block _ (lt_of_heap halWA) (fun x => x)).trans halWA)
 have HB := Lib.hid halWB
 have HK := Lib.hid (hkWA.trans hkWB)
 clear halWA halWB hkWA hkWB
 go_enter Tryz.func39, Tryz.ntmps39
 go_upto_region 1 with fail
 (try simp only [hWA, hWB, hbWA, hbWB])
 clear hWA hWB hbWA hbWB
 generalize WB = w0 at *
 obtain ⟨c0, f0, c1, f1, c2, f2, c3, f3, c4, f4, c5, f5, c6, f6⟩ := cf7 HA.out
 obtain ⟨d0, e0, d1, e1, d2, e2, d3, e3, d4, e4, d5, e5, d6, e6⟩ := cf7 HB.out
 clear f0 e0 f1 e1 f2 e2 f3 e3 f4 e4 f5 e5 f6 e6
 go_wp2_with fail
 refine (Sr.out _ HK.out).mono ?_
 rintro e w1 ⟨rfl, hk⟩
 replace HA := Lib.hid ((hk.out.block _ (lt_of_heap HA.out) (fun x => x)).trans HA.out)
 replace HB := Lib.hid ((hk.out.block _ (lt_of_heap HB.out) (fun x => x)).trans HB.out)
 replace HK := Lib.hid (HK.out.trans hk.out)
 clear hk Sr c0 d0 c1 d1 c2 d2 c3 d3 c4 d4 c5 d5 c6 d6
 obtain ⟨c0, f0, c1, f1, c2, f2, c3, f3, c4, f4, c5, f5, c6, f6⟩ := cf7 HA.out
 obtain ⟨d0, e0, d1, e1, d2, e2, d3, e3, d4, e4, d5, e5, d6, e6⟩ := cf7 HB.out
 clear f0 e0 f1 e1 f2 e2 f3 e3 f4 e4 f5 e5 f6 e6
 go_wp2_with fail
 refine (Sg.out _ HK.out).mono ?_
 rintro e w2 ⟨rfl, hk⟩
 replace HA := Lib.hid ((hk.out.block _ (lt_of_heap HA.out) (fun x => x)).trans HA.out)
 replace HB := Lib.hid ((hk.out.block _ (lt_of_heap HB.out) (fun x => x)).trans HB.out)
 replace HK := Lib.hid (HK.out.trans hk.out)
 clear hk Sg c0 d0 c1 d1 c2 d2 c3 d3 c4 d4 c5 d5 c6 d6
 obtain ⟨c0, f0, c1, f1, c2, f2, c3, f3, c4, f4, c5, f5, c6, f6⟩ := cf7 HA.out
 obtain ⟨d0, e0, d1, e1, d2, e2, d3, e3, d4, e4, d5, e5, d6, e6⟩ := cf7 HB.out
 clear f0 e0 f1 e1 f2 e2 f3 e3 f4 e4 f5 e5 f6 e6
 go_wp2_with fail
 refine (Sl.out _ HK.out).mono ?_
 rintro e w3 ⟨rfl, hk⟩
 replace HA := Lib.hid ((hk.out.block _ (lt_of_heap HA.out) (fun x => x)).trans HA.out)
 replace HB := Lib.hid ((hk.out.block _ (lt_of_heap HB.out) (fun x => x)).trans HB.out)
 replace HK := Lib.hid (HK.out.trans hk.out)
 clear hk Sl c0 d0 c1 d1 c2 d2 c3 d3 c4 d4 c5 d5 c6 d6
 obtain ⟨c0, f0, c1, f1, c2, f2, c3, f3, c4, f4, c5, f5, c6, f6⟩ := cf7 HA.out
 obtain ⟨d0, e0, d1, e1, d2, e2, d3, e3, d4, e4, d5, e5, d6, e6⟩ := cf7 HB.out
 clear f0 e0 f1 e1 f2 e2 f3 e3 f4 e4 f5 e5 f6 e6
 go_wp2_with fail
 refine (Sp.out _ HK.out).mono ?_
 rintro e w4 ⟨rfl, hk⟩
 replace HA := Lib.hid ((hk.out.block _ (lt_of_heap HA.out) (fun x => x)).trans HA.out)
 replace HB := Lib.hid ((hk.out.block _ (lt_of_heap HB.out) (fun x => x)).trans HB.out)
 replace HK := Lib.hid (HK.out.trans hk.out)
 clear hk Sp c0 d0 c1 d1 c2 d2 c3 d3 c4 d4 c5 d5 c6 d6
 obtain ⟨c0, f0, c1, f1, c2, f2, c3, f3, c4, f4, c5, f5, c6, f6⟩ := cf7 HA.out
 obtain ⟨d0, e0, d1, e1, d2, e2, d3, e3, d4, e4, d5, e5, d6, e6⟩ := cf7 HB.out
 clear f0 e0 f1 e1 f2 e2 f3 e3 f4 e4 f5 e5 f6 e6
 go_wp2_with fail
 refine (Sf.out _ HK.out).mono ?_
 rintro e w5 ⟨rfl, hk⟩
 replace HA := Lib.hid ((hk.out.block _ (lt_of_heap HA.out) (fun x => x)).trans HA.out)
 replace HB := Lib.hid ((hk.out.block _ (lt_of_heap HB.out) (fun x => x)).trans HB.out)
 replace HK := Lib.hid (HK.out.trans hk.out)
 clear hk Sf c0 d0 c1 d1 c2 d2 c3 d3 c4 d4 c5 d5 c6 d6
 obtain ⟨c0, f0, c1, f1, c2, f2, c3, f3, c4, f4, c5, f5, c6, f6⟩ := cf7 HA.out
 obtain ⟨d0, e0, d1, e1, d2, e2, d3, e3, d4, e4, d5, e5, d6, e6⟩ := cf7 HB.out
 clear f0 e0 f1 e1 f2 e2 f3 e3 f4 e4 f5 e5 f6 e6
 go_wp2_with fail
 refine (So.out _ HK.out).mono ?_
 rintro e w6 ⟨rfl, hk⟩
 replace HA := Lib.hid ((hk.out.block _ (lt_of_heap HA.out) (fun x => x)).trans HA.out)
 replace HB := Lib.hid ((hk.out.block _ (lt_of_heap HB.out) (fun x => x)).trans HB.out)
 replace HK := Lib.hid (HK.out.trans hk.out)
 clear hk So c0 d0 c1 d1 c2 d2 c3 d3 c4 d4 c5 d5 c6 d6
 obtain ⟨c0, f0, c1, f1, c2, f2, c3, f3, c4, f4, c5, f5, c6, f6⟩ := cf7 HA.out
 obtain ⟨d0, e0, d1, e1, d2, e2, d3, e3, d4, e4, d5, e5, d6, e6⟩ := cf7 HB.out
 clear f0 e0 f1 e1 f2 e2 f3 e3 f4 e4 f5 e5 f6 e6
 cases lk
 all_goals
  go_wp2_with fail
  go_ret
  exact ⟨rfl, HK⟩
theorem wright_spec {W : World} {ao bo co jo wo : Option Addr} {an ac bn bc cn cc jn jc wn wc : Nat} {p : Pol} {P : Nat → Prop} (h : PolH W (.slice ao an ac) (.slice bo bn bc) (.slice co cn cc) p P) (h1 : p.1.length ≤ 60) (h2 : p.2.1.length ≤ 60) (h3 : p.2.2.1.length ≤ 60) {q : Qry} (hw : RowX W (.slice wo wn wc) q.2.2.2 P) (h4 : q.2.2.2.length ≤ 100) :
 Calls Tryz.prog 38 #[.agg #[.slice ao an ac, .slice bo bn bc, .slice co cn cc, .slice jo jn jc], qryV q (.slice wo wn wc)] W fun e W' => e = .returned (.bool (askB p q)) ∧ Hid (KF W W') := by
 have HQR : Hid (∀ w, KF W w → Calls Tryz.prog 84 #[qryV q (.slice wo wn wc)] w fun e W' => e = .returned (.bool (qryRB q)) ∧ Hid (KF w W')) := fun w hk => rqryright_all (hw.into hk (fun _ _ _ x => x) (fun _ _ x => x)).1 (by omega)
 have HPR : Hid (∀ w b, KF W w → RdX qE w (.slice (some ⟨b, 0, none⟩) 1 1) [(q.1, q.2.1, q.2.2.1, (wo, wn, wc))] (fun _ => True) → qryRB q = true → q.1 = 6 → Calls Tryz.prog 48 #[.agg #[.slice ao an ac, .slice bo bn bc, .slice co cn cc, .slice (some ⟨b, 0, none⟩) 1 1]] w fun e W' => e = .returned (.bool (polRB (p.1, p.2.1, p.2.2.1, [q]))) ∧ Hid (KF w W')) := fun w b hk hr hq1 hq2 => rpolright_all (one_ask (h.into hk (fun _ _ _ x => x) (fun _ _ x => x)) hr (hw.into hk (fun _ _ _ x => x) (fun _ _ x => x)).1 (fun k hk2 => ((hw.into hk (fun _ _ _ x => x) (fun _ _ x => x)).2 k hk2).1)) ⟨by show p.1.length ≤ _; omega, by show p.2.1.length ≤ _; omega, by show p.2.2.1.length ≤ _; omega, by simp, fun x hx => few_one hq1 hq2 hx⟩
 have HASK : Hid (askB p q = (qryRB q && decide (q.1 = 6) && polRB (p.1, p.2.1, p.2.2.1, [q]))) := rfl
 clear h hw h1 h2 h3 h4
 obtain ⟨qk, ⟨qa1, qa2⟩, ⟨qb1, qb2⟩, qw⟩ := q
 unfold qryV at HQR ⊢
 simp only at HQR HPR HASK ⊢
 have halWA := (MapKept.heap_alloc W (bP ao an ac bo bn bc co cn cc jo jn jc)).1
 obtain ⟨WA, hWA⟩ : ∃ q, W.alloc (bP ao an ac bo bn bc co cn cc jo jn jc) = q := ⟨_, rfl⟩
 have hkWA : KF W WA := by rw [← hWA]; exact (Keeps.refl _ _).alloc _
 rw [hWA] at halWA
 obtain ⟨bWA, hbWA⟩ : ∃ q, W.heap.size = q := ⟨_, rfl⟩
 rw [hbWA] at halWA
 have halWB := (MapKept.heap_alloc WA (bQ qk qa1 qa2 qb1 qb2 wo wn wc)).1
 obtain ⟨WB, hWB⟩ : ∃ q, WA.alloc (bQ qk qa1 qa2 qb1 qb2 wo wn wc) = q := ⟨_, rfl⟩
 have hkWB : KF WA WB := by rw [← hWB]; exact (Keeps.refl _ _).alloc _
 rw [hWB] at halWB
 obtain ⟨bWB, hbWB⟩ : ∃ q, WA.heap.size = q := ⟨_, rfl⟩
 rw [hbWB] at halWB
 have hrw0 := (one_srcK (E := qE) WB (qk, (qa1, qa2), (qb1, qb2), (wo, wn, wc)) #[.int .i64 qk, .string ⟨qa1.toArray⟩, .string ⟨qa2.toArray⟩, .string ⟨qb1.toArray⟩, .string ⟨qb2.toArray⟩, .slice wo wn wc] rfl)
 obtain ⟨WD, hWD⟩ : ∃ q, WB.alloc (bQ qk qa1 qa2 qb1 qb2 wo wn wc) = q := ⟨_, rfl⟩
 have hkD : KF WB WD := by rw [← hWD]; exact (Keeps.refl _ _).alloc _
 have hal4 := (MapKept.heap_alloc WB (bQ qk qa1 qa2 qb1 qb2 wo wn wc)).1
 have hrw : SrcK qE WD (.slice (some ⟨WB.heap.size, 0, none⟩) 1 1) [(qk, (qa1, qa2), (qb1, qb2), (wo, wn, wc))] := by rw [← hWD]; exact hrw0
 clear hrw0
 rw [hWD] at hal4
 obtain ⟨rb, hrb⟩ : ∃ q, WB.heap.size = q := ⟨_, rfl⟩
 rw [hrb] at hal4 hrw
 have s1 := lt_of_heap halWA
 have s2 := lt_of_heap halWB
 have s4 := lt_of_heap hal4
 rw [hbWB] at s1
 rw [hrb] at s2
 have kD2 : Keeps (fun q => q = bWA) WD (WD.setCell ⟨bWA, 3, none⟩ (.slice (some ⟨rb, 0, none⟩) 1 1)) := Keeps.setCell (S := fun q => q = bWA) (Keeps.refl _ _) (p := ⟨bWA, 3, none⟩) (fun _ => rfl) _
 have hpD := ((hkWB.trans hkD).block bWA (lt_of_heap halWA) (fun x => x)).trans halWA
 have HW : Hid ((WD.setCell ⟨bWA, 3, none⟩ (.slice (some ⟨rb, 0, none⟩) 1 1)).heap[bWA]? = some (.cells #[.slice ao an ac, .slice bo bn bc, .slice co cn cc, .slice (some ⟨rb, 0, none⟩) 1 1] 26)) := heap_set hpD 3 _
 have HQB : Hid ((WD.setCell ⟨bWA, 3, none⟩ (.slice (some ⟨rb, 0, none⟩) 1 1)).heap[bWB]? = some (bQ qk qa1 qa2 qb1 qb2 wo wn wc)) := (kD2.block bWB (by have := hkD.size; have := lt_of_heap halWB; omega) (by show ¬ _ = _; omega)).trans ((hkD.block bWB (lt_of_heap halWB) (fun x => x)).trans halWB)
 have HRB : Hid (RdX qE (WD.setCell ⟨bWA, 3, none⟩ (.slice (some ⟨rb, 0, none⟩) 1 1)) (.slice (some ⟨rb, 0, none⟩) 1 1) [(qk, (qa1, qa2), (qb1, qb2), (wo, wn, wc))] (fun _ => True)) := by
  have q0 : RdX qE WD (.slice (some ⟨rb, 0, none⟩) 1 1) [(qk, (qa1, qa2), (qb1, qb2), (wo, wn, wc))] (fun k => k = rb) := ⟨hrw, fun k hk => by simp only [Value.ownBlock, Option.map_some, Option.some.injEq] at hk; exact ⟨by omega, hk.symm⟩⟩
  exact q0.into kD2 (fun k _ e e2 => by have e2 : k = bWA := e2; omega) (fun _ _ _ => trivial)
 have HKD : Hid (KF W (WD.setCell ⟨bWA, 3, none⟩ (.slice (some ⟨rb, 0, none⟩) 1 1))) := (hkWA.trans (hkWB.trans hkD)).trans_new kD2 (fun k hk e => by have e : k = bWA := e; omega)
 obtain ⟨x0, y0, x1, y1, x2, y2, x3, y3, x4, y4, x5, y5⟩ := cf6 halWB
 obtain ⟨z0, u0z, z1, u1z, z2, u2z, z3, u3z⟩ := cf4 hpD
 clear y0 y1 y2 y3 y4 y5 z0 z1 z2 u0z u1z u2z halWA halWB hal4 hkWA hkWB hkD hrw s1 s2 s4 kD2 hpD
 go_enter Tryz.func38, Tryz.ntmps38
 go_upto_region 1 with fail
 (try simp only [hWA, hWB, hbWA, hbWB])
 go_upto_region 2 with fail
 (try simp only [hWD, hrb, hbWA])
 clear x0 x1 x2 x3 x4 x5 z3 u3z hWA hWB hWD hbWA hbWB hrb
 generalize WD.setCell ⟨bWA, 3, none⟩ (.slice (some ⟨rb, 0, none⟩) 1 1) = w1 at *
 obtain ⟨b1, hb1⟩ : ∃ x, qryRB (qk, (qa1, qa2), (qb1, qb2), qw) = x := ⟨_, rfl⟩
 rw [hb1] at HQR HASK
 have HB1 := Lib.hid hb1
 clear hb1
 obtain ⟨x0, y0, x1, y1, x2, y2, x3, y3, x4, y4, x5, y5⟩ := cf6 HQB.out
 clear y0 y1 y2 y3 y4 y5
 by_cases hk6 : qk = 6
 case neg =>
  have hkn : (qk == 6) = false := beq_eq_false_iff_ne.2 hk6
  have HA : Hid (askB p (qk, (qa1, qa2), (qb1, qb2), qw) = false) := by show _ = _; rw [HASK.out, decide_eq_false hk6]; simp
  go_wp2_with fail
  go_ret
  exact ⟨by rw [HA.out]; rfl, HKD⟩
 case pos =>
  subst hk6
  go_wp2_with fail
  refine (HQR.out _ HKD.out).mono ?_
  rintro e w2 ⟨rfl, hk⟩
  clear HQR x0 x1 x2 x3 x4 x5
  have HK2 := Lib.hid (HKD.out.trans hk.out)
  have HW2 := Lib.hid ((hk.out.block _ (lt_of_heap HW.out) (fun x => x)).trans HW.out)
  have HR2 := Lib.hid (HRB.out.keeps hk.out (fun _ _ _ x => x))
  clear HKD HW HQB HRB hk
  obtain ⟨z0, g0, z1, g1, z2, g2, z3, g3⟩ := cf4 HW2.out
  clear g0 g1 g2 g3
  cases b1
  case false =>
   have HA : Hid (askB p (6, (qa1, qa2), (qb1, qb2), qw) = false) := by show _ = _; rw [HASK.out]; rfl
   go_wp2_with fail
   go_ret
   exact ⟨by rw [HA.out]; rfl, HK2⟩
  case true =>
   have HCP := Lib.hid (HPR.out w2 rb HK2.out HR2.out HB1.out (by first | rfl | trivial))
   obtain ⟨b3, hb3⟩ : ∃ x, polRB (p.1, p.2.1, p.2.2.1, [(6, (qa1, qa2), (qb1, qb2), qw)]) = x := ⟨_, rfl⟩
   rw [hb3] at HCP HASK
   have HA : Hid (askB p (6, (qa1, qa2), (qb1, qb2), qw) = b3) := by show _ = _; rw [HASK.out]; cases b3 <;> rfl
   clear hb3 HPR HR2 HASK HB1
   go_wp2_with fail
   refine HCP.out.mono ?_
   rintro e w3 ⟨rfl, hk⟩
   have HK3 := Lib.hid (HK2.out.trans hk.out)
   clear HCP HK2 hk z0 z1 z2 z3
   go_wp2_with fail
   go_ret
   exact ⟨by rw [HA.out]; first | rfl | (cases b3 <;> rfl), HK3⟩
end Go.Proofs.YtededjfjbkcepaaGreat
