/-
 The law UniverseEnough, walked.
-/
import Derived.Test.YtckikkkdabpjkaaGreatKitSq
import Derived.Test.YtckikkkdabpjkaaGreatUniLives
import Derived.Test.YtckikkkdabpjkaaGreatMY
import Derived.Test.YtckikkkdabpjkaaGreatMX
import Derived.Test.YtckikkkdabpjkaaGreatUniverseReachedWalk
set_option linter.unusedVariables false
set_option linter.unusedSimpArgs false
set_option linter.unnecessarySimpa false
namespace Go.Proofs.YtckikkkdabpjkaaGreat
open Go.ChangeShapes Go.WideShapes Go.ChangeAt Go.RowKit Go.Deep

set_option maxRecDepth 100000
set_option maxHeartbeats 6400000
theorem universeEnough_core {W : World} {ao bo co jo wo : Option Addr} {an ac bn bc cn cc jn jc wn wc : Nat} {p : Pol} (hp : PolA W (.slice ao an ac) (.slice bo bn bc) (.slice co cn cc) (.slice jo jn jc) p) {q : Qry} (hq : RowX W (.slice wo wn wc) q.2.2.2 (fun _ => True)) {mo : Option Addr} {mn mc : Nat} {C : List Stm} (hmo : SrcK stmE W (.slice mo mn mc) C) :
 Calls Tryz.prog 8 #[.agg #[.slice ao an ac, .slice bo bn bc, .slice co cn cc, .slice jo jn jc], qryV q (.slice wo wn wc), .slice mo mn mc] W fun e W' => e = .returned (.bool true) ∧ Hid (KF W W') := by
 have HM := Lib.hid hmo.1
 have HSL : Hid (∀ w, KF W w → Calls Tryz.prog 10 #[.slice mo mn mc] w (LightTo (C.length ≤ 40) w)) := fun w hk => stmslight_spec (hmo.1.keeps hk)
 have HIN : Hid (∀ w v F, KF W w → RdK stmE w v F → F.length ≤ 90 → (∀ y ∈ F, stmRB y = true) → q.2.2.2.length ≤ 40 → Calls Tryz.prog 35 #[v, qryV q (.slice wo wn wc)] w fun e W' => e = .returned (.bool (inF F q)) ∧ Hid (KF w W')) := fun w v F hk hF hl hr hl2 => win_spec hF hl (fun y hy => kind_of (hr y hy)) ((hq.into hk (fun _ _ _ x => x) (fun _ _ x => x)).1) (by omega)
 clear hmo
 have HLI := Lib.hid (fun w : World => lives21_spec w)
 have HPL : Hid (∀ w, KF W w → Calls Tryz.prog 29 #[.agg #[.slice ao an ac, .slice bo bn bc, .slice co cn cc, .slice jo jn jc]] w (LightTo (p.1.length ≤ 30 ∧ p.2.1.length ≤ 30 ∧ p.2.2.1.length ≤ 30 ∧ p.2.2.2.length ≤ 30) w)) := fun w hk => plight_spec (hp.keeps hk)
 have HQL : Hid (∀ w, KF W w → Calls Tryz.prog 30 #[qryV q (.slice wo wn wc)] w (LightTo (q.2.2.2.length ≤ 40) w)) := fun w hk => qlight_spec (hq.1.keeps hk)
 have HOF : Hid (∀ w, KF W w → p.1.length ≤ 30 ∧ p.2.1.length ≤ 30 ∧ p.2.2.1.length ≤ 30 → q.2.2.2.length ≤ 40 → Calls Tryz.prog 32 #[.agg #[.slice ao an ac, .slice bo bn bc, .slice co cn cc, .slice jo jn jc], qryV q (.slice wo wn wc)] w fun e W' => Hid (UOfTo w p q e W')) := fun w hk hl hl2 => uof_spec (hp.rows.into hk (fun _ _ _ x => x) (fun _ _ x => x)) hl.1 hl.2.1 hl.2.2 (hq.into hk (fun _ _ _ x => x) (fun _ _ x => x)) hl2
 have HRE : Hid (∀ w v C, KF W w → RdK stmE w v C → p.1.length ≤ 30 ∧ p.2.1.length ≤ 30 ∧ p.2.2.1.length ≤ 30 → C.length ≤ 1000 → Calls Tryz.prog 25 #[.agg #[.slice ao an ac, .slice bo bn bc, .slice co cn cc, .slice jo jn jc], v] w fun e W' => e = .returned (.bool (reachB p C)) ∧ Hid (KF w W')) := fun w v C hk hC hl hl2 => wreaches_spec ((hp.rows.into hk (fun _ _ _ x => x) (fun _ _ x => x)).1.1.1) ((hp.rows.into hk (fun _ _ _ x => x) (fun _ _ x => x)).2.1.1.1) ((hp.rows.into hk (fun _ _ _ x => x) (fun _ _ x => x)).2.2.1.1) hC (by omega) (by omega) (by omega) (by omega)
 obtain ⟨qk, ⟨qa1, qa2⟩, ⟨qb1, qb2⟩, qw⟩ := q
 clear hp hq
 unfold qryV
 unfold qryV at HQL HOF
 simp only at HQL HOF ⊢
 have halWA := (MapKept.heap_alloc W (bP ao an ac bo bn bc co cn cc jo jn jc)).1
 obtain ⟨WA, hWA⟩ : ∃ q, W.alloc (bP ao an ac bo bn bc co cn cc jo jn jc) = q := ⟨_, rfl⟩
 have hkWA : KF W WA := by rw [← hWA]; exact (Keeps.refl _ _).alloc _
 rw [hWA] at halWA
 obtain ⟨bWA, hbWA⟩ : ∃ q, W.heap.size = q := ⟨_, rfl⟩
 rw [hbWA] at halWA
 have halWB := (MapKept.heap_alloc WA (bQ qk qa1 qa2 qb1 qb2 wo wn wc)).1
 obtain ⟨WB, hWB⟩ : ∃ q, WA.alloc (bQ qk qa1 qa2 qb1 qb2 wo wn wc) = q := ⟨_, rfl⟩
 have hkWB : KF WA WB := by rw [← hWB]; exact (Keeps.refl _ _).alloc _
 rw [hWB] at halWB
 obtain ⟨bWB, hbWB⟩ : ∃ q, WA.heap.size = q := ⟨_, rfl⟩
 rw [hbWB] at halWB
 have HP := Lib.hid ((hkWB.block _ (lt_of_heap halWA) (fun x => x)).trans halWA)
 have HQB := Lib.hid halWB
 have HK := Lib.hid (hkWA.trans hkWB)
 clear halWA halWB hkWA hkWB
 obtain ⟨x0, y0, x1, y1, x2, y2, x3, y3⟩ := cf4 (HP.out)
 obtain ⟨z0, t0, z1, t1, z2, t2, z3, t3, z4, t4, z5, t5⟩ := cf6 (HQB.out)
 clear y0 y1 y2 y3 t0 t1 t2 t3 t4 t5
 have HC := Lib.hid (HPL.out _ HK.out)
 clear HPL
 go_enter Tryz.func8, Tryz.ntmps8
 go_upto_region 1 with fail
 (try simp only [hWA, hWB, hbWA, hbWB])
 clear hWA hWB hbWA hbWB
 unfold qryV at HIN
 simp only at HIN
 go_wp2_with fail
 refine HC.out.mono ?_
 rintro e w1 ⟨b1, rfl, hl⟩
 have HK1 := Lib.hid (HK.out.trans hl.out.2)
 have HL1 := Lib.hid hl.out.1
 have HP1 := Lib.hid ((hl.out.2.block _ (lt_of_heap HP.out) (fun x => x)).trans HP.out)
 have HQ1 := Lib.hid ((hl.out.2.block _ (lt_of_heap HQB.out) (fun x => x)).trans HQB.out)
 clear HC hl HK HP HQB x0 x1 x2 x3 z0 z1 z2 z3 z4 z5
 cases b1
 case false =>
  go_wp2_with fail
  refine (HLI.out _).mono ?_
  rintro e w9 ⟨rfl, hk⟩
  have HE := Lib.hid (HK1.out.trans hk.out)
  clear hk
  go_wp2_with fail
  go_ret
  exact ⟨rfl, HE⟩
 case true =>
  have HLN := Lib.hid (HL1.out rfl)
  clear HL1
  obtain ⟨x0, y0, x1, y1, x2, y2, x3, y3⟩ := cf4 (HP1.out)
  obtain ⟨z0, t0, z1, t1, z2, t2, z3, t3, z4, t4, z5, t5⟩ := cf6 (HQ1.out)
  clear y0 y1 y2 y3 t0 t1 t2 t3 t4 t5
  have HC := Lib.hid (HQL.out _ HK1.out)
  clear HQL
  go_wp2_with fail
  refine HC.out.mono ?_
  rintro e w2 ⟨b2, rfl, hl⟩
  have HK2 := Lib.hid (HK1.out.trans hl.out.2)
  have HL2 := Lib.hid hl.out.1
  have HP2 := Lib.hid ((hl.out.2.block _ (lt_of_heap HP1.out) (fun x => x)).trans HP1.out)
  have HQ2 := Lib.hid ((hl.out.2.block _ (lt_of_heap HQ1.out) (fun x => x)).trans HQ1.out)
  clear HC hl HK1 HP1 HQ1 x0 x1 x2 x3 z0 z1 z2 z3 z4 z5
  cases b2
  case false =>
   go_wp2_with fail
   refine (HLI.out _).mono ?_
   rintro e w9 ⟨rfl, hk⟩
   have HE := Lib.hid (HK2.out.trans hk.out)
   clear hk
   go_wp2_with fail
   go_ret
   exact ⟨rfl, HE⟩
  case true =>
   have HLW := Lib.hid (HL2.out rfl)
   clear HL2
   have HL3 : Hid (p.1.length ≤ 30 ∧ p.2.1.length ≤ 30 ∧ p.2.2.1.length ≤ 30) := ⟨HLN.out.1, HLN.out.2.1, HLN.out.2.2.1⟩
   have HLQ : Hid (qw.length ≤ 40) := HLW.out
   clear HLN HLW
   obtain ⟨x0, y0, x1, y1, x2, y2, x3, y3⟩ := cf4 (HP2.out)
   obtain ⟨z0, t0, z1, t1, z2, t2, z3, t3, z4, t4, z5, t5⟩ := cf6 (HQ2.out)
   clear y0 y1 y2 y3 t0 t1 t2 t3 t4 t5
   have HC := Lib.hid (HSL.out _ HK2.out)
   clear HSL
   go_wp2_with fail
   refine HC.out.mono ?_
   rintro e w3 ⟨b3, rfl, hl⟩
   have HK3 := Lib.hid (HK2.out.trans hl.out.2)
   have HL4 := Lib.hid hl.out.1
   have HP3 := Lib.hid ((hl.out.2.block _ (lt_of_heap HP2.out) (fun x => x)).trans HP2.out)
   have HQ3 := Lib.hid ((hl.out.2.block _ (lt_of_heap HQ2.out) (fun x => x)).trans HQ2.out)
   clear HC hl HK2 HP2 HQ2 x0 x1 x2 x3 z0 z1 z2 z3 z4 z5
   cases b3
   case false =>
    go_wp2_with fail
    refine (HLI.out _).mono ?_
    rintro e w9 ⟨rfl, hk⟩
    have HE := Lib.hid (HK3.out.trans hk.out)
    clear hk
    go_wp2_with fail
    go_ret
    exact ⟨rfl, HE⟩
   case true =>
    have HCL := Lib.hid (HL4.out rfl)
    clear HL4
    obtain ⟨x0, y0, x1, y1, x2, y2, x3, y3⟩ := cf4 (HP3.out)
    obtain ⟨z0, t0, z1, t1, z2, t2, z3, t3, z4, t4, z5, t5⟩ := cf6 (HQ3.out)
    clear y0 y1 y2 y3 t0 t1 t2 t3 t4 t5
    obtain ⟨br, hbr⟩ : ∃ x, reachB p C = x := ⟨_, rfl⟩
    have HC := Lib.hid (HRE.out _ _ C HK3.out (HM.out.keeps HK3.out) HL3.out (by have := HCL.out; omega))
    rw [hbr] at HC
    have HBR := Lib.hid hbr
    clear hbr HRE
    go_wp2_with fail
    refine HC.out.mono ?_
    rintro e w4 ⟨rfl, hl⟩
    have HK4 := Lib.hid (HK3.out.trans hl.out)
    have HP4 := Lib.hid ((hl.out.block _ (lt_of_heap HP3.out) (fun x => x)).trans HP3.out)
    have HQ4 := Lib.hid ((hl.out.block _ (lt_of_heap HQ3.out) (fun x => x)).trans HQ3.out)
    clear HC hl HK3 HP3 HQ3 x0 x1 x2 x3 z0 z1 z2 z3 z4 z5
    cases br
    case false =>
     go_wp2_with fail
     refine (HLI.out _).mono ?_
     rintro e w9 ⟨rfl, hk⟩
     have HE := Lib.hid (HK4.out.trans hk.out)
     clear hk
     go_wp2_with fail
     go_ret
     exact ⟨rfl, HE⟩
    case true =>
     obtain ⟨x0, y0, x1, y1, x2, y2, x3, y3⟩ := cf4 (HP4.out)
     obtain ⟨z0, t0, z1, t1, z2, t2, z3, t3, z4, t4, z5, t5⟩ := cf6 (HQ4.out)
     clear y0 y1 y2 y3 t0 t1 t2 t3 t4 t5
     have HRC : Hid (∀ y ∈ C, stmRB y = true) := fun y hy => ((reach_iff.1 HBR.out).1 y hy).1
     obtain ⟨bi, hbi⟩ : ∃ x, inF C (qk, (qa1, qa2), (qb1, qb2), qw) = x := ⟨_, rfl⟩
     have HC := Lib.hid (HIN.out _ _ C HK4.out (HM.out.keeps HK4.out) (by have := HCL.out; omega) HRC.out HLQ.out)
     rw [hbi] at HC
     have HBI := Lib.hid hbi
     clear hbi
     go_wp2_with fail
     refine HC.out.mono ?_
     rintro e w5 ⟨rfl, hl⟩
     have HK5 := Lib.hid (HK4.out.trans hl.out)
     have HP5 := Lib.hid ((hl.out.block _ (lt_of_heap HP4.out) (fun x => x)).trans HP4.out)
     have HQ5 := Lib.hid ((hl.out.block _ (lt_of_heap HQ4.out) (fun x => x)).trans HQ4.out)
     clear HC hl HK4 HP4 HQ4 x0 x1 x2 x3 z0 z1 z2 z3 z4 z5
     cases bi
     case true =>
      go_wp2_with fail
      refine (HLI.out _).mono ?_
      rintro e w9 ⟨rfl, hk⟩
      have HE := Lib.hid (HK5.out.trans hk.out)
      clear hk
      go_wp2_with fail
      go_ret
      exact ⟨rfl, HE⟩
     case false =>
      obtain ⟨x0, y0, x1, y1, x2, y2, x3, y3⟩ := cf4 (HP5.out)
      obtain ⟨z0, t0, z1, t1, z2, t2, z3, t3, z4, t4, z5, t5⟩ := cf6 (HQ5.out)
      clear y0 y1 y2 y3 t0 t1 t2 t3 t4 t5
      have HC := Lib.hid (HOF.out _ HK5.out HL3.out HLQ.out)
      clear HOF
      go_wp2_with fail
      refine HC.out.mono ?_
      rintro e w6 hof
      clear HC
      obtain ⟨hk, hof2⟩ := hof.out
      rcases hof2 with ⟨c, hc0, rfl, _⟩ | ⟨ha, rv, lv, pv, fv, ov, gv, lk, qv, bv, av, R, Lk, rfl, hu⟩
      case inl =>
       have hka : KF w6 (w6.alloc (.cells #[.slice none 0 0, .slice none 0 0, .slice none 0 0, .slice none 0 0, .slice none 0 0, .slice none 0 0, .bool false, .slice none 0 0, .slice none 0 0, .slice none 0 0] 54)) := (Keeps.refl _ _).alloc _
       have HK7 := Lib.hid ((HK5.out.trans hk).trans hka)
       have hcb : (c != 0) = true := by simpa using hc0
       clear hk hka hof HK5 HP5 HQ5 x0 x1 x2 x3 z0 z1 z2 z3 z4 z5
       go_upto_region 4 with fail
       generalize w6.alloc (.cells #[.slice none 0 0, .slice none 0 0, .slice none 0 0, .slice none 0 0, .slice none 0 0, .slice none 0 0, .bool false, .slice none 0 0, .slice none 0 0, .slice none 0 0] 54) = w7 at *
       go_wp2_with fail
       refine (HLI.out _).mono ?_
       rintro e w9 ⟨rfl, hk⟩
       have HE := Lib.hid (HK7.out.trans hk.out)
       clear hk
       go_wp2_with fail
       go_ret
       exact ⟨rfl, HE⟩
      case inr =>
       obtain ⟨ro, rc, hrv, _⟩ := id hu.V.rR.reads
       obtain ⟨lo, lc, hlv, _⟩ := id hu.V.rL.reads
       obtain ⟨po, pc, hpv, _⟩ := id hu.V.rP.reads
       obtain ⟨fo, fc, hfv, _⟩ := id hu.V.rF.reads
       obtain ⟨oo, oc, hov, _⟩ := id hu.V.rO.reads
       obtain ⟨go, gc, hgv, _⟩ := id hu.V.rG.reads
       obtain ⟨xo, xc, hxv, _⟩ := id hu.P.reads
       obtain ⟨yo, yc, hyv, _⟩ := id hu.B.reads
       obtain ⟨zo, zc, hzv, _⟩ := id hu.A.1.1
       obtain ⟨rn, hrn⟩ : ∃ n : Nat, rv = .slice ro n rc := ⟨_, hrv⟩
       obtain ⟨ln, hln⟩ : ∃ n : Nat, lv = .slice lo n lc := ⟨_, hlv⟩
       obtain ⟨pn, hpn⟩ : ∃ n : Nat, pv = .slice po n pc := ⟨_, hpv⟩
       obtain ⟨fn', hfn⟩ : ∃ n : Nat, fv = .slice fo n fc := ⟨_, hfv⟩
       obtain ⟨on', hon⟩ : ∃ n : Nat, ov = .slice oo n oc := ⟨_, hov⟩
       obtain ⟨gn, hgn⟩ : ∃ n : Nat, gv = .slice go n gc := ⟨_, hgv⟩
       obtain ⟨xn, hxn⟩ : ∃ n : Nat, qv = .slice xo n xc := ⟨_, hxv⟩
       obtain ⟨yn, hyn0⟩ : ∃ n, (uB p (qk, (qa1, qa2), (qb1, qb2), qw) R Lk).length = n := ⟨_, rfl⟩
       have hyn : bv = .slice yo yn yc := by rw [← hyn0]; exact hyv
       have HYN := Lib.hid hyn0
       obtain ⟨zn, hzn⟩ : ∃ n : Nat, av = .slice zo n zc := ⟨_, hzv⟩
       clear hrv hlv hpv hfv hov hgv hxv hyv hzv hyn0
       subst hrn hln hpn hfn hon hgn hxn hyn hzn
       have hka : KF w6 (w6.alloc (.cells #[.slice ro rn rc, .slice lo ln lc, .slice po pn pc, .slice fo fn' fc, .slice oo on' oc, .slice go gn gc, .bool lk, .slice xo xn xc, .slice yo yn yc, .slice zo zn zc] 54)) := (Keeps.refl _ _).alloc _
       have HU7 := Lib.hid (MapKept.heap_alloc w6 (.cells #[.slice ro rn rc, .slice lo ln lc, .slice po pn pc, .slice fo fn' fc, .slice oo on' oc, .slice go gn gc, .bool lk, .slice xo xn xc, .slice yo yn yc, .slice zo zn zc] 54)).1
       have HQ7 := Lib.hid (((hk.trans hka).block _ (lt_of_heap HQ5.out) (fun x => x)).trans HQ5.out)
       have HK7 := Lib.hid ((HK5.out.trans hk).trans hka)
       have HLE := Lib.hid (uni_lens HL3.out.1 HL3.out.2.1 HL3.out.2.2 hu.V.way hu.b61)
       have HRB : Hid (∀ N, ∀ y ∈ uSt p (qk, (qa1, qa2), (qb1, qb2), qw) R Lk N, stmRB y = true) := fun N y hy => ((reach_iff.1 (uni_reached ha hu.V.way N)).1 y hy).1
       have h6 : qk = 6 := (ask_parts ha).2.1
       have HEN : Hid (¬ ∀ M, M < 2 ^ (uB p (qk, (qa1, qa2), (qb1, qb2), qw) R Lk).length → inF (uSt p (qk, (qa1, qa2), (qb1, qb2), qw) R Lk M) (qk, (qa1, qa2), (qb1, qb2), qw) = true) := fun hall => by
        have hne : ¬ ∀ w, Der C (qa1, qa2) w → Der C (qb1, qb2) w := fun h => by
         have := (inF6 (fun y hy => kind_of (HRC.out y hy)) (q := (qk, (qa1, qa2), (qb1, qb2), qw)) h6).2 h
         rw [HBI.out] at this
         cases this
        obtain ⟨x, hx⟩ := Classical.not_forall.1 hne
        obtain ⟨hx1, hx2⟩ := Classical.not_imp.1 hx
        obtain ⟨M, hM, x', g1, g2⟩ := uni_enough (q := (qk, (qa1, qa2), (qb1, qb2), qw)) ha hu.V.way hu.V.shut hu.n0 HBR.out hx1 hx2
        exact g2 ((inF6 (fun y hy => kind_of (HRB.out M y hy)) (q := (qk, (qa1, qa2), (qb1, qb2), qw)) h6).1 (hall M hM) x' g1)
       have HST : Hid (∀ w, KF (w6.alloc (.cells #[.slice ro rn rc, .slice lo ln lc, .slice po pn pc, .slice fo fn' fc, .slice oo on' oc, .slice go gn gc, .bool lk, .slice xo xn xc, .slice yo yn yc, .slice zo zn zc] 54)) w → ∀ N : Nat, N < 18446744073709551616 → Calls Tryz.prog 33 #[.agg #[.slice ro rn rc, .slice lo ln lc, .slice po pn pc, .slice fo fn' fc, .slice oo on' oc, .slice go gn gc, .bool lk, .slice xo xn xc, .slice yo yn yc, .slice zo zn zc], .int .u64 (N : Int)] w fun e W' => ∃ v', e = .returned v' ∧ Hid (KF w W' ∧ OwnK stmE w.heap.size W' v' (uSt p (qk, (qa1, qa2), (qb1, qb2), qw) R Lk N))) := fun w hkw N hN => by
        have kk := hka.trans hkw
        exact ustate_spec ((hu.A.into kk (fun _ _ _ z => z) (fun _ _ x => x)).1) (hu.V.rF.src.keeps kk) (hu.B.reads.keeps kk) (by have := HLE.out.1; omega) (by have := HLE.out.2.1; omega) (by exact hu.b61) N hN
       obtain ⟨ub, hub⟩ : ∃ q, w6.heap.size = q := ⟨_, rfl⟩
       rw [hub] at HU7
       clear hk hka hof hu ha h6 HK5 HP5 HQ5 x0 x1 x2 x3 z0 z1 z2 z3 z4 z5
       go_upto_region 4 with fail
       (try simp only [hub])
       clear hub
       generalize w6.alloc (.cells #[.slice ro rn rc, .slice lo ln lc, .slice po pn pc, .slice fo fn' fc, .slice oo on' oc, .slice go gn gc, .bool lk, .slice xo xn xc, .slice yo yn yc, .slice zo zn zc] 54) = w7 at *
       obtain ⟨v0, f0, v1, f1, v2, f2, v3, f3, v4, f4, v5, f5, v6, f6, v7, f7, v8, f8, v9, f9⟩ := cf10 HU7.out
       clear f0 f1 f2 f3 f4 f5 f6 f7 f8 f9
       by_cases h9 : 9 < yn
       case pos =>
        have h9I : (9 : Int) < (yn : Int) := by omega
        go_wp2_with fail
        refine (HLI.out _).mono ?_
        rintro e w9 ⟨rfl, hk⟩
        have HE := Lib.hid (HK7.out.trans hk.out)
        clear hk
        go_wp2_with fail
        go_ret
        exact ⟨rfl, HE⟩
       case neg =>
        have h9I : ¬ (9 : Int) < (yn : Int) := by omega
        have hp9 : 2 ^ yn ≤ 512 := by
         have := Nat.pow_le_pow_right (n := 2) (by decide) (show yn ≤ 9 by omega)
         omega
        obtain ⟨m, hm⟩ : ∃ m, 2 ^ yn = m := ⟨_, rfl⟩
        have hmin : min yn 64 = yn := Nat.min_eq_left (by omega)
        have hpw : (2 : Int) ^ yn = (m : Int) := by rw [← hm]; simp
        have hwm : IntKind.u64.wrap (m : Int) = (m : Int) := by rw [IntKind.wrap_u64]; omega
        have hyn0 : ¬ (yn : Int) < 0 := by omega
        rw [hm] at hp9
        have HMM : Hid (m = 2 ^ (uB p (qk, (qa1, qa2), (qb1, qb2), qw) R Lk).length) := by show _ = _; rw [HYN.out, hm]
        have HI0 : Hid (KF w7 w7 ∧ ∀ M, M < 0 → inF (uSt p (qk, (qa1, qa2), (qb1, qb2), qw) R Lk M) (qk, (qa1, qa2), (qb1, qb2), qw) = true) := ⟨Keeps.refl _ _, fun M h => absurd h (Nat.not_lt_zero _)⟩
        clear hm
        go_wp2_with fail
        clear v0 v1 v2 v3 v4 v5 v6 v7 v8 v9
        go_loopg [54] m (fun g t wx => ∃ i : Nat, i ≤ m ∧ g = m - i ∧ t = .int .u64 i ∧ Hid (KF w7 wx ∧ ∀ M, M < i → inF (uSt p (qk, (qa1, qa2), (qb1, qb2), qw) R Lk M) (qk, (qa1, qa2), (qb1, qb2), qw) = true))
        case atStart => exact ⟨0, Nat.zero_le _, rfl, rfl, HI0⟩
        case round =>
         clear HI0
         obtain ⟨i, hi, rfl, rfl, HI⟩ := hrel
         by_cases hlt : i < m
         ·have hiI : (i : Int) < (m : Int) := by omega
          have hwi : IntKind.u64.wrap ((i : Int) + 1) = (i : Int) + 1 := by rw [IntKind.wrap_u64]; omega
          have HIS : Hid (∀ w v, KF w7 w → RdK stmE w v (uSt p (qk, (qa1, qa2), (qb1, qb2), qw) R Lk i) → Calls Tryz.prog 35 #[v, .agg #[.int .i64 qk, .string ⟨qa1.toArray⟩, .string ⟨qa2.toArray⟩, .string ⟨qb1.toArray⟩, .string ⟨qb2.toArray⟩, .slice wo wn wc]] w fun e W' => e = .returned (.bool (inF (uSt p (qk, (qa1, qa2), (qb1, qb2), qw) R Lk i) (qk, (qa1, qa2), (qb1, qb2), qw))) ∧ Hid (KF w W')) := fun w v hk hv => HIN.out w v _ (HK7.out.trans hk) hv (by have h4 := HLE.out.2.2.2 i; have h5 := HYN.out; omega) (HRB.out i) HLQ.out
          have hi64 : i < 18446744073709551616 := by omega
          obtain ⟨bx, hbx⟩ : ∃ x, inF (uSt p (qk, (qa1, qa2), (qb1, qb2), qw) R Lk i) (qk, (qa1, qa2), (qb1, qb2), qw) = x := ⟨_, rfl⟩
          rw [hbx] at HIS
          have HBX := Lib.hid hbx
          clear hbx
          have HU8 := Lib.hid ((HI.out.1.block _ (lt_of_heap HU7.out) (fun x => x)).trans HU7.out)
          have HQ8 := Lib.hid ((HI.out.1.block _ (lt_of_heap HQ7.out) (fun x => x)).trans HQ7.out)
          obtain ⟨v0, f0, v1, f1, v2, f2, v3, f3, v4, f4, v5, f5, v6, f6, v7, f7, v8, f8, v9, f9⟩ := cf10 HU8.out
          obtain ⟨z0, t0, z1, t1, z2, t2, z3, t3, z4, t4, z5, t5⟩ := cf6 HQ8.out
          clear f0 f1 f2 f3 f4 f5 f6 f7 f8 f9 t0 t1 t2 t3 t4 t5 HU8 HQ8
          go_upto_region 9 with fail
          have HMK1 : Hid (∀ w' : World, KF wr w' → w'.cell? ⟨ub, 0, none⟩ = some (.slice ro rn rc) ∧ w'.cell? ⟨ub, 1, none⟩ = some (.slice lo ln lc) ∧ w'.cell? ⟨ub, 2, none⟩ = some (.slice po pn pc) ∧ w'.cell? ⟨ub, 3, none⟩ = some (.slice fo fn' fc) ∧ w'.cell? ⟨ub, 4, none⟩ = some (.slice oo on' oc) ∧ w'.cell? ⟨ub, 5, none⟩ = some (.slice go gn gc) ∧ w'.cell? ⟨ub, 6, none⟩ = some (.bool lk) ∧ w'.cell? ⟨ub, 7, none⟩ = some (.slice xo xn xc) ∧ w'.cell? ⟨ub, 8, none⟩ = some (.slice yo yn yc) ∧ w'.cell? ⟨ub, 9, none⟩ = some (.slice zo zn zc) ∧ w'.cell? ⟨bWB, 0, none⟩ = some (.int .i64 qk) ∧ w'.cell? ⟨bWB, 1, none⟩ = some (.string ⟨qa1.toArray⟩) ∧ w'.cell? ⟨bWB, 2, none⟩ = some (.string ⟨qa2.toArray⟩) ∧ w'.cell? ⟨bWB, 3, none⟩ = some (.string ⟨qb1.toArray⟩) ∧ w'.cell? ⟨bWB, 4, none⟩ = some (.string ⟨qb2.toArray⟩) ∧ w'.cell? ⟨bWB, 5, none⟩ = some (.slice wo wn wc)) := fun w' hk => ⟨kc hk v0, kc hk v1, kc hk v2, kc hk v3, kc hk v4, kc hk v5, kc hk v6, kc hk v7, kc hk v8, kc hk v9, kc hk z0, kc hk z1, kc hk z2, kc hk z3, kc hk z4, kc hk z5⟩
          have HKX1 : Hid (KF wr wr.drew) := (Keeps.refl _ _).drew
          have hS0 := HMK1.out _ HKX1.out
          clear v0 v1 v2 v3 v4 v5 v6 v7 v8 v9 z0 z1 z2 z3 z4 z5
          refine wp_region_noPanic ?_
          refine wp_region_held_drew (S := (fun w' => w'.cell? ⟨ub, 0, none⟩ = some (.slice ro rn rc) ∧ w'.cell? ⟨ub, 1, none⟩ = some (.slice lo ln lc) ∧ w'.cell? ⟨ub, 2, none⟩ = some (.slice po pn pc) ∧ w'.cell? ⟨ub, 3, none⟩ = some (.slice fo fn' fc) ∧ w'.cell? ⟨ub, 4, none⟩ = some (.slice oo on' oc) ∧ w'.cell? ⟨ub, 5, none⟩ = some (.slice go gn gc) ∧ w'.cell? ⟨ub, 6, none⟩ = some (.bool lk) ∧ w'.cell? ⟨ub, 7, none⟩ = some (.slice xo xn xc) ∧ w'.cell? ⟨ub, 8, none⟩ = some (.slice yo yn yc) ∧ w'.cell? ⟨ub, 9, none⟩ = some (.slice zo zn zc) ∧ w'.cell? ⟨bWB, 0, none⟩ = some (.int .i64 qk) ∧ w'.cell? ⟨bWB, 1, none⟩ = some (.string ⟨qa1.toArray⟩) ∧ w'.cell? ⟨bWB, 2, none⟩ = some (.string ⟨qa2.toArray⟩) ∧ w'.cell? ⟨bWB, 3, none⟩ = some (.string ⟨qb1.toArray⟩) ∧ w'.cell? ⟨bWB, 4, none⟩ = some (.string ⟨qb2.toArray⟩) ∧ w'.cell? ⟨bWB, 5, none⟩ = some (.slice wo wn wc))) (by kernel_rfl) hS0 (fun hHeld => ?_)
          clear hS0
          generalize wr.drew = wA at *
          refine tk 0 rfl hHeld ?_
          refine tk 1 rfl hHeld ?_
          refine tk 3 rfl hHeld ?_
          (try simp only [nz])
          refine on1 2 rfl fun KK hK => ?_
          go_simp
          refine (HST.out _ (HI.out.1.trans HKX1.out) i hi64).mono ?_
          rintro e wB ⟨a1, rfl, hk⟩
          have HA1 := Lib.hid hk.out.2.reads
          replace HKX1 := Lib.hid (HKX1.out.trans hk.out.1)
          clear hk 
          go_simp
          refine hK.out _ _ (HMK1.out _ HKX1.out) fun hHeld => ?_
          clear hK KK
          (try simp only [nz])
          refine on1 4 rfl fun KK hK => ?_
          go_simp
          refine (HIS.out _ _ (HI.out.1.trans HKX1.out) HA1.out).mono ?_
          rintro e wC ⟨rfl, hk⟩
          replace HKX1 := Lib.hid (HKX1.out.trans hk.out)
          clear hk 
          go_simp
          refine hK.out _ _ (HMK1.out _ HKX1.out) fun hHeld => ?_
          clear hK KK
          (try simp only [nz])
          refine on1 5 rfl fun KK hK => ?_
          go_simp
          refine hK.out _ _ (HMK1.out _ HKX1.out) fun hHeld => ?_
          clear hK KK
          (try simp only [nz])
          refine wpAnyH_done (by kernel_rfl) ?_ _
          refine NoPanic.normal ?_
          clear hHeld HMK1
          have HI2 : Hid (KF w7 wC ∧ ∀ M, M < i → inF (uSt p (qk, (qa1, qa2), (qb1, qb2), qw) R Lk M) (qk, (qa1, qa2), (qb1, qb2), qw) = true) := ⟨HI.out.1.trans HKX1.out, HI.out.2⟩
          clear HI HKX1 HA1 HIS
          cases bx
          case false =>
           have HK9 := Lib.hid (HK7.out.trans HI2.out.1)
           go_wp2_with fail
           refine (HLI.out _).mono ?_
           rintro e w9 ⟨rfl, hk⟩
           have HE := Lib.hid (HK9.out.trans hk.out)
           clear hk
           go_wp2_with fail
           go_ret
           exact ⟨rfl, HE⟩
          case true =>
           have HN2 : Hid (KF w7 wC ∧ ∀ M, M < i + 1 → inF (uSt p (qk, (qa1, qa2), (qb1, qb2), qw) R Lk M) (qk, (qa1, qa2), (qb1, qb2), qw) = true) := ⟨HI2.out.1, fun M hM => by
            rcases Nat.lt_or_ge M i with e | e
            ·exact HI2.out.2 M e
            ·obtain rfl : M = i := by omega
             exact HBX.out⟩
           clear HI2
           go_wp2_with fail
           go_roundg (m - (i + 1))
           case measure => omega
           case rel => exact ⟨i + 1, by omega, rfl, by go_num, HN2⟩
         ·exfalso
          obtain rfl : i = m := by omega
          exact HEN.out (fun M hM => HI.out.2 M (by rw [HMM.out]; exact hM))
theorem universeEnough_walk {W : World} {ao bo co jo wo : Option Addr} {an ac bn bc cn cc jn jc wn wc : Nat} {p : Pol} (hp : PolA W (.slice ao an ac) (.slice bo bn bc) (.slice co cn cc) (.slice jo jn jc) p) {q : Qry} (hq : ReadsS W (.slice wo wn wc) q.2.2.2) (hl : ∀ k, (.slice wo wn wc : Value).ownBlock = some k → k < W.heap.size) {mo : Option Addr} {mn mc : Nat} {C : List Stm} (hmo : SrcK stmE W (.slice mo mn mc) C) :
 Calls Tryz.prog 8 #[.agg #[.slice ao an ac, .slice bo bn bc, .slice co cn cc, .slice jo jn jc], qryV q (.slice wo wn wc), .slice mo mn mc] W fun e w' => e = .returned (.bool true) ∧ Below W.heap.size W w' :=
 (universeEnough_core hp ⟨hq, fun k hk => ⟨hl k hk, trivial⟩⟩ hmo).mono fun e w' h => ⟨h.1, h.2.out.below (Nat.le_refl _) (fun _ _ x => x.elim)⟩
end Go.Proofs.YtckikkkdabpjkaaGreat
