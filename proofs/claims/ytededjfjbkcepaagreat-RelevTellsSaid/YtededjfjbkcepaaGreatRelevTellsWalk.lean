/-
 The law RelevTells, walked.
-/
import Derived.Test.YtededjfjbkcepaaGreatKitSq
import Derived.Test.YtededjfjbkcepaaGreatMR
import Derived.Test.YtededjfjbkcepaaGreatMQ
set_option linter.unusedVariables false
set_option linter.unusedSimpArgs false
set_option linter.unnecessarySimpa false
namespace Go.Proofs.YtededjfjbkcepaaGreat
open Go.ChangeShapes Go.WideShapes Go.ChangeAt Go.RowKit Go.Deep
set_option maxRecDepth 100000
set_option maxHeartbeats 6400000
theorem relevTells_core {W : World} {ao bo co jo wo : Option Addr} {an ac bn bc cn cc jn jc wn wc : Nat} {p : Pol} (hp : PolA W (.slice ao an ac) (.slice bo bn bc) (.slice co cn cc) (.slice jo jn jc) p) {q : Qry} (hq : RowX W (.slice wo wn wc) q.2.2.2 (fun _ => True)) (r : Rol) :
 Calls Tryz.prog 7 #[.agg #[.slice ao an ac, .slice bo bn bc, .slice co cn cc, .slice jo jn jc], qryV q (.slice wo wn wc), rolV2 r] W fun e W' => e = .returned (.bool true) ∧ Hid (KF W W') := by
 have HLI := Lib.hid (fun w : World => lives20_spec w)
 have HPL : Hid (∀ w, KF W w → Calls Tryz.prog 34 #[.agg #[.slice ao an ac, .slice bo bn bc, .slice co cn cc, .slice jo jn jc]] w (LightTo (p.1.length ≤ 30 ∧ p.2.1.length ≤ 30 ∧ p.2.2.1.length ≤ 30 ∧ p.2.2.2.length ≤ 30) w)) := fun w hk => plight_spec (hp.keeps hk)
 have HQL : Hid (∀ w, KF W w → Calls Tryz.prog 35 #[qryV q (.slice wo wn wc)] w (LightTo (q.2.2.2.length ≤ 40) w)) := fun w hk => qlight_spec (hq.1.keeps hk)
 have HOF : Hid (∀ w, KF W w → p.1.length ≤ 30 ∧ p.2.1.length ≤ 30 ∧ p.2.2.1.length ≤ 30 → q.2.2.2.length ≤ 40 → Calls Tryz.prog 37 #[.agg #[.slice ao an ac, .slice bo bn bc, .slice co cn cc, .slice jo jn jc], qryV q (.slice wo wn wc)] w fun e W' => Hid (OfTo w p q e W')) := fun w hk hl hl2 => of_spec (hp.rows.into hk (fun _ _ _ x => x) (fun _ _ x => x)) (by omega) (by omega) (by omega) (hq.into hk (fun _ _ _ x => x) (fun _ _ x => x)) (by omega)
 have HRI : Hid (∀ w, KF W w → p.1.length ≤ 30 ∧ p.2.1.length ≤ 30 ∧ p.2.2.1.length ≤ 30 → q.2.2.2.length ≤ 40 → Calls Tryz.prog 38 #[.agg #[.slice ao an ac, .slice bo bn bc, .slice co cn cc, .slice jo jn jc], qryV q (.slice wo wn wc)] w fun e W' => e = .returned (.bool (askB p q)) ∧ Hid (KF w W')) := fun w hk hl hl2 => wright_spec (hp.rows.into hk (fun _ _ _ x => x) (fun _ _ x => x)) (by omega) (by omega) (by omega) (hq.into hk (fun _ _ _ x => x) (fun _ _ x => x)) (by omega)
 have HWO : Hid (∀ w, KF W w → p.1.length ≤ 30 ∧ p.2.1.length ≤ 30 ∧ p.2.2.1.length ≤ 30 → askB p q = true → Calls Tryz.prog 40 #[.agg #[.slice ao an ac, .slice bo bn bc, .slice co cn cc, .slice jo jn jc], qryV q (.slice wo wn wc)] w fun e W' => ∃ rv lv pv fv ov gv R Lk, e = .returned (.agg #[rv, lv, pv, fv, ov, gv, .bool (linkV p.2.1 p.2.2.1 p.1 R Lk)]) ∧ Hid (KF w W' ∧ OnWay p.2.1 p.2.2.1 p.1 q.2.1 q.2.2.1 R Lk ∧ Shut2 p.2.1 p.2.2.1 p.1 R Lk ∧ VwR W' rv lv pv fv ov gv R Lk (tabL (whosV p.2.1 p.2.2.1 p.1 R Lk)) (fixV p.2.1 p.2.2.1 p.1 R Lk) (looseV p.2.1 p.2.2.1 p.1 R Lk) (sortO rolLt (sigV p.2.1 p.2.2.1 p.1 q.2.2.1 R Lk)))) := fun w hk hl ha => wof_spec (hp.rows.into hk (fun _ _ _ x => x) (fun _ _ x => x)) (by omega) (by omega) (by omega) (ask_kinds ha) q
 clear hp hq
 obtain ⟨qk, ⟨qa1, qa2⟩, ⟨qb1, qb2⟩, qw⟩ := q
 obtain ⟨r1, r2⟩ := r
 unfold rolV2 qryV
 unfold qryV at HQL HOF HRI HWO
 simp only at HQL HOF HRI HWO ⊢
 have halWA := (MapKept.heap_alloc W (bP ao an ac bo bn bc co cn cc jo jn jc)).1
 obtain ⟨WA, hWA⟩ : ∃ q, W.alloc (bP ao an ac bo bn bc co cn cc jo jn jc) = q := ⟨_, rfl⟩
 have hkWA : KF W WA := by rw [← hWA]; exact (Keeps.refl _ _).alloc _
 rw [hWA] at halWA
 obtain ⟨bWA, hbWA⟩ : ∃ q, W.heap.size = q := ⟨_, rfl⟩
 rw [hbWA] at halWA
 have halWB := (MapKept.heap_alloc WA (bQ qk qa1 qa2 qb1 qb2 wo wn wc)).1
 obtain ⟨WB, hWB⟩ : ∃ q, WA.alloc (bQ qk qa1 qa2 qb1 qb2 wo wn wc) = q := ⟨_, rfl⟩
 have hkWB : KF WA WB := by rw [← hWB]; exact (Keeps.refl _ _).alloc _
 rw [hWB] at halWB
 obtain ⟨bWB, hbWB⟩ : ∃ q, WA.heap.size = q := ⟨_, rfl⟩
 rw [hbWB] at halWB
 have halWC := (MapKept.heap_alloc WB (bR r1 r2)).1
 obtain ⟨WC, hWC⟩ : ∃ q, WB.alloc (bR r1 r2) = q := ⟨_, rfl⟩
 have hkWC : KF WB WC := by rw [← hWC]; exact (Keeps.refl _ _).alloc _
 rw [hWC] at halWC
 obtain ⟨bWC, hbWC⟩ : ∃ q, WB.heap.size = q := ⟨_, rfl⟩
 rw [hbWC] at halWC
 have HP := Lib.hid (((hkWB.trans hkWC).block _ (lt_of_heap halWA) (fun x => x)).trans halWA)
 have HQB := Lib.hid ((hkWC.block _ (lt_of_heap halWB) (fun x => x)).trans halWB)
 have HRB := Lib.hid halWC
 have HK := Lib.hid (hkWA.trans (hkWB.trans hkWC))
 clear halWA halWB halWC hkWA hkWB hkWC
 obtain ⟨x0, y0, x1, y1, x2, y2, x3, y3⟩ := cf4 (HP.out)
 obtain ⟨z0, t0, z1, t1, z2, t2, z3, t3, z4, t4, z5, t5⟩ := cf6 (HQB.out)
 clear y0 y1 y2 y3 t0 t1 t2 t3 t4 t5
 have HC := Lib.hid (HPL.out _ HK.out)
 clear HPL
 go_enter Tryz.func7, Tryz.ntmps7
 go_upto_region 1 with fail
 (try simp only [hWA, hWB, hWC, hbWA, hbWB, hbWC])
 clear hWA hWB hWC hbWA hbWB hbWC
 go_wp2_with fail
 refine HC.out.mono ?_
 rintro e w1 ⟨b1, rfl, hl⟩
 have HK1 := Lib.hid (HK.out.trans hl.out.2)
 have HL1 := Lib.hid hl.out.1
 have HP1 := Lib.hid ((hl.out.2.block _ (lt_of_heap HP.out) (fun x => x)).trans HP.out)
 have HQ1 := Lib.hid ((hl.out.2.block _ (lt_of_heap HQB.out) (fun x => x)).trans HQB.out)
 have HR1 := Lib.hid ((hl.out.2.block _ (lt_of_heap HRB.out) (fun x => x)).trans HRB.out)
 clear HC hl HK HP HQB HRB x0 x1 x2 x3 z0 z1 z2 z3 z4 z5
 cases b1
 case false =>
  go_wp2_with fail
  refine (HLI.out _).mono ?_
  rintro e w9 ⟨rfl, hk⟩
  have HE := Lib.hid (HK1.out.trans hk.out)
  clear hk
  go_wp2_with fail
  go_ret
  exact ⟨rfl, HE⟩
 case true =>
  have HLN := Lib.hid (HL1.out rfl)
  clear HL1
  obtain ⟨x0, y0, x1, y1, x2, y2, x3, y3⟩ := cf4 (HP1.out)
  obtain ⟨z0, t0, z1, t1, z2, t2, z3, t3, z4, t4, z5, t5⟩ := cf6 (HQ1.out)
  clear y0 y1 y2 y3 t0 t1 t2 t3 t4 t5
  have HC := Lib.hid (HQL.out _ HK1.out)
  clear HQL
  go_wp2_with fail
  refine HC.out.mono ?_
  rintro e w2 ⟨b2, rfl, hl⟩
  have HK2 := Lib.hid (HK1.out.trans hl.out.2)
  have HL2 := Lib.hid hl.out.1
  have HP2 := Lib.hid ((hl.out.2.block _ (lt_of_heap HP1.out) (fun x => x)).trans HP1.out)
  have HQ2 := Lib.hid ((hl.out.2.block _ (lt_of_heap HQ1.out) (fun x => x)).trans HQ1.out)
  have HR2 := Lib.hid ((hl.out.2.block _ (lt_of_heap HR1.out) (fun x => x)).trans HR1.out)
  clear HC hl HK1 HP1 HQ1 HR1 x0 x1 x2 x3 z0 z1 z2 z3 z4 z5
  cases b2
  case false =>
   go_wp2_with fail
   refine (HLI.out _).mono ?_
   rintro e w9 ⟨rfl, hk⟩
   have HE := Lib.hid (HK2.out.trans hk.out)
   clear hk
   go_wp2_with fail
   go_ret
   exact ⟨rfl, HE⟩
  case true =>
   have HLW := Lib.hid (HL2.out rfl)
   clear HL2
   have HL3 : Hid (p.1.length ≤ 30 ∧ p.2.1.length ≤ 30 ∧ p.2.2.1.length ≤ 30) := ⟨HLN.out.1, HLN.out.2.1, HLN.out.2.2.1⟩
   have HLQ : Hid (qw.length ≤ 40) := HLW.out
   clear HLN HLW
   obtain ⟨x0, y0, x1, y1, x2, y2, x3, y3⟩ := cf4 (HP2.out)
   obtain ⟨z0, t0, z1, t1, z2, t2, z3, t3, z4, t4, z5, t5⟩ := cf6 (HQ2.out)
   clear y0 y1 y2 y3 t0 t1 t2 t3 t4 t5
   have HC := Lib.hid (HOF.out _ HK2.out HL3.out HLQ.out)
   clear HOF
   go_wp2_with fail
   refine HC.out.mono ?_
   rintro e w3 hof
   clear HC
   rcases hof.out with ⟨ha, rfl, hk⟩ | ⟨ha, rv, lv, pv, fv, ov, gv, lk, R, Lk, rfl, hk, hv⟩
   ·skip
    have HA := Lib.hid ha
    have HP3 := Lib.hid ((hk.block _ (lt_of_heap HP2.out) (fun x => x)).trans HP2.out)
    have HQ3 := Lib.hid ((hk.block _ (lt_of_heap HQ2.out) (fun x => x)).trans HQ2.out)
    have hkA : KF w3 (w3.alloc (.cells #[.slice none 0 0, .slice none 0 0, .slice none 0 0, .slice none 0 0, .slice none 0 0, .slice none 0 0, .bool false] 62)) := (Keeps.refl _ _).alloc _
    have HV4 := Lib.hid (MapKept.heap_alloc w3 (.cells #[.slice none 0 0, .slice none 0 0, .slice none 0 0, .slice none 0 0, .slice none 0 0, .slice none 0 0, .bool false] 62)).1
    have HP4 := Lib.hid ((hkA.block _ (lt_of_heap HP3.out) (fun x => x)).trans HP3.out)
    have HQ4 := Lib.hid ((hkA.block _ (lt_of_heap HQ3.out) (fun x => x)).trans HQ3.out)
    have HK4 := Lib.hid ((HK2.out.trans hk).trans hkA)
    obtain ⟨vb, hvb⟩ : ∃ q, w3.heap.size = q := ⟨_, rfl⟩
    rw [hvb] at HV4
    clear hof ha hk hkA HP2 HQ2 HR2 HK2 HP3 HQ3 HWO x0 x1 x2 x3 z0 z1 z2 z3 z4 z5
    go_upto_region 4 with fail
    (try simp only [hvb])
    clear hvb
    generalize w3.alloc (.cells #[.slice none 0 0, .slice none 0 0, .slice none 0 0, .slice none 0 0, .slice none 0 0, .slice none 0 0, .bool false] 62) = w4 at *
    obtain ⟨x0, y0, x1, y1, x2, y2, x3, y3⟩ := cf4 (HP4.out)
    obtain ⟨z0, t0, z1, t1, z2, t2, z3, t3, z4, t4, z5, t5⟩ := cf6 (HQ4.out)
    clear y0 y1 y2 y3 t0 t1 t2 t3 t4 t5
    have HC := Lib.hid (HRI.out _ HK4.out HL3.out HLQ.out)
    rw [HA.out] at HC
    clear HRI HA
    go_wp2_with fail
    refine HC.out.mono ?_
    rintro e w5 ⟨rfl, hk⟩
    have HK5 := Lib.hid (HK4.out.trans hk.out)
    have HV5 := Lib.hid ((hk.out.block _ (lt_of_heap HV4.out) (fun x => x)).trans HV4.out)
    obtain ⟨v0, u0, v1, u1, v2, u2, v3, u3, v4, u4, v5, u5, v6, u6⟩ := cf7 HV5.out
    have HVN : Hid (VwR w5 (.slice none 0 0) (.slice none 0 0) (.slice none 0 0) (.slice none 0 0) (.slice none 0 0) (.slice none 0 0) [] [] [] [] [] []) := ⟨(rdX_nil rolE w5 (fun _ => True)).1.1, (rowX_nil w5 (fun _ => True)).1, (rowX_nil w5 (fun _ => True)).1, (rdX_nil stmE w5 (fun _ => True)).1.1, (rdX_nil stmE w5 (fun _ => True)).1.1, (rdX_nil rolE w5 (fun _ => True)).1.1⟩
    have HSM := Lib.hid (wsame_spec (lk := false) HVN.out HVN.out (by decide) (by decide) (by decide) (by decide) (by decide) (by decide))
    clear HC hk HK4 HP4 HQ4 HV4 HVN u0 u1 u2 u3 u4 u5 u6 x0 x1 x2 x3 z0 z1 z2 z3 z4 z5
    go_wp2_with fail
    refine HSM.out.mono ?_
    rintro e w6 ⟨rfl, hk⟩
    have HK6 := Lib.hid (HK5.out.trans hk.out)
    clear HSM hk HV5 v0 v1 v2 v3 v4 v5 v6
    go_wp2_with fail
    refine (HLI.out _).mono ?_
    rintro e w9 ⟨rfl, hk⟩
    have HE := Lib.hid (HK6.out.trans hk.out)
    clear hk
    go_wp2_with fail
    go_ret
    exact ⟨rfl, HE⟩
   ·skip
    have HA := Lib.hid ha
    have hlw := hv.way.lens
    have hl3 := HL3.out
    obtain ⟨n3, n4, n5, n6⟩ := view_lens (g := p.2.1) (h := p.2.2.1) (R := R) (L := Lk) (l := p.1) (B := (qb1, qb2)) (by omega) (by omega) (by omega) (by omega)
    have HNS : Hid (R.length ≤ 200 ∧ Lk.length ≤ 200 ∧ (tabL (whosV p.2.1 p.2.2.1 p.1 R Lk)).length ≤ 1000 ∧ (fixV p.2.1 p.2.2.1 p.1 R Lk).length ≤ 60 ∧ (looseV p.2.1 p.2.2.1 p.1 R Lk).length ≤ 60 ∧ (sortO rolLt (sigV p.2.1 p.2.2.1 p.1 (qb1, qb2) R Lk)).length ≤ 60) := ⟨by omega, by omega, n3, n4, n5, n6⟩
    obtain ⟨ro, rc, hrv, _⟩ := id hv.rR.reads
    obtain ⟨lo, lc, hlv, _⟩ := id (ownK_str.1 hv.rL).reads
    obtain ⟨po, pc, hpv, _⟩ := id (ownK_str.1 hv.rP).reads
    obtain ⟨fo, fc, hfv, _⟩ := id hv.rF.reads
    obtain ⟨oo, oc, hov, _⟩ := id hv.rO.reads
    obtain ⟨go, gc, hgv, _⟩ := id hv.rG.reads
    have HVW : Hid (VwR w3 rv lv pv fv ov gv R Lk (tabL (whosV p.2.1 p.2.2.1 p.1 R Lk)) (fixV p.2.1 p.2.2.1 p.1 R Lk) (looseV p.2.1 p.2.2.1 p.1 R Lk) (sortO rolLt (sigV p.2.1 p.2.2.1 p.1 (qb1, qb2) R Lk))) := ⟨hv.rR.reads, (ownK_str.1 hv.rL).reads, (ownK_str.1 hv.rP).reads, hv.rF.reads, hv.rO.reads, hv.rG.reads⟩
    have HWY : Hid (OnWay p.2.1 p.2.2.1 p.1 (qa1, qa2) (qb1, qb2) R Lk ∧ Shut2 p.2.1 p.2.2.1 p.1 R Lk ∧ lk = linkV p.2.1 p.2.2.1 p.1 R Lk) := ⟨hv.way, hv.shut, hv.lk⟩
    obtain ⟨rn, hrn⟩ : ∃ n : Nat, rv = .slice ro n rc := ⟨_, hrv⟩
    obtain ⟨ln, hln⟩ : ∃ n : Nat, lv = .slice lo n lc := ⟨_, hlv⟩
    obtain ⟨pn, hpn⟩ : ∃ n : Nat, pv = .slice po n pc := ⟨_, hpv⟩
    obtain ⟨fn', hfn⟩ : ∃ n : Nat, fv = .slice fo n fc := ⟨_, hfv⟩
    obtain ⟨on', hon⟩ : ∃ n : Nat, ov = .slice oo n oc := ⟨_, hov⟩
    obtain ⟨gn, hgn0⟩ : ∃ n : Nat, (sortO rolLt (sigV p.2.1 p.2.2.1 p.1 (qb1, qb2) R Lk)).length = n := ⟨_, rfl⟩
    have hgn : gv = .slice go gn gc := by rw [← hgn0]; exact hgv
    have HGN : Hid (gn ≤ 60) := by rw [← hgn0]; exact HNS.out.2.2.2.2.2
    have HGE := Lib.hid hgn0
    clear hrv hlv hpv hfv hov hgv hgn0 hlw hl3 n3 n4 n5 n6 hof ha
    subst hrn hln hpn hfn hon hgn
    have hkA : KF w3 (w3.alloc (.cells #[.slice ro rn rc, .slice lo ln lc, .slice po pn pc, .slice fo fn' fc, .slice oo on' oc, .slice go gn gc, .bool lk] 62)) := (Keeps.refl _ _).alloc _
    have HV4 := Lib.hid (MapKept.heap_alloc w3 (.cells #[.slice ro rn rc, .slice lo ln lc, .slice po pn pc, .slice fo fn' fc, .slice oo on' oc, .slice go gn gc, .bool lk] 62)).1
    have HP4 := Lib.hid ((((hk.trans hkA).block _ (lt_of_heap HP2.out) (fun x => x)).trans HP2.out))
    have HQ4 := Lib.hid ((((hk.trans hkA).block _ (lt_of_heap HQ2.out) (fun x => x)).trans HQ2.out))
    have HR4 := Lib.hid ((((hk.trans hkA).block _ (lt_of_heap HR2.out) (fun x => x)).trans HR2.out))
    have HK4 := Lib.hid ((HK2.out.trans hk).trans hkA)
    replace HVW := Lib.hid (HVW.out.keeps hkA)
    obtain ⟨vb, hvb⟩ : ∃ q, w3.heap.size = q := ⟨_, rfl⟩
    rw [hvb] at HV4
    clear hv hk hkA HP2 HQ2 HR2 HK2 x0 x1 x2 x3 z0 z1 z2 z3 z4 z5
    go_upto_region 4 with fail
    (try simp only [hvb])
    clear hvb
    generalize w3.alloc (.cells #[.slice ro rn rc, .slice lo ln lc, .slice po pn pc, .slice fo fn' fc, .slice oo on' oc, .slice go gn gc, .bool lk] 62) = w4 at *
    obtain ⟨x0, y0, x1, y1, x2, y2, x3, y3⟩ := cf4 (HP4.out)
    obtain ⟨z0, t0, z1, t1, z2, t2, z3, t3, z4, t4, z5, t5⟩ := cf6 (HQ4.out)
    clear y0 y1 y2 y3 t0 t1 t2 t3 t4 t5
    have HC := Lib.hid (HRI.out _ HK4.out HL3.out HLQ.out)
    rw [HA.out] at HC
    clear HRI
    go_wp2_with fail
    refine HC.out.mono ?_
    rintro e w5 ⟨rfl, hk⟩
    have HK5 := Lib.hid (HK4.out.trans hk.out)
    have HV5 := Lib.hid ((hk.out.block _ (lt_of_heap HV4.out) (fun x => x)).trans HV4.out)
    have HP5 := Lib.hid ((hk.out.block _ (lt_of_heap HP4.out) (fun x => x)).trans HP4.out)
    have HQ5 := Lib.hid ((hk.out.block _ (lt_of_heap HQ4.out) (fun x => x)).trans HQ4.out)
    have HR5 := Lib.hid ((hk.out.block _ (lt_of_heap HR4.out) (fun x => x)).trans HR4.out)
    replace HVW := Lib.hid (HVW.out.keeps hk.out)
    clear HC hk HK4 HP4 HQ4 HV4 HR4 x0 x1 x2 x3 z0 z1 z2 z3 z4 z5
    obtain ⟨x0, y0, x1, y1, x2, y2, x3, y3⟩ := cf4 (HP5.out)
    obtain ⟨z0, t0, z1, t1, z2, t2, z3, t3, z4, t4, z5, t5⟩ := cf6 (HQ5.out)
    clear y0 y1 y2 y3 t0 t1 t2 t3 t4 t5
    have HC := Lib.hid (HWO.out _ HK5.out HL3.out HA.out)
    clear HWO
    go_wp2_with fail
    refine HC.out.mono ?_
    rintro e w6 ⟨rv2, lv2, pv2, fv2, ov2, gv2, R2, Lk2, rfl, hz⟩
    obtain ⟨e1, e2⟩ := OnWay.one hz.out.2.1 HWY.out.1 hz.out.2.2.1 HWY.out.2.1
    subst e1 e2
    have hvw := hz.out.2.2.2
    have hk := hz.out.1
    rw [← HWY.out.2.2]
    obtain ⟨Ro, Rc, hrv, _⟩ := id hvw.r
    obtain ⟨Lo, Lc, hlv, _⟩ := id hvw.l
    obtain ⟨Po, Pc, hpv, _⟩ := id hvw.p
    obtain ⟨Fo, Fc, hfv, _⟩ := id hvw.f
    obtain ⟨Oo, Oc, hov, _⟩ := id hvw.o
    obtain ⟨Go, Gc, hgv, _⟩ := id hvw.g
    rw [HGE.out] at hgv
    obtain ⟨Rn, hrn⟩ : ∃ n : Nat, rv2 = .slice Ro n Rc := ⟨_, hrv⟩
    obtain ⟨Ln, hln⟩ : ∃ n : Nat, lv2 = .slice Lo n Lc := ⟨_, hlv⟩
    obtain ⟨Pn, hpn⟩ : ∃ n : Nat, pv2 = .slice Po n Pc := ⟨_, hpv⟩
    obtain ⟨Fn, hfn⟩ : ∃ n : Nat, fv2 = .slice Fo n Fc := ⟨_, hfv⟩
    obtain ⟨On, hon⟩ : ∃ n : Nat, ov2 = .slice Oo n Oc := ⟨_, hov⟩
    clear hrv hlv hpv hfv hov
    subst hrn hln hpn hfn hon hgv
    have hkA : KF w6 (w6.alloc (.cells #[.slice Ro Rn Rc, .slice Lo Ln Lc, .slice Po Pn Pc, .slice Fo Fn Fc, .slice Oo On Oc, .slice Go gn Gc, .bool lk] 67)) := (Keeps.refl _ _).alloc _
    have HU7 := Lib.hid (MapKept.heap_alloc w6 (.cells #[.slice Ro Rn Rc, .slice Lo Ln Lc, .slice Po Pn Pc, .slice Fo Fn Fc, .slice Oo On Oc, .slice Go gn Gc, .bool lk] 67)).1
    have HUW := Lib.hid (hvw.keeps hkA)
    have HVW7 := Lib.hid (HVW.out.keeps (hk.trans hkA))
    have HV7 := Lib.hid (((hk.trans hkA).block _ (lt_of_heap HV5.out) (fun x => x)).trans HV5.out)
    have HR7 := Lib.hid (((hk.trans hkA).block _ (lt_of_heap HR5.out) (fun x => x)).trans HR5.out)
    have HK7 := Lib.hid (HK5.out.trans (hk.trans hkA))
    obtain ⟨ub, hub⟩ : ∃ q, w6.heap.size = q := ⟨_, rfl⟩
    rw [hub] at HU7
    clear HC hz hvw hk hkA HK5 HV5 HP5 HQ5 HR5 HVW HWY HGE x0 x1 x2 x3 z0 z1 z2 z3 z4 z5
    go_upto_region 7 with fail
    (try simp only [hub])
    clear hub
    generalize w6.alloc (.cells #[.slice Ro Rn Rc, .slice Lo Ln Lc, .slice Po Pn Pc, .slice Fo Fn Fc, .slice Oo On Oc, .slice Go gn Gc, .bool lk] 67) = w7 at *
    have hns := HNS.out
    have HSM := Lib.hid (fun (w : World) (hk : KF w7 w) => wsame_spec (lk := lk) (HVW7.out.keeps hk) (HUW.out.keeps hk) (by omega) (by omega) (by omega) (by omega) (by omega) (by omega))
    have HH1 := Lib.hid (fun (w : World) (hk : KF w7 w) => vhas_spec (po := po) (fo := fo) (oo := oo) (so := go) (pn := pn) (pc := pc) (fn := fn') (fc := fc) (on := on') (oc := oc) (sn := gn) (sc := gc) (lk := lk) (HVW7.out.r.keeps hk) (HVW7.out.l.keeps hk) (by omega) (by omega) (r1, r2))
    have HH2 := Lib.hid (fun (w : World) (hk : KF w7 w) => wvhas_spec (pv := .slice Po Pn Pc) (fv := .slice Fo Fn Fc) (ov := .slice Oo On Oc) (gv := .slice Go gn Gc) (lk := lk) (HUW.out.r.keeps hk) (HUW.out.l.keeps hk) (by omega) (by omega) (r1, r2))
    have HF1 := Lib.hid (fun w : World => fresh_spec (W := w) (rv := .slice ro rn rc) (lv := .slice lo ln lc) (pv := .slice po pn pc) (fv := .slice fo fn' fc) (ov := .slice oo on' oc) (lk := lk) (go := go) (gn := gn) (gc := gc) HGN.out)
    have HF2 := Lib.hid (fun w : World => wfresh_spec (W := w) (rv := .slice Ro Rn Rc) (lv := .slice Lo Ln Lc) (pv := .slice Po Pn Pc) (fv := .slice Fo Fn Fc) (ov := .slice Oo On Oc) (lk := lk) (go := Go) (gn := gn) (gc := Gc) HGN.out)
    obtain ⟨xh, hxh⟩ : ∃ x, hasV R2 Lk2 (r1, r2) = x := ⟨_, rfl⟩
    rw [hxh] at HH1 HH2
    obtain ⟨xf, hxf⟩ : ∃ x, freshN lk gn = x := ⟨_, rfl⟩
    rw [hxf] at HF1 HF2
    unfold rolV2 at HH1 HH2
    simp only at HH1 HH2
    clear hns HNS hxh hxf HVW7 HUW
    obtain ⟨v0, f0, v1, f1, v2, f2, v3, f3, v4, f4, v5, f5, v6, f6⟩ := cf7 HV7.out
    obtain ⟨u0, g0, u1, g1, u2, g2, u3, g3, u4, g4, u5, g5, u6, g6⟩ := cf7 HU7.out
    obtain ⟨r0, s0, r1', s1⟩ := cf2 HR7.out
    clear f0 g0 f1 g1 f2 g2 f3 g3 f4 g4 f5 g5 f6 g6 s0 s1
    have HMK92 : Hid (∀ w' : World, KF w7 w' → w'.cell? ⟨vb, 0, none⟩ = some (.slice ro rn rc) ∧ w'.cell? ⟨vb, 1, none⟩ = some (.slice lo ln lc) ∧ w'.cell? ⟨vb, 2, none⟩ = some (.slice po pn pc) ∧ w'.cell? ⟨vb, 3, none⟩ = some (.slice fo fn' fc) ∧ w'.cell? ⟨vb, 4, none⟩ = some (.slice oo on' oc) ∧ w'.cell? ⟨vb, 5, none⟩ = some (.slice go gn gc) ∧ w'.cell? ⟨vb, 6, none⟩ = some (.bool lk) ∧ w'.cell? ⟨ub, 0, none⟩ = some (.slice Ro Rn Rc) ∧ w'.cell? ⟨ub, 1, none⟩ = some (.slice Lo Ln Lc) ∧ w'.cell? ⟨ub, 2, none⟩ = some (.slice Po Pn Pc) ∧ w'.cell? ⟨ub, 3, none⟩ = some (.slice Fo Fn Fc) ∧ w'.cell? ⟨ub, 4, none⟩ = some (.slice Oo On Oc) ∧ w'.cell? ⟨ub, 5, none⟩ = some (.slice Go gn Gc) ∧ w'.cell? ⟨ub, 6, none⟩ = some (.bool lk) ∧ w'.cell? ⟨bWC, 0, none⟩ = some (.string ⟨r1.toArray⟩) ∧ w'.cell? ⟨bWC, 1, none⟩ = some (.string ⟨r2.toArray⟩)) := fun w' hk => ⟨kc hk v0, kc hk v1, kc hk v2, kc hk v3, kc hk v4, kc hk v5, kc hk v6, kc hk u0, kc hk u1, kc hk u2, kc hk u3, kc hk u4, kc hk u5, kc hk u6, kc hk r0, kc hk r1'⟩
    have HKX92 : Hid (KF w7 w7.drew) := (Keeps.refl _ _).drew
    have hS0 := HMK92.out _ HKX92.out
    clear v0 v1 v2 v3 v4 v5 v6 u0 u1 u2 u3 u4 u5 u6 r0 r1'
    refine wp_region_noPanic ?_
    refine wp_region_held_drew (S := (fun w' => w'.cell? ⟨vb, 0, none⟩ = some (.slice ro rn rc) ∧ w'.cell? ⟨vb, 1, none⟩ = some (.slice lo ln lc) ∧ w'.cell? ⟨vb, 2, none⟩ = some (.slice po pn pc) ∧ w'.cell? ⟨vb, 3, none⟩ = some (.slice fo fn' fc) ∧ w'.cell? ⟨vb, 4, none⟩ = some (.slice oo on' oc) ∧ w'.cell? ⟨vb, 5, none⟩ = some (.slice go gn gc) ∧ w'.cell? ⟨vb, 6, none⟩ = some (.bool lk) ∧ w'.cell? ⟨ub, 0, none⟩ = some (.slice Ro Rn Rc) ∧ w'.cell? ⟨ub, 1, none⟩ = some (.slice Lo Ln Lc) ∧ w'.cell? ⟨ub, 2, none⟩ = some (.slice Po Pn Pc) ∧ w'.cell? ⟨ub, 3, none⟩ = some (.slice Fo Fn Fc) ∧ w'.cell? ⟨ub, 4, none⟩ = some (.slice Oo On Oc) ∧ w'.cell? ⟨ub, 5, none⟩ = some (.slice Go gn Gc) ∧ w'.cell? ⟨ub, 6, none⟩ = some (.bool lk) ∧ w'.cell? ⟨bWC, 0, none⟩ = some (.string ⟨r1.toArray⟩) ∧ w'.cell? ⟨bWC, 1, none⟩ = some (.string ⟨r2.toArray⟩))) (by kernel_rfl) hS0 (fun hHeld => ?_)
    clear hS0
    generalize w7.drew = wA at *
    refine tk 0 rfl hHeld ?_
    refine tk 1 rfl hHeld ?_
    refine tk 2 rfl hHeld ?_
    (try simp only [nz])
    refine tk 3 rfl hHeld ?_
    refine tk 4 rfl hHeld ?_
    (try simp only [nz])
    refine on1 5 rfl fun KK hK => ?_
    go_simp
    refine (HSM.out _ HKX92.out).mono ?_
    rintro e wB ⟨rfl, hk⟩
    replace HKX92 := Lib.hid (HKX92.out.trans hk.out)
    clear hk 
    go_simp
    refine hK.out _ _ (HMK92.out _ HKX92.out) fun hHeld => ?_
    clear hK KK
    refine tk 6 rfl hHeld ?_
    refine tk 7 rfl hHeld ?_
    (try simp only [nz])
    refine tk 8 rfl hHeld ?_
    refine tk 9 rfl hHeld ?_
    refine tk 11 rfl hHeld ?_
    (try simp only [nz])
    refine tk 12 rfl hHeld ?_
    (try simp only [nz])
    refine on1 10 rfl fun KK hK => ?_
    go_simp
    refine (HH1.out _ HKX92.out).mono ?_
    rintro e wC ⟨rfl, hk⟩
    replace HKX92 := Lib.hid (HKX92.out.trans hk.out)
    clear hk
    go_simp
    refine hK.out _ _ (HMK92.out _ HKX92.out) fun hHeld => ?_
    clear hK KK
    (try simp only [nz])
    refine on1 13 rfl fun KK hK => ?_
    go_simp
    refine (HH2.out _ HKX92.out).mono ?_
    rintro e wD ⟨rfl, hk⟩
    replace HKX92 := Lib.hid (HKX92.out.trans hk.out)
    clear hk
    go_simp
    refine hK.out _ _ (HMK92.out _ HKX92.out) fun hHeld => ?_
    clear hK KK
    refine tk 14 rfl hHeld ?_
    refine tk 15 rfl hHeld ?_
    (try simp only [nz])
    refine tk 16 rfl hHeld ?_
    refine tk 17 rfl hHeld ?_
    refine tk 19 rfl hHeld ?_
    (try simp only [nz])
    refine on1 18 rfl fun KK hK => ?_
    go_simp
    refine (HF1.out _).mono ?_
    rintro e wE ⟨rfl, hk⟩
    replace HKX92 := Lib.hid (HKX92.out.trans hk.out)
    clear hk
    go_simp
    refine hK.out _ _ (HMK92.out _ HKX92.out) fun hHeld => ?_
    clear hK KK
    (try simp only [nz])
    refine on1 20 rfl fun KK hK => ?_
    go_simp
    refine (HF2.out _).mono ?_
    rintro e wF ⟨rfl, hk⟩
    replace HKX92 := Lib.hid (HKX92.out.trans hk.out)
    clear hk
    go_simp
    refine hK.out _ _ (HMK92.out _ HKX92.out) fun hHeld => ?_
    clear hK KK
    refine tk 21 rfl hHeld ?_
    refine tk 22 rfl hHeld ?_
    (try simp only [nz])
    refine tk 23 rfl hHeld ?_
    (try simp only [nz])
    refine on1 24 rfl fun KK hK => ?_
    go_simp
    refine (HLI.out _).mono ?_
    rintro e wG ⟨rfl, hk⟩
    replace HKX92 := Lib.hid (HKX92.out.trans hk.out)
    clear hk 
    go_simp
    refine hK.out _ _ (HMK92.out _ HKX92.out) fun hHeld => ?_
    clear hK KK
    refine tk 25 rfl hHeld ?_
    (try simp only [nz])
    refine on1 26 rfl fun KK hK => ?_
    go_simp
    refine hK.out _ _ (HMK92.out _ HKX92.out) fun hHeld => ?_
    clear hK KK
    (try simp only [nz])
    refine wpAnyH_done (by kernel_rfl) ?_ _
    refine NoPanic.normal ?_
    clear hHeld HMK92
    have HE := Lib.hid (HK7.out.trans HKX92.out)
    clear HKX92 HK7
    go_wp2_with fail
    go_ret
    exact ⟨rfl, HE⟩
theorem relevTells_walk {W : World} {ao bo co jo wo : Option Addr} {an ac bn bc cn cc jn jc wn wc : Nat} {p : Pol} (hp : PolA W (.slice ao an ac) (.slice bo bn bc) (.slice co cn cc) (.slice jo jn jc) p) {q : Qry} (hq : ReadsS W (.slice wo wn wc) q.2.2.2) (hl : ∀ k, (.slice wo wn wc : Value).ownBlock = some k → k < W.heap.size) (r : Rol) :
 Calls Tryz.prog 7 #[.agg #[.slice ao an ac, .slice bo bn bc, .slice co cn cc, .slice jo jn jc], qryV q (.slice wo wn wc), rolV2 r] W fun e w' => e = .returned (.bool true) ∧ Below W.heap.size W w' :=
 (relevTells_core hp ⟨hq, fun k hk => ⟨hl k hk, trivial⟩⟩ r).mono fun e w' h => ⟨h.1, h.2.out.below (Nat.le_refl _) (fun _ _ x => x.elim)⟩
end Go.Proofs.YtededjfjbkcepaaGreat
