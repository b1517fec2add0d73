/-
 The law RelevNames, walked.
-/
import Derived.Test.YtededjfjbkcepaaGreatMC
import Derived.Test.YtededjfjbkcepaaGreatMR
set_option linter.unusedVariables false
set_option linter.unusedSimpArgs false
set_option linter.unnecessarySimpa false
namespace Go.Proofs.YtededjfjbkcepaaGreat
open Go.ChangeShapes Go.WideShapes Go.ChangeAt Go.RowKit Go.Deep
set_option maxRecDepth 100000
theorem two_filters {α : Type} (p : α → Bool) : ∀ l : List α, (l.filter p).length + (l.filter (fun x => !p x)).length = l.length
 | [] => rfl
 | x :: l => by
  have ih := two_filters p l
  cases hx : p x <;> simp only [List.filter_cons, hx, Bool.not_true, Bool.not_false, if_true, if_false, List.length_cons, Bool.false_eq_true] <;> omega
section
variable {g h R : List Rol} {L : List Str} {l : List Stm} {B : Rol}
theorem fix_dec {y : Stm} (hy : y ∈ l) : decide (y ∈ fixV g h l R L) = (folB g h R L y && decide (y.1 ∈ h)) := by
 unfold fixV
 cases hf : folB g h R L y <;> simp [List.mem_filter, hy, hf]
theorem loose_dec {y : Stm} (hy : y ∈ l) : decide (y ∈ looseV g h l R L) = (folB g h R L y && !decide (y.1 ∈ h)) := by
 unfold looseV
 cases hf : folB g h R L y <;> simp [List.mem_filter, hy, hf]
theorem all_counts : (fixV g h l R L).length + (looseV g h l R L).length = (l.filter (folB g h R L)).length := two_filters _ _
theorem who_in {y : Stm} (hy : y ∈ l) (hf : folB g h R L y = true) (hk : y.2.1 = 1) : y.2.2.1 ∈ tabL (whosV g h l R L) := by
 rw [tab_mem]
 unfold whosV
 refine List.mem_append_left _ (List.mem_append_right _ (List.mem_flatMap.2 ⟨y, List.mem_filter.2 ⟨hy, hf⟩, ?_⟩))
 rw [if_pos hk]
 exact List.mem_singleton.2 rfl
theorem owner_in {y : Stm} (hy : y ∈ l) (hf : folB g h R L y = true) : y.1.1 ∈ tabL (whosV g h l R L) := by
 rw [tab_mem]
 unfold whosV
 unfold folB hasV boundB at hf
 simp only [Bool.and_eq_true, Bool.or_eq_true, decide_eq_true_eq] at hf
 rcases hf.1 with h1 | h1
 ·exact List.mem_append_left _ (List.mem_append_left _ (List.mem_map.2 ⟨y.1, h1, rfl⟩))
 ·exact List.mem_append_right _ (List.mem_map.2 ⟨y.1, List.mem_filter.2 ⟨List.mem_append.2 hf.2, decide_eq_true h1⟩, rfl⟩)
theorem sig_in : B ∈ sortO rolLt (sigV g h l B R L) := (sortO_mem _ _).2 (List.mem_cons_self ..)
theorem has_of {r : Rol} (h : r ∈ R) : hasV R L r = true := by
 unfold hasV
 rw [decide_eq_true h, Bool.true_or]
end
set_option maxHeartbeats 6400000
theorem relevNames_core {W : World} {ao bo co jo wo : Option Addr} {an ac bn bc cn cc jn jc wn wc : Nat} {p : Pol} (hp : PolA W (.slice ao an ac) (.slice bo bn bc) (.slice co cn cc) (.slice jo jn jc) p) {q : Qry} (hq : RowX W (.slice wo wn wc) q.2.2.2 (fun _ => True)) :
 Calls Tryz.prog 9 #[.agg #[.slice ao an ac, .slice bo bn bc, .slice co cn cc, .slice jo jn jc], qryV q (.slice wo wn wc)] W fun e W' => e = .returned (.bool true) ∧ Hid (KF W W') := by
 have HLI := Lib.hid (fun w : World => lives20_spec w)
 have HPL : Hid (∀ w, KF W w → Calls Tryz.prog 34 #[.agg #[.slice ao an ac, .slice bo bn bc, .slice co cn cc, .slice jo jn jc]] w (LightTo (p.1.length ≤ 30 ∧ p.2.1.length ≤ 30 ∧ p.2.2.1.length ≤ 30 ∧ p.2.2.2.length ≤ 30) w)) := fun w hk => plight_spec (hp.keeps hk)
 have HQL : Hid (∀ w, KF W w → Calls Tryz.prog 35 #[qryV q (.slice wo wn wc)] w (LightTo (q.2.2.2.length ≤ 40) w)) := fun w hk => qlight_spec (hq.1.keeps hk)
 have HOF : Hid (∀ w, KF W w → p.1.length ≤ 30 ∧ p.2.1.length ≤ 30 ∧ p.2.2.1.length ≤ 30 → q.2.2.2.length ≤ 40 → Calls Tryz.prog 37 #[.agg #[.slice ao an ac, .slice bo bn bc, .slice co cn cc, .slice jo jn jc], qryV q (.slice wo wn wc)] w fun e W' => Hid (OfTo w p q e W')) := fun w hk hl hl2 => of_spec (hp.rows.into hk (fun _ _ _ x => x) (fun _ _ x => x)) (by omega) (by omega) (by omega) (hq.into hk (fun _ _ _ x => x) (fun _ _ x => x)) (by omega)
 have HRI : Hid (∀ w, KF W w → p.1.length ≤ 30 ∧ p.2.1.length ≤ 30 ∧ p.2.2.1.length ≤ 30 → q.2.2.2.length ≤ 40 → Calls Tryz.prog 38 #[.agg #[.slice ao an ac, .slice bo bn bc, .slice co cn cc, .slice jo jn jc], qryV q (.slice wo wn wc)] w fun e W' => e = .returned (.bool (askB p q)) ∧ Hid (KF w W')) := fun w hk hl hl2 => wright_spec (hp.rows.into hk (fun _ _ _ x => x) (fun _ _ x => x)) (by omega) (by omega) (by omega) (hq.into hk (fun _ _ _ x => x) (fun _ _ x => x)) (by omega)
 have HS0 := Lib.hid hp.s
 have HS1 := Lib.hid hp.g
 have HS2 := Lib.hid hp.h
 have HKD : Hid (askB p q = true → ∀ x ∈ p.1, 1 ≤ x.2.1 ∧ x.2.1 ≤ 4) := ask_kinds
 have HNS : Hid (p.1.length = an ∧ an ≤ ac) := by
  obtain ⟨_, _, e, hle, _⟩ := id hp.s.1
  simp only [Value.slice.injEq] at e
  exact ⟨e.2.1.symm, by omega⟩
 obtain ⟨qk, ⟨qa1, qa2⟩, ⟨qb1, qb2⟩, qw⟩ := q
 clear hp hq
 unfold qryV
 unfold qryV at HQL HOF HRI
 simp only at HQL HOF HRI ⊢
 have halWA := (MapKept.heap_alloc W (bP ao an ac bo bn bc co cn cc jo jn jc)).1
 obtain ⟨WA, hWA⟩ : ∃ q, W.alloc (bP ao an ac bo bn bc co cn cc jo jn jc) = q := ⟨_, rfl⟩
 have hkWA : KF W WA := by rw [← hWA]; exact (Keeps.refl _ _).alloc _
 rw [hWA] at halWA
 obtain ⟨bWA, hbWA⟩ : ∃ q, W.heap.size = q := ⟨_, rfl⟩
 rw [hbWA] at halWA
 have halWB := (MapKept.heap_alloc WA (bQ qk qa1 qa2 qb1 qb2 wo wn wc)).1
 obtain ⟨WB, hWB⟩ : ∃ q, WA.alloc (bQ qk qa1 qa2 qb1 qb2 wo wn wc) = q := ⟨_, rfl⟩
 have hkWB : KF WA WB := by rw [← hWB]; exact (Keeps.refl _ _).alloc _
 rw [hWB] at halWB
 obtain ⟨bWB, hbWB⟩ : ∃ q, WA.heap.size = q := ⟨_, rfl⟩
 rw [hbWB] at halWB
 have HP := Lib.hid ((hkWB.block _ (lt_of_heap halWA) (fun x => x)).trans halWA)
 have HQB := Lib.hid halWB
 have HK := Lib.hid (hkWA.trans hkWB)
 clear halWA halWB hkWA hkWB
 obtain ⟨x0, y0, x1, y1, x2, y2, x3, y3⟩ := cf4 (HP.out)
 obtain ⟨z0, t0, z1, t1, z2, t2, z3, t3, z4, t4, z5, t5⟩ := cf6 (HQB.out)
 clear y0 y1 y2 y3 t0 t1 t2 t3 t4 t5
 have HC := Lib.hid (HPL.out _ HK.out)
 clear HPL
 go_enter Tryz.func9, Tryz.ntmps9
 go_upto_region 1 with fail
 (try simp only [hWA, hWB, hbWA, hbWB])
 clear hWA hWB hbWA hbWB
 go_wp2_with fail
 refine HC.out.mono ?_
 rintro e w1 ⟨b1, rfl, hl⟩
 have HK1 := Lib.hid (HK.out.trans hl.out.2)
 have HL1 := Lib.hid hl.out.1
 have HP1 := Lib.hid ((hl.out.2.block _ (lt_of_heap HP.out) (fun x => x)).trans HP.out)
 have HQ1 := Lib.hid ((hl.out.2.block _ (lt_of_heap HQB.out) (fun x => x)).trans HQB.out)
 clear HC hl HK HP HQB x0 x1 x2 x3 z0 z1 z2 z3 z4 z5
 cases b1
 case false =>
  go_wp2_with fail
  refine (HLI.out _).mono ?_
  rintro e w9 ⟨rfl, hk⟩
  have HE := Lib.hid (HK1.out.trans hk.out)
  clear hk
  go_wp2_with fail
  go_ret
  exact ⟨rfl, HE⟩
 case true =>
  have HLN := Lib.hid (HL1.out rfl)
  clear HL1
  obtain ⟨x0, y0, x1, y1, x2, y2, x3, y3⟩ := cf4 (HP1.out)
  obtain ⟨z0, t0, z1, t1, z2, t2, z3, t3, z4, t4, z5, t5⟩ := cf6 (HQ1.out)
  clear y0 y1 y2 y3 t0 t1 t2 t3 t4 t5
  have HC := Lib.hid (HQL.out _ HK1.out)
  clear HQL
  go_wp2_with fail
  refine HC.out.mono ?_
  rintro e w2 ⟨b2, rfl, hl⟩
  have HK2 := Lib.hid (HK1.out.trans hl.out.2)
  have HL2 := Lib.hid hl.out.1
  have HP2 := Lib.hid ((hl.out.2.block _ (lt_of_heap HP1.out) (fun x => x)).trans HP1.out)
  have HQ2 := Lib.hid ((hl.out.2.block _ (lt_of_heap HQ1.out) (fun x => x)).trans HQ1.out)
  clear HC hl HK1 HP1 HQ1 x0 x1 x2 x3 z0 z1 z2 z3 z4 z5
  cases b2
  case false =>
   go_wp2_with fail
   refine (HLI.out _).mono ?_
   rintro e w9 ⟨rfl, hk⟩
   have HE := Lib.hid (HK2.out.trans hk.out)
   clear hk
   go_wp2_with fail
   go_ret
   exact ⟨rfl, HE⟩
  case true =>
   have HLW := Lib.hid (HL2.out rfl)
   clear HL2
   have HL3 : Hid (p.1.length ≤ 30 ∧ p.2.1.length ≤ 30 ∧ p.2.2.1.length ≤ 30) := ⟨HLN.out.1, HLN.out.2.1, HLN.out.2.2.1⟩
   have HLQ : Hid (qw.length ≤ 40) := HLW.out
   clear HLN HLW
   obtain ⟨x0, y0, x1, y1, x2, y2, x3, y3⟩ := cf4 (HP2.out)
   obtain ⟨z0, t0, z1, t1, z2, t2, z3, t3, z4, t4, z5, t5⟩ := cf6 (HQ2.out)
   clear y0 y1 y2 y3 t0 t1 t2 t3 t4 t5
   have HC := Lib.hid (HRI.out _ HK2.out HL3.out HLQ.out)
   clear HRI
   obtain ⟨ab, hab⟩ : ∃ x, askB p (qk, (qa1, qa2), (qb1, qb2), qw) = x := ⟨_, rfl⟩
   rw [hab] at HC
   have HA := Lib.hid hab
   clear hab
   go_wp2_with fail
   refine HC.out.mono ?_
   rintro e w3 ⟨rfl, hk⟩
   have HK3 := Lib.hid (HK2.out.trans hk.out)
   have HP3 := Lib.hid ((hk.out.block _ (lt_of_heap HP2.out) (fun x => x)).trans HP2.out)
   have HQ3 := Lib.hid ((hk.out.block _ (lt_of_heap HQ2.out) (fun x => x)).trans HQ2.out)
   clear HC hk HK2 HP2 HQ2 x0 x1 x2 x3 z0 z1 z2 z3 z4 z5
   cases ab
   case false =>
    go_wp2_with fail
    refine (HLI.out _).mono ?_
    rintro e w9 ⟨rfl, hk⟩
    have HE := Lib.hid (HK3.out.trans hk.out)
    clear hk
    go_wp2_with fail
    go_ret
    exact ⟨rfl, HE⟩
   case true =>
    obtain ⟨x0, y0, x1, y1, x2, y2, x3, y3⟩ := cf4 (HP3.out)
    obtain ⟨z0, t0, z1, t1, z2, t2, z3, t3, z4, t4, z5, t5⟩ := cf6 (HQ3.out)
    clear y0 y1 y2 y3 t0 t1 t2 t3 t4 t5
    have HC := Lib.hid (HOF.out _ HK3.out HL3.out HLQ.out)
    have HKI := Lib.hid (HKD.out HA.out)
    clear HOF HKD
    go_wp2_with fail
    refine HC.out.mono ?_
    rintro e w4 hof
    clear HC
    rcases hof.out with ⟨ha, _⟩ | ⟨_, rv, lv, pv, fv, ov, gv, lk, R, Lk, rfl, hk, hv⟩
    ·rw [HA.out] at ha; cases ha
    obtain ⟨gr, hgr⟩ : ∃ x, p.2.1 = x := ⟨_, rfl⟩
    obtain ⟨sh, hsh⟩ : ∃ x, p.2.2.1 = x := ⟨_, rfl⟩
    obtain ⟨st, hst⟩ : ∃ x, p.1 = x := ⟨_, rfl⟩
    have hlw := hv.way.lens
    have hl3 := HL3.out
    obtain ⟨n3, n4, n5, n6⟩ := view_lens (g := p.2.1) (h := p.2.2.1) (R := R) (L := Lk) (l := p.1) (B := (qb1, qb2)) (by omega) (by omega) (by omega) (by omega)
    have HNN : Hid (R.length ≤ 200 ∧ Lk.length ≤ 200 ∧ (tabL (whosV gr sh st R Lk)).length ≤ 1000 ∧ (fixV gr sh st R Lk).length ≤ 60 ∧ (looseV gr sh st R Lk).length ≤ 60 ∧ (sortO rolLt (sigV gr sh st (qb1, qb2) R Lk)).length ≤ 60 ∧ gr.length ≤ 30 ∧ sh.length ≤ 30 ∧ st.length ≤ 30) := by rw [← hgr, ← hsh, ← hst]; exact ⟨by omega, by omega, n3, n4, n5, n6, by omega, by omega, by omega⟩
    have HWY : Hid (OnWay gr sh st (qa1, qa2) (qb1, qb2) R Lk ∧ Shut2 gr sh st R Lk) := by rw [← hgr, ← hsh, ← hst]; exact ⟨hv.way, hv.shut⟩
    have HVW : Hid (RdK rolE w4 rv R ∧ ReadsS w4 lv Lk ∧ ReadsS w4 pv (tabL (whosV gr sh st R Lk)) ∧ RdK stmE w4 fv (fixV gr sh st R Lk) ∧ RdK stmE w4 ov (looseV gr sh st R Lk) ∧ RdK rolE w4 gv (sortO rolLt (sigV gr sh st (qb1, qb2) R Lk))) := by rw [← hgr, ← hsh, ← hst]; exact ⟨hv.rR.reads, (ownK_str.1 hv.rL).reads, (ownK_str.1 hv.rP).reads, hv.rF.reads, hv.rO.reads, hv.rG.reads⟩
    have HN0 : Hid (st.length = an ∧ an ≤ ac) := by rw [← hst]; exact HNS.out
    have HT0 : Hid (SrcK stmE W (.slice ao an ac) st) := by have := HS0.out; rw [hst] at this; exact this
    have HT1 : Hid (RdK rolE W (.slice bo bn bc) gr) := by have := HS1.out.1; rw [hgr] at this; exact this
    have HT2 : Hid (RdK rolE W (.slice co cn cc) sh) := by have := HS2.out.1; rw [hsh] at this; exact this
    have HKI2 : Hid (∀ x ∈ st, 1 ≤ x.2.1 ∧ x.2.1 ≤ 4) := by rw [← hst]; exact HKI.out
    clear hgr hsh hst hlw hl3 n3 n4 n5 n6 HS0 HS1 HS2 HNS HKI HL3 HA
    obtain ⟨ro, rc, hrv, _⟩ := id HVW.out.1
    obtain ⟨lo, lc, hlv, _⟩ := id HVW.out.2.1
    obtain ⟨po, pc, hpv, _⟩ := id HVW.out.2.2.1
    obtain ⟨fo, fc, hfv, _⟩ := id HVW.out.2.2.2.1
    obtain ⟨oo, oc, hov, _⟩ := id HVW.out.2.2.2.2.1
    obtain ⟨go, gc, hgv, _⟩ := id HVW.out.2.2.2.2.2
    obtain ⟨rn, hrn⟩ : ∃ n : Nat, rv = .slice ro n rc := ⟨_, hrv⟩
    obtain ⟨ln, hln⟩ : ∃ n : Nat, lv = .slice lo n lc := ⟨_, hlv⟩
    obtain ⟨pn, hpn⟩ : ∃ n : Nat, pv = .slice po n pc := ⟨_, hpv⟩
    obtain ⟨gn, hgn⟩ : ∃ n : Nat, gv = .slice go n gc := ⟨_, hgv⟩
    obtain ⟨fn', hfn0⟩ : ∃ n : Nat, (fixV gr sh st R Lk).length = n := ⟨_, rfl⟩
    obtain ⟨on', hon0⟩ : ∃ n : Nat, (looseV gr sh st R Lk).length = n := ⟨_, rfl⟩
    have hfn : fv = .slice fo fn' fc := by rw [← hfn0]; exact hfv
    have hon : ov = .slice oo on' oc := by rw [← hon0]; exact hov
    have HFL : Hid (fn' + on' = (st.filter (folB gr sh R Lk)).length) := by
     show _ = _
     rw [← hfn0, ← hon0]
     exact all_counts
    have hfo60 : fn' ≤ 60 ∧ on' ≤ 60 := ⟨by rw [← hfn0]; exact HNN.out.2.2.2.1, by rw [← hon0]; exact HNN.out.2.2.2.2.1⟩
    clear hrv hlv hpv hfv hov hgv hfn0 hon0 hof hv
    subst hrn hln hpn hfn hon hgn
    have hkA : KF w4 (w4.alloc (.cells #[.slice ro rn rc, .slice lo ln lc, .slice po pn pc, .slice fo fn' fc, .slice oo on' oc, .slice go gn gc, .bool lk] 62)) := (Keeps.refl _ _).alloc _
    have HV5 := Lib.hid (MapKept.heap_alloc w4 (.cells #[.slice ro rn rc, .slice lo ln lc, .slice po pn pc, .slice fo fn' fc, .slice oo on' oc, .slice go gn gc, .bool lk] 62)).1
    have HP5 := Lib.hid (((hk.trans hkA).block _ (lt_of_heap HP3.out) (fun x => x)).trans HP3.out)
    have HQ5 := Lib.hid (((hk.trans hkA).block _ (lt_of_heap HQ3.out) (fun x => x)).trans HQ3.out)
    have HK5 := Lib.hid ((HK3.out.trans hk).trans hkA)
    have HVX : Hid (RdK rolE (w4.alloc (.cells #[.slice ro rn rc, .slice lo ln lc, .slice po pn pc, .slice fo fn' fc, .slice oo on' oc, .slice go gn gc, .bool lk] 62)) (.slice ro rn rc) R ∧ ReadsS (w4.alloc (.cells #[.slice ro rn rc, .slice lo ln lc, .slice po pn pc, .slice fo fn' fc, .slice oo on' oc, .slice go gn gc, .bool lk] 62)) (.slice lo ln lc) Lk ∧ ReadsS (w4.alloc (.cells #[.slice ro rn rc, .slice lo ln lc, .slice po pn pc, .slice fo fn' fc, .slice oo on' oc, .slice go gn gc, .bool lk] 62)) (.slice po pn pc) (tabL (whosV gr sh st R Lk)) ∧ RdK stmE (w4.alloc (.cells #[.slice ro rn rc, .slice lo ln lc, .slice po pn pc, .slice fo fn' fc, .slice oo on' oc, .slice go gn gc, .bool lk] 62)) (.slice fo fn' fc) (fixV gr sh st R Lk) ∧ RdK stmE (w4.alloc (.cells #[.slice ro rn rc, .slice lo ln lc, .slice po pn pc, .slice fo fn' fc, .slice oo on' oc, .slice go gn gc, .bool lk] 62)) (.slice oo on' oc) (looseV gr sh st R Lk) ∧ RdK rolE (w4.alloc (.cells #[.slice ro rn rc, .slice lo ln lc, .slice po pn pc, .slice fo fn' fc, .slice oo on' oc, .slice go gn gc, .bool lk] 62)) (.slice go gn gc) (sortO rolLt (sigV gr sh st (qb1, qb2) R Lk))) := ⟨HVW.out.1.keeps hkA, HVW.out.2.1.keeps hkA, HVW.out.2.2.1.keeps hkA, HVW.out.2.2.2.1.keeps hkA, HVW.out.2.2.2.2.1.keeps hkA, HVW.out.2.2.2.2.2.keeps hkA⟩
    obtain ⟨vb, hvb⟩ : ∃ q, w4.heap.size = q := ⟨_, rfl⟩
    rw [hvb] at HV5
    clear hk hkA HK3 HP3 HQ3 HVW x0 x1 x2 x3 z0 z1 z2 z3 z4 z5
    go_upto_region 4 with fail
    (try simp only [hvb])
    clear hvb
    generalize w4.alloc (.cells #[.slice ro rn rc, .slice lo ln lc, .slice po pn pc, .slice fo fn' fc, .slice oo on' oc, .slice go gn gc, .bool lk] 62) = w5 at *
    have x0 := (cf4 HP5.out).1
    go_upto_region 5 with fail
    go_wp2_with fail
    clear x0
    go_loopg [7, 36] an (fun g c t wx => ∃ i : Nat, i ≤ an ∧ g = an - i ∧ c = .int .i64 (((foli gr sh R Lk st i).length : Nat) : Int) ∧ t = .int .i64 i ∧ Hid (KF w5 wx))
    case atStart => exact ⟨0, Nat.zero_le _, rfl, rfl, rfl, Keeps.refl _ _⟩
    case round =>
     obtain ⟨i, hi, rfl, rfl, rfl, HI⟩ := hrel
     by_cases hlt : i < an
     ·skip
      have hiI : (i : Int) < (an : Int) := by omega
      have hicap : i < ac := by have := HN0.out.2; omega
      have hnn := HNN.out
      have hwi : IntKind.i64.wrap ((i : Int) + 1) = (i : Int) + 1 := IntWalk.i64_in _ (by have := HN0.out.1; omega)
      obtain ⟨y, hy⟩ : ∃ y, st[i]? = some y := ⟨_, List.getElem?_eq_getElem (by rw [HN0.out.1]; exact hlt)⟩
      obtain ⟨aoz, cpz, ez, hez, hrz⟩ := id (HT0.out.keeps (HK5.out.trans HI.out)).1
      obtain ⟨g, off, hao, hg, hcc⟩ := hrz (by rw [HN0.out.1]; omega)
      simp only [Value.slice.injEq] at ez
      obtain ⟨rfl, hzz, rfl⟩ := ez
      subst hao
      have hc := hcc i y hy
      have hym : y ∈ st := List.mem_of_getElem? hy
      have hfy := foli_yes (g := gr) (h := sh) (R := R) (L := Lk) hy
      have hfn := foli_no (g := gr) (h := sh) (R := R) (L := Lk) hy
      have hfl := foli_len gr sh R Lk st i
      have hkind := HKI2.out y hym
      have HYM := Lib.hid hym
      have HFD := Lib.hid (fix_dec (g := gr) (h := sh) (R := R) (L := Lk) hym)
      have HLD := Lib.hid (loose_dec (g := gr) (h := sh) (R := R) (L := Lk) hym)
      have HSU := Lib.hid (HWY.out.2 y hym)
      obtain ⟨⟨yh1, yh2⟩, yk, yo, ⟨ya1, ya2⟩, ⟨yb1, yb2⟩, yi⟩ := y
      simp only at hkind
      have HFY := Lib.hid hfy
      have HFN := Lib.hid hfn
      obtain ⟨nf, hnf⟩ : ∃ n, (foli gr sh R Lk st i).length = n := ⟨_, rfl⟩
      have HNF := Lib.hid hnf
      rw [hnf] at hfl
      have hwn : IntKind.i64.wrap ((nf : Int) + 1) = (nf : Int) + 1 := IntWalk.i64_in _ (by omega)
      have hnfs := hnf
      clear hcc hrz hez hzz hy hym hfy hfn hnf
      obtain ⟨c0, c1, c2, c3, c4, c5, c6, c7, c8⟩ := n9 hc
      have hka : KF wr (wr.alloc (bM yk yh1 yh2 yo ya1 ya2 yb1 yb2 yi)) := (Keeps.refl _ _).alloc _
      have hal := (MapKept.heap_alloc wr (bM yk yh1 yh2 yo ya1 ya2 yb1 yb2 yi)).1
      obtain ⟨b, hb⟩ : ∃ b, wr.heap.size = b := ⟨_, rfl⟩
      rw [hb] at hal
      have HB := Lib.hid hal
      have HX := Lib.hid (HI.out.trans hka)
      go_upto_region 8 with fail
      (try simp only [hb, hnfs])
      clear hka hb hal hc hg HI hnfs c0 c1 c2 c3 c4 c5 c6 c7 c8
      generalize wr.alloc (bM yk yh1 yh2 yo ya1 ya2 yb1 yb2 yi) = w6 at *
      have HY0 : Hid (KF w6 w6) := Keeps.refl _ _
      have MK : Hid (∀ w, KF w6 w → w.cell? ⟨b, 0, none⟩ = some (.int .i64 yk) ∧ w.cell? ⟨b, 1, none⟩ = some (.string ⟨yh1.toArray⟩) ∧ w.cell? ⟨b, 2, none⟩ = some (.string ⟨yh2.toArray⟩) ∧ w.cell? ⟨b, 3, none⟩ = some (.string ⟨yo.toArray⟩) ∧ w.cell? ⟨b, 4, none⟩ = some (.string ⟨ya1.toArray⟩) ∧ w.cell? ⟨b, 5, none⟩ = some (.string ⟨ya2.toArray⟩) ∧ w.cell? ⟨b, 6, none⟩ = some (.string ⟨yb1.toArray⟩) ∧ w.cell? ⟨b, 7, none⟩ = some (.string ⟨yb2.toArray⟩) ∧ w.cell? ⟨b, 8, none⟩ = some (.string ⟨yi.toArray⟩) ∧ w.cell? ⟨vb, 0, none⟩ = some (.slice ro rn rc) ∧ w.cell? ⟨vb, 1, none⟩ = some (.slice lo ln lc) ∧ w.cell? ⟨vb, 2, none⟩ = some (.slice po pn pc) ∧ w.cell? ⟨vb, 3, none⟩ = some (.slice fo fn' fc) ∧ w.cell? ⟨vb, 4, none⟩ = some (.slice oo on' oc) ∧ w.cell? ⟨vb, 5, none⟩ = some (.slice go gn gc) ∧ w.cell? ⟨vb, 6, none⟩ = some (.bool lk) ∧ w.cell? ⟨bWA, 1, none⟩ = some (.slice bo bn bc) ∧ w.cell? ⟨bWA, 2, none⟩ = some (.slice co cn cc)) := fun w hk => by
       have q1 := (hk.block _ (lt_of_heap HB.out) (fun x => x)).trans HB.out
       have q2 := ((HX.out.trans hk).block _ (lt_of_heap HV5.out) (fun x => x)).trans HV5.out
       have q3 := ((HX.out.trans hk).block _ (lt_of_heap HP5.out) (fun x => x)).trans HP5.out
       refine ⟨?_, ?_, ?_, ?_, ?_, ?_, ?_, ?_, ?_, ?_, ?_, ?_, ?_, ?_, ?_, ?_, ?_, ?_⟩ <;> first | (rw [cell_of_heap q1]; rfl) | (rw [cell_of_heap q2]; rfl) | (rw [cell_of_heap q3]; rfl)
      obtain ⟨xv, hxv⟩ : ∃ x, hasV R Lk (yh1, yh2) = x := ⟨_, rfl⟩
      obtain ⟨xg, hxg⟩ : ∃ x, decide ((yh1, yh2) ∈ gr) = x := ⟨_, rfl⟩
      obtain ⟨xh, hxh⟩ : ∃ x, decide ((yh1, yh2) ∈ sh) = x := ⟨_, rfl⟩
      have hfol : folB gr sh R Lk ((yh1, yh2), yk, yo, (ya1, ya2), (yb1, yb2), yi) = (xv && (xg || xh)) := by
       show (hasV R Lk (yh1, yh2) && (decide ((yh1, yh2) ∈ gr) || decide ((yh1, yh2) ∈ sh))) = _
       rw [hxv, hxg, hxh]
      have HFOL := Lib.hid hfol
      have hfd := HFD.out
      have hld := HLD.out
      rw [hfol, show decide ((((yh1, yh2), yk, yo, (ya1, ya2), (yb1, yb2), yi) : Stm).1 ∈ sh) = xh from hxh] at hfd hld
      have CV : Hid (∀ w, KF w6 w → ∀ r : Rol, Calls Tryz.prog 41 #[.agg #[.slice ro rn rc, .slice lo ln lc, .slice po pn pc, .slice fo fn' fc, .slice oo on' oc, .slice go gn gc, .bool lk], rolV2 r] w fun e W' => e = .returned (.bool (hasV R Lk r)) ∧ Hid (KF w W')) := fun w hk r => vhas_spec (HVX.out.1.keeps (HX.out.trans hk)) (HVX.out.2.1.keeps (HX.out.trans hk)) (by omega) (by omega) r
      have CH : Hid (∀ w, KF w6 w → Calls Tryz.prog 41 #[.agg #[.slice ro rn rc, .slice lo ln lc, .slice po pn pc, .slice fo fn' fc, .slice oo on' oc, .slice go gn gc, .bool lk], .agg #[.string ⟨yh1.toArray⟩, .string ⟨yh2.toArray⟩]] w fun e W' => e = .returned (.bool xv) ∧ Hid (KF w W')) := fun w hk => by have q := CV.out w hk (yh1, yh2); rw [hxv] at q; exact q
      have CG : Hid (∀ w, KF w6 w → Calls Tryz.prog 20 #[.slice bo bn bc, .agg #[.string ⟨yh1.toArray⟩, .string ⟨yh2.toArray⟩]] w fun e W' => e = .returned (.bool xg) ∧ Hid (KF w W')) := fun w hk => by have q := rhas_spec (rdk_r.1 (HT1.out.keeps (HK5.out.trans (HX.out.trans hk)))) (by omega) (yh1, yh2); rw [hxg] at q; exact q
      have CS : Hid (∀ w, KF w6 w → Calls Tryz.prog 20 #[.slice co cn cc, .agg #[.string ⟨yh1.toArray⟩, .string ⟨yh2.toArray⟩]] w fun e W' => e = .returned (.bool xh) ∧ Hid (KF w W')) := fun w hk => by have q := rhas_spec (rdk_r.1 (HT2.out.keeps (HK5.out.trans (HX.out.trans hk)))) (by omega) (yh1, yh2); rw [hxh] at q; exact q
      have CF : Hid (∀ w, KF w6 w → Calls Tryz.prog 47 #[.slice fo fn' fc, stmV ((yh1, yh2), yk, yo, (ya1, ya2), (yb1, yb2), yi)] w fun e W' => e = .returned (.bool (xv && (xg || xh) && xh)) ∧ Hid (KF w W')) := fun w hk => by have q := mhas_spec (rdk_m.1 (HVX.out.2.2.2.1.keeps (HX.out.trans hk))) (by omega) ((yh1, yh2), yk, yo, (ya1, ya2), (yb1, yb2), yi); rw [hfd] at q; exact q
      have CL : Hid (∀ w, KF w6 w → Calls Tryz.prog 47 #[.slice oo on' oc, stmV ((yh1, yh2), yk, yo, (ya1, ya2), (yb1, yb2), yi)] w fun e W' => e = .returned (.bool (xv && (xg || xh) && !xh)) ∧ Hid (KF w W')) := fun w hk => by have q := mhas_spec (rdk_m.1 (HVX.out.2.2.2.2.1.keeps (HX.out.trans hk))) (by omega) ((yh1, yh2), yk, yo, (ya1, ya2), (yb1, yb2), yi); rw [hld] at q; exact q
      unfold stmV at CF CL
      simp only at CF CL
      clear hfd hld hxv hxg hxh hfol HFD HLD
      obtain ⟨p0, p1, p2, p3, p4, p5, p6, p7, p8, v0, v1, v2, v3, v4, v5, v6, x1, x2⟩ := MK.out _ HY0.out
      cases xv
      case false =>
       cases xg <;> cases xh
       ·skip
        as_aux_lemma =>
         have hf0 := HFN.out HFOL.out
         simp only [Bool.and_false, Bool.false_and, Bool.and_self, Bool.or_false, Bool.or_self, Bool.not_false, Bool.not_true] at CF CL
         go_wp2_with fail
         refine (CG.out _ HY0.out).mono ?_
         rintro e w7 ⟨rfl, hk⟩
         clear p0 p1 p2 p3 p4 p5 p6 p7 p8 v0 v1 v2 v3 v4 v5 v6 x1 x2
         replace HY0 := Lib.hid (HY0.out.trans hk.out)
         obtain ⟨p0, p1, p2, p3, p4, p5, p6, p7, p8, v0, v1, v2, v3, v4, v5, v6, x1, x2⟩ := MK.out _ HY0.out
         clear hk
         go_wp2_with fail
         refine (CS.out _ HY0.out).mono ?_
         rintro e w7 ⟨rfl, hk⟩
         clear p0 p1 p2 p3 p4 p5 p6 p7 p8 v0 v1 v2 v3 v4 v5 v6 x1 x2
         replace HY0 := Lib.hid (HY0.out.trans hk.out)
         obtain ⟨p0, p1, p2, p3, p4, p5, p6, p7, p8, v0, v1, v2, v3, v4, v5, v6, x1, x2⟩ := MK.out _ HY0.out
         clear hk
         go_wp2_with fail
         refine (CF.out _ HY0.out).mono ?_
         rintro e w7 ⟨rfl, hk⟩
         clear p0 p1 p2 p3 p4 p5 p6 p7 p8 v0 v1 v2 v3 v4 v5 v6 x1 x2
         replace HY0 := Lib.hid (HY0.out.trans hk.out)
         obtain ⟨p0, p1, p2, p3, p4, p5, p6, p7, p8, v0, v1, v2, v3, v4, v5, v6, x1, x2⟩ := MK.out _ HY0.out
         clear hk
         go_wp2_with fail
         refine (CL.out _ HY0.out).mono ?_
         rintro e w7 ⟨rfl, hk⟩
         clear p0 p1 p2 p3 p4 p5 p6 p7 p8 v0 v1 v2 v3 v4 v5 v6 x1 x2
         replace HY0 := Lib.hid (HY0.out.trans hk.out)
         obtain ⟨p0, p1, p2, p3, p4, p5, p6, p7, p8, v0, v1, v2, v3, v4, v5, v6, x1, x2⟩ := MK.out _ HY0.out
         clear hk
         go_wp2_with fail
         refine (CF.out _ HY0.out).mono ?_
         rintro e w7 ⟨rfl, hk⟩
         clear p0 p1 p2 p3 p4 p5 p6 p7 p8 v0 v1 v2 v3 v4 v5 v6 x1 x2
         replace HY0 := Lib.hid (HY0.out.trans hk.out)
         obtain ⟨p0, p1, p2, p3, p4, p5, p6, p7, p8, v0, v1, v2, v3, v4, v5, v6, x1, x2⟩ := MK.out _ HY0.out
         clear hk
         go_wp2_with fail
         go_roundg (an - (i + 1))
         case measure => omega
         case rel => exact ⟨i + 1, by omega, rfl, by rw [hf0, HNF.out], by go_num, HX.out.trans HY0.out⟩
       ·skip
        as_aux_lemma =>
         have hf0 := HFN.out HFOL.out
         simp only [Bool.and_false, Bool.false_and, Bool.and_self, Bool.or_false, Bool.or_self, Bool.not_false, Bool.not_true] at CF CL
         go_wp2_with fail
         refine (CG.out _ HY0.out).mono ?_
         rintro e w7 ⟨rfl, hk⟩
         clear p0 p1 p2 p3 p4 p5 p6 p7 p8 v0 v1 v2 v3 v4 v5 v6 x1 x2
         replace HY0 := Lib.hid (HY0.out.trans hk.out)
         obtain ⟨p0, p1, p2, p3, p4, p5, p6, p7, p8, v0, v1, v2, v3, v4, v5, v6, x1, x2⟩ := MK.out _ HY0.out
         clear hk
         go_wp2_with fail
         refine (CS.out _ HY0.out).mono ?_
         rintro e w7 ⟨rfl, hk⟩
         clear p0 p1 p2 p3 p4 p5 p6 p7 p8 v0 v1 v2 v3 v4 v5 v6 x1 x2
         replace HY0 := Lib.hid (HY0.out.trans hk.out)
         obtain ⟨p0, p1, p2, p3, p4, p5, p6, p7, p8, v0, v1, v2, v3, v4, v5, v6, x1, x2⟩ := MK.out _ HY0.out
         clear hk
         go_wp2_with fail
         refine (CF.out _ HY0.out).mono ?_
         rintro e w7 ⟨rfl, hk⟩
         clear p0 p1 p2 p3 p4 p5 p6 p7 p8 v0 v1 v2 v3 v4 v5 v6 x1 x2
         replace HY0 := Lib.hid (HY0.out.trans hk.out)
         obtain ⟨p0, p1, p2, p3, p4, p5, p6, p7, p8, v0, v1, v2, v3, v4, v5, v6, x1, x2⟩ := MK.out _ HY0.out
         clear hk
         go_wp2_with fail
         refine (CL.out _ HY0.out).mono ?_
         rintro e w7 ⟨rfl, hk⟩
         clear p0 p1 p2 p3 p4 p5 p6 p7 p8 v0 v1 v2 v3 v4 v5 v6 x1 x2
         replace HY0 := Lib.hid (HY0.out.trans hk.out)
         obtain ⟨p0, p1, p2, p3, p4, p5, p6, p7, p8, v0, v1, v2, v3, v4, v5, v6, x1, x2⟩ := MK.out _ HY0.out
         clear hk
         go_wp2_with fail
         refine (CH.out _ HY0.out).mono ?_
         rintro e w7 ⟨rfl, hk⟩
         clear p0 p1 p2 p3 p4 p5 p6 p7 p8 v0 v1 v2 v3 v4 v5 v6 x1 x2
         replace HY0 := Lib.hid (HY0.out.trans hk.out)
         obtain ⟨p0, p1, p2, p3, p4, p5, p6, p7, p8, v0, v1, v2, v3, v4, v5, v6, x1, x2⟩ := MK.out _ HY0.out
         clear hk
         go_wp2_with fail
         refine (CF.out _ HY0.out).mono ?_
         rintro e w7 ⟨rfl, hk⟩
         clear p0 p1 p2 p3 p4 p5 p6 p7 p8 v0 v1 v2 v3 v4 v5 v6 x1 x2
         replace HY0 := Lib.hid (HY0.out.trans hk.out)
         obtain ⟨p0, p1, p2, p3, p4, p5, p6, p7, p8, v0, v1, v2, v3, v4, v5, v6, x1, x2⟩ := MK.out _ HY0.out
         clear hk
         go_wp2_with fail
         go_roundg (an - (i + 1))
         case measure => omega
         case rel => exact ⟨i + 1, by omega, rfl, by rw [hf0, HNF.out], by go_num, HX.out.trans HY0.out⟩
       ·skip
        as_aux_lemma =>
         have hf0 := HFN.out HFOL.out
         simp only [Bool.and_false, Bool.false_and, Bool.and_self, Bool.or_false, Bool.or_self, Bool.not_false, Bool.not_true] at CF CL
         go_wp2_with fail
         refine (CG.out _ HY0.out).mono ?_
         rintro e w7 ⟨rfl, hk⟩
         clear p0 p1 p2 p3 p4 p5 p6 p7 p8 v0 v1 v2 v3 v4 v5 v6 x1 x2
         replace HY0 := Lib.hid (HY0.out.trans hk.out)
         obtain ⟨p0, p1, p2, p3, p4, p5, p6, p7, p8, v0, v1, v2, v3, v4, v5, v6, x1, x2⟩ := MK.out _ HY0.out
         clear hk
         go_wp2_with fail
         refine (CF.out _ HY0.out).mono ?_
         rintro e w7 ⟨rfl, hk⟩
         clear p0 p1 p2 p3 p4 p5 p6 p7 p8 v0 v1 v2 v3 v4 v5 v6 x1 x2
         replace HY0 := Lib.hid (HY0.out.trans hk.out)
         obtain ⟨p0, p1, p2, p3, p4, p5, p6, p7, p8, v0, v1, v2, v3, v4, v5, v6, x1, x2⟩ := MK.out _ HY0.out
         clear hk
         go_wp2_with fail
         refine (CL.out _ HY0.out).mono ?_
         rintro e w7 ⟨rfl, hk⟩
         clear p0 p1 p2 p3 p4 p5 p6 p7 p8 v0 v1 v2 v3 v4 v5 v6 x1 x2
         replace HY0 := Lib.hid (HY0.out.trans hk.out)
         obtain ⟨p0, p1, p2, p3, p4, p5, p6, p7, p8, v0, v1, v2, v3, v4, v5, v6, x1, x2⟩ := MK.out _ HY0.out
         clear hk
         go_wp2_with fail
         refine (CH.out _ HY0.out).mono ?_
         rintro e w7 ⟨rfl, hk⟩
         clear p0 p1 p2 p3 p4 p5 p6 p7 p8 v0 v1 v2 v3 v4 v5 v6 x1 x2
         replace HY0 := Lib.hid (HY0.out.trans hk.out)
         obtain ⟨p0, p1, p2, p3, p4, p5, p6, p7, p8, v0, v1, v2, v3, v4, v5, v6, x1, x2⟩ := MK.out _ HY0.out
         clear hk
         go_wp2_with fail
         refine (CF.out _ HY0.out).mono ?_
         rintro e w7 ⟨rfl, hk⟩
         clear p0 p1 p2 p3 p4 p5 p6 p7 p8 v0 v1 v2 v3 v4 v5 v6 x1 x2
         replace HY0 := Lib.hid (HY0.out.trans hk.out)
         obtain ⟨p0, p1, p2, p3, p4, p5, p6, p7, p8, v0, v1, v2, v3, v4, v5, v6, x1, x2⟩ := MK.out _ HY0.out
         clear hk
         go_wp2_with fail
         go_roundg (an - (i + 1))
         case measure => omega
         case rel => exact ⟨i + 1, by omega, rfl, by rw [hf0, HNF.out], by go_num, HX.out.trans HY0.out⟩
       ·skip
        as_aux_lemma =>
         have hf0 := HFN.out HFOL.out
         simp only [Bool.and_false, Bool.false_and, Bool.and_self, Bool.or_false, Bool.or_self, Bool.not_false, Bool.not_true] at CF CL
         go_wp2_with fail
         refine (CG.out _ HY0.out).mono ?_
         rintro e w7 ⟨rfl, hk⟩
         clear p0 p1 p2 p3 p4 p5 p6 p7 p8 v0 v1 v2 v3 v4 v5 v6 x1 x2
         replace HY0 := Lib.hid (HY0.out.trans hk.out)
         obtain ⟨p0, p1, p2, p3, p4, p5, p6, p7, p8, v0, v1, v2, v3, v4, v5, v6, x1, x2⟩ := MK.out _ HY0.out
         clear hk
         go_wp2_with fail
         refine (CF.out _ HY0.out).mono ?_
         rintro e w7 ⟨rfl, hk⟩
         clear p0 p1 p2 p3 p4 p5 p6 p7 p8 v0 v1 v2 v3 v4 v5 v6 x1 x2
         replace HY0 := Lib.hid (HY0.out.trans hk.out)
         obtain ⟨p0, p1, p2, p3, p4, p5, p6, p7, p8, v0, v1, v2, v3, v4, v5, v6, x1, x2⟩ := MK.out _ HY0.out
         clear hk
         go_wp2_with fail
         refine (CL.out _ HY0.out).mono ?_
         rintro e w7 ⟨rfl, hk⟩
         clear p0 p1 p2 p3 p4 p5 p6 p7 p8 v0 v1 v2 v3 v4 v5 v6 x1 x2
         replace HY0 := Lib.hid (HY0.out.trans hk.out)
         obtain ⟨p0, p1, p2, p3, p4, p5, p6, p7, p8, v0, v1, v2, v3, v4, v5, v6, x1, x2⟩ := MK.out _ HY0.out
         clear hk
         go_wp2_with fail
         refine (CH.out _ HY0.out).mono ?_
         rintro e w7 ⟨rfl, hk⟩
         clear p0 p1 p2 p3 p4 p5 p6 p7 p8 v0 v1 v2 v3 v4 v5 v6 x1 x2
         replace HY0 := Lib.hid (HY0.out.trans hk.out)
         obtain ⟨p0, p1, p2, p3, p4, p5, p6, p7, p8, v0, v1, v2, v3, v4, v5, v6, x1, x2⟩ := MK.out _ HY0.out
         clear hk
         go_wp2_with fail
         refine (CF.out _ HY0.out).mono ?_
         rintro e w7 ⟨rfl, hk⟩
         clear p0 p1 p2 p3 p4 p5 p6 p7 p8 v0 v1 v2 v3 v4 v5 v6 x1 x2
         replace HY0 := Lib.hid (HY0.out.trans hk.out)
         obtain ⟨p0, p1, p2, p3, p4, p5, p6, p7, p8, v0, v1, v2, v3, v4, v5, v6, x1, x2⟩ := MK.out _ HY0.out
         clear hk
         go_wp2_with fail
         go_roundg (an - (i + 1))
         case measure => omega
         case rel => exact ⟨i + 1, by omega, rfl, by rw [hf0, HNF.out], by go_num, HX.out.trans HY0.out⟩
      case true =>
       cases xg <;> cases xh
       ·skip
        as_aux_lemma =>
         have hf0 := HFN.out HFOL.out
         simp only [Bool.and_false, Bool.false_and, Bool.and_self, Bool.or_false, Bool.or_self, Bool.not_false, Bool.not_true] at CF CL
         go_wp2_with fail
         refine (CG.out _ HY0.out).mono ?_
         rintro e w7 ⟨rfl, hk⟩
         clear p0 p1 p2 p3 p4 p5 p6 p7 p8 v0 v1 v2 v3 v4 v5 v6 x1 x2
         replace HY0 := Lib.hid (HY0.out.trans hk.out)
         obtain ⟨p0, p1, p2, p3, p4, p5, p6, p7, p8, v0, v1, v2, v3, v4, v5, v6, x1, x2⟩ := MK.out _ HY0.out
         clear hk
         go_wp2_with fail
         refine (CS.out _ HY0.out).mono ?_
         rintro e w7 ⟨rfl, hk⟩
         clear p0 p1 p2 p3 p4 p5 p6 p7 p8 v0 v1 v2 v3 v4 v5 v6 x1 x2
         replace HY0 := Lib.hid (HY0.out.trans hk.out)
         obtain ⟨p0, p1, p2, p3, p4, p5, p6, p7, p8, v0, v1, v2, v3, v4, v5, v6, x1, x2⟩ := MK.out _ HY0.out
         clear hk
         go_wp2_with fail
         refine (CF.out _ HY0.out).mono ?_
         rintro e w7 ⟨rfl, hk⟩
         clear p0 p1 p2 p3 p4 p5 p6 p7 p8 v0 v1 v2 v3 v4 v5 v6 x1 x2
         replace HY0 := Lib.hid (HY0.out.trans hk.out)
         obtain ⟨p0, p1, p2, p3, p4, p5, p6, p7, p8, v0, v1, v2, v3, v4, v5, v6, x1, x2⟩ := MK.out _ HY0.out
         clear hk
         go_wp2_with fail
         refine (CL.out _ HY0.out).mono ?_
         rintro e w7 ⟨rfl, hk⟩
         clear p0 p1 p2 p3 p4 p5 p6 p7 p8 v0 v1 v2 v3 v4 v5 v6 x1 x2
         replace HY0 := Lib.hid (HY0.out.trans hk.out)
         obtain ⟨p0, p1, p2, p3, p4, p5, p6, p7, p8, v0, v1, v2, v3, v4, v5, v6, x1, x2⟩ := MK.out _ HY0.out
         clear hk
         go_wp2_with fail
         refine (CF.out _ HY0.out).mono ?_
         rintro e w7 ⟨rfl, hk⟩
         clear p0 p1 p2 p3 p4 p5 p6 p7 p8 v0 v1 v2 v3 v4 v5 v6 x1 x2
         replace HY0 := Lib.hid (HY0.out.trans hk.out)
         obtain ⟨p0, p1, p2, p3, p4, p5, p6, p7, p8, v0, v1, v2, v3, v4, v5, v6, x1, x2⟩ := MK.out _ HY0.out
         clear hk
         go_wp2_with fail
         go_roundg (an - (i + 1))
         case measure => omega
         case rel => exact ⟨i + 1, by omega, rfl, by rw [hf0, HNF.out], by go_num, HX.out.trans HY0.out⟩
       ·skip
        have hf1 := HFY.out HFOL.out
        simp only [Bool.and_true, Bool.true_and, Bool.and_self, Bool.true_or, Bool.or_true, Bool.or_self, Bool.not_false, Bool.not_true, Bool.and_false] at CF CL
        have hsu := HSU.out HFOL.out
        have how := owner_in HYM.out HFOL.out
        have CO : Hid (∀ w, KF w6 w → Calls Tryz.prog 33 #[.slice po pn pc, .string ⟨yh1.toArray⟩] w fun e W' => e = .returned (.bool true) ∧ w = W') := fun w hk => by
         have q := ref_has (HVX.out.2.2.1.keeps (HX.out.trans hk)) (by omega) yh1
         rw [decide_eq_true how] at q
         exact q
        go_wp2_with fail
        refine (CG.out _ HY0.out).mono ?_
        rintro e w7 ⟨rfl, hk⟩
        clear p0 p1 p2 p3 p4 p5 p6 p7 p8 v0 v1 v2 v3 v4 v5 v6 x1 x2
        replace HY0 := Lib.hid (HY0.out.trans hk.out)
        obtain ⟨p0, p1, p2, p3, p4, p5, p6, p7, p8, v0, v1, v2, v3, v4, v5, v6, x1, x2⟩ := MK.out _ HY0.out
        clear hk
        go_wp2_with fail
        refine (CS.out _ HY0.out).mono ?_
        rintro e w7 ⟨rfl, hk⟩
        clear p0 p1 p2 p3 p4 p5 p6 p7 p8 v0 v1 v2 v3 v4 v5 v6 x1 x2
        replace HY0 := Lib.hid (HY0.out.trans hk.out)
        obtain ⟨p0, p1, p2, p3, p4, p5, p6, p7, p8, v0, v1, v2, v3, v4, v5, v6, x1, x2⟩ := MK.out _ HY0.out
        clear hk
        go_wp2_with fail
        refine (CF.out _ HY0.out).mono ?_
        rintro e w7 ⟨rfl, hk⟩
        clear p0 p1 p2 p3 p4 p5 p6 p7 p8 v0 v1 v2 v3 v4 v5 v6 x1 x2
        replace HY0 := Lib.hid (HY0.out.trans hk.out)
        obtain ⟨p0, p1, p2, p3, p4, p5, p6, p7, p8, v0, v1, v2, v3, v4, v5, v6, x1, x2⟩ := MK.out _ HY0.out
        clear hk
        go_wp2_with fail
        refine (CH.out _ HY0.out).mono ?_
        rintro e w7 ⟨rfl, hk⟩
        clear p0 p1 p2 p3 p4 p5 p6 p7 p8 v0 v1 v2 v3 v4 v5 v6 x1 x2
        replace HY0 := Lib.hid (HY0.out.trans hk.out)
        obtain ⟨p0, p1, p2, p3, p4, p5, p6, p7, p8, v0, v1, v2, v3, v4, v5, v6, x1, x2⟩ := MK.out _ HY0.out
        clear hk
        go_wp2_with fail
        refine (CF.out _ HY0.out).mono ?_
        rintro e w7 ⟨rfl, hk⟩
        clear p0 p1 p2 p3 p4 p5 p6 p7 p8 v0 v1 v2 v3 v4 v5 v6 x1 x2
        replace HY0 := Lib.hid (HY0.out.trans hk.out)
        obtain ⟨p0, p1, p2, p3, p4, p5, p6, p7, p8, v0, v1, v2, v3, v4, v5, v6, x1, x2⟩ := MK.out _ HY0.out
        clear hk
        go_wp2_with fail
        refine (CS.out _ HY0.out).mono ?_
        rintro e w7 ⟨rfl, hk⟩
        clear p0 p1 p2 p3 p4 p5 p6 p7 p8 v0 v1 v2 v3 v4 v5 v6 x1 x2
        replace HY0 := Lib.hid (HY0.out.trans hk.out)
        obtain ⟨p0, p1, p2, p3, p4, p5, p6, p7, p8, v0, v1, v2, v3, v4, v5, v6, x1, x2⟩ := MK.out _ HY0.out
        clear hk
        by_cases hk1 : yk = 1
        case pos =>
         subst hk1
         as_aux_lemma =>
          have hwho := who_in HYM.out HFOL.out rfl
          have CW : Hid (∀ w, KF w6 w → Calls Tryz.prog 33 #[.slice po pn pc, .string ⟨yo.toArray⟩] w fun e W' => e = .returned (.bool true) ∧ w = W') := fun w hk => by
           have q := ref_has (HVX.out.2.2.1.keeps (HX.out.trans hk)) (by omega) yo
           rw [decide_eq_true hwho] at q
           exact q
          clear hsu how HSU hwho
          go_wp2_with fail
          refine (CW.out _ HY0.out).mono ?_
          rintro e w7 ⟨rfl, rfl⟩
          go_wp2_with fail
          refine (CO.out _ HY0.out).mono ?_
          rintro e w7 ⟨rfl, rfl⟩
          go_wp2_with fail
          go_roundg (an - (i + 1))
          case measure => omega
          case rel => exact ⟨i + 1, by omega, rfl, by rw [hf1, List.length_append, HNF.out]; go_num, by go_num, HX.out.trans HY0.out⟩
        case neg =>
         by_cases hk2 : yk = 2
         case pos =>
          subst hk2
          as_aux_lemma =>
           have CA : Hid (∀ w, KF w6 w → Calls Tryz.prog 41 #[.agg #[.slice ro rn rc, .slice lo ln lc, .slice po pn pc, .slice fo fn' fc, .slice oo on' oc, .slice go gn gc, .bool lk], .agg #[.string ⟨ya1.toArray⟩, .string ⟨ya2.toArray⟩]] w fun e W' => e = .returned (.bool true) ∧ Hid (KF w W')) := fun w hk => by have q := CV.out w hk (ya1, ya2); rw [has_of (hsu.1 (ya1, ya2) (by unfold moreS; simp))] at q; exact q
           clear hsu how HSU 
           go_wp2_with fail
           refine (CA.out _ HY0.out).mono ?_
           rintro e w7 ⟨rfl, hk⟩
           clear p0 p1 p2 p3 p4 p5 p6 p7 p8 v0 v1 v2 v3 v4 v5 v6 x1 x2
           replace HY0 := Lib.hid (HY0.out.trans hk.out)
           obtain ⟨p0, p1, p2, p3, p4, p5, p6, p7, p8, v0, v1, v2, v3, v4, v5, v6, x1, x2⟩ := MK.out _ HY0.out
           clear hk
           go_wp2_with fail
           refine (CO.out _ HY0.out).mono ?_
           rintro e w7 ⟨rfl, rfl⟩
           go_wp2_with fail
           go_roundg (an - (i + 1))
           case measure => omega
           case rel => exact ⟨i + 1, by omega, rfl, by rw [hf1, List.length_append, HNF.out]; go_num, by go_num, HX.out.trans HY0.out⟩
         case neg =>
          by_cases hk3 : yk = 3
          case pos =>
           subst hk3
           as_aux_lemma =>
            have CA : Hid (∀ w, KF w6 w → Calls Tryz.prog 41 #[.agg #[.slice ro rn rc, .slice lo ln lc, .slice po pn pc, .slice fo fn' fc, .slice oo on' oc, .slice go gn gc, .bool lk], .agg #[.string ⟨ya1.toArray⟩, .string ⟨ya2.toArray⟩]] w fun e W' => e = .returned (.bool true) ∧ Hid (KF w W')) := fun w hk => by have q := CV.out w hk (ya1, ya2); rw [has_of (hsu.1 (ya1, ya2) (by unfold moreS; simp))] at q; exact q
            have CI : Hid (∀ w, KF w6 w → Calls Tryz.prog 33 #[.slice lo ln lc, .string ⟨yi.toArray⟩] w fun e W' => e = .returned (.bool true) ∧ w = W') := fun w hk => by
             have q := ref_has (HVX.out.2.1.keeps (HX.out.trans hk)) (by omega) yi
             rw [decide_eq_true (hsu.2 yi (by unfold viaS; simp))] at q
             exact q
            clear hsu how HSU 
            go_wp2_with fail
            refine (CA.out _ HY0.out).mono ?_
            rintro e w7 ⟨rfl, hk⟩
            clear p0 p1 p2 p3 p4 p5 p6 p7 p8 v0 v1 v2 v3 v4 v5 v6 x1 x2
            replace HY0 := Lib.hid (HY0.out.trans hk.out)
            obtain ⟨p0, p1, p2, p3, p4, p5, p6, p7, p8, v0, v1, v2, v3, v4, v5, v6, x1, x2⟩ := MK.out _ HY0.out
            clear hk
            go_wp2_with fail
            refine (CI.out _ HY0.out).mono ?_
            rintro e w7 ⟨rfl, rfl⟩
            go_wp2_with fail
            refine (CO.out _ HY0.out).mono ?_
            rintro e w7 ⟨rfl, rfl⟩
            go_wp2_with fail
            go_roundg (an - (i + 1))
            case measure => omega
            case rel => exact ⟨i + 1, by omega, rfl, by rw [hf1, List.length_append, HNF.out]; go_num, by go_num, HX.out.trans HY0.out⟩
          case neg =>
           obtain rfl : yk = 4 := by omega
           as_aux_lemma =>
            have CA : Hid (∀ w, KF w6 w → Calls Tryz.prog 41 #[.agg #[.slice ro rn rc, .slice lo ln lc, .slice po pn pc, .slice fo fn' fc, .slice oo on' oc, .slice go gn gc, .bool lk], .agg #[.string ⟨ya1.toArray⟩, .string ⟨ya2.toArray⟩]] w fun e W' => e = .returned (.bool true) ∧ Hid (KF w W')) := fun w hk => by have q := CV.out w hk (ya1, ya2); rw [has_of (hsu.1 (ya1, ya2) (by unfold moreS; simp))] at q; exact q
            have CB : Hid (∀ w, KF w6 w → Calls Tryz.prog 41 #[.agg #[.slice ro rn rc, .slice lo ln lc, .slice po pn pc, .slice fo fn' fc, .slice oo on' oc, .slice go gn gc, .bool lk], .agg #[.string ⟨yb1.toArray⟩, .string ⟨yb2.toArray⟩]] w fun e W' => e = .returned (.bool true) ∧ Hid (KF w W')) := fun w hk => by have q := CV.out w hk (yb1, yb2); rw [has_of (hsu.1 (yb1, yb2) (by unfold moreS; simp))] at q; exact q
            clear hsu how HSU 
            go_wp2_with fail
            refine (CA.out _ HY0.out).mono ?_
            rintro e w7 ⟨rfl, hk⟩
            clear p0 p1 p2 p3 p4 p5 p6 p7 p8 v0 v1 v2 v3 v4 v5 v6 x1 x2
            replace HY0 := Lib.hid (HY0.out.trans hk.out)
            obtain ⟨p0, p1, p2, p3, p4, p5, p6, p7, p8, v0, v1, v2, v3, v4, v5, v6, x1, x2⟩ := MK.out _ HY0.out
            clear hk
            go_wp2_with fail
            refine (CB.out _ HY0.out).mono ?_
            rintro e w7 ⟨rfl, hk⟩
            clear p0 p1 p2 p3 p4 p5 p6 p7 p8 v0 v1 v2 v3 v4 v5 v6 x1 x2
            replace HY0 := Lib.hid (HY0.out.trans hk.out)
            obtain ⟨p0, p1, p2, p3, p4, p5, p6, p7, p8, v0, v1, v2, v3, v4, v5, v6, x1, x2⟩ := MK.out _ HY0.out
            clear hk
            go_wp2_with fail
            refine (CO.out _ HY0.out).mono ?_
            rintro e w7 ⟨rfl, rfl⟩
            go_wp2_with fail
            go_roundg (an - (i + 1))
            case measure => omega
            case rel => exact ⟨i + 1, by omega, rfl, by rw [hf1, List.length_append, HNF.out]; go_num, by go_num, HX.out.trans HY0.out⟩
       ·skip
        have hf1 := HFY.out HFOL.out
        simp only [Bool.and_true, Bool.true_and, Bool.and_self, Bool.true_or, Bool.or_true, Bool.or_self, Bool.not_false, Bool.not_true, Bool.and_false] at CF CL
        have hsu := HSU.out HFOL.out
        have how := owner_in HYM.out HFOL.out
        have CO : Hid (∀ w, KF w6 w → Calls Tryz.prog 33 #[.slice po pn pc, .string ⟨yh1.toArray⟩] w fun e W' => e = .returned (.bool true) ∧ w = W') := fun w hk => by
         have q := ref_has (HVX.out.2.2.1.keeps (HX.out.trans hk)) (by omega) yh1
         rw [decide_eq_true how] at q
         exact q
        go_wp2_with fail
        refine (CG.out _ HY0.out).mono ?_
        rintro e w7 ⟨rfl, hk⟩
        clear p0 p1 p2 p3 p4 p5 p6 p7 p8 v0 v1 v2 v3 v4 v5 v6 x1 x2
        replace HY0 := Lib.hid (HY0.out.trans hk.out)
        obtain ⟨p0, p1, p2, p3, p4, p5, p6, p7, p8, v0, v1, v2, v3, v4, v5, v6, x1, x2⟩ := MK.out _ HY0.out
        clear hk
        go_wp2_with fail
        refine (CF.out _ HY0.out).mono ?_
        rintro e w7 ⟨rfl, hk⟩
        clear p0 p1 p2 p3 p4 p5 p6 p7 p8 v0 v1 v2 v3 v4 v5 v6 x1 x2
        replace HY0 := Lib.hid (HY0.out.trans hk.out)
        obtain ⟨p0, p1, p2, p3, p4, p5, p6, p7, p8, v0, v1, v2, v3, v4, v5, v6, x1, x2⟩ := MK.out _ HY0.out
        clear hk
        go_wp2_with fail
        refine (CL.out _ HY0.out).mono ?_
        rintro e w7 ⟨rfl, hk⟩
        clear p0 p1 p2 p3 p4 p5 p6 p7 p8 v0 v1 v2 v3 v4 v5 v6 x1 x2
        replace HY0 := Lib.hid (HY0.out.trans hk.out)
        obtain ⟨p0, p1, p2, p3, p4, p5, p6, p7, p8, v0, v1, v2, v3, v4, v5, v6, x1, x2⟩ := MK.out _ HY0.out
        clear hk
        go_wp2_with fail
        refine (CH.out _ HY0.out).mono ?_
        rintro e w7 ⟨rfl, hk⟩
        clear p0 p1 p2 p3 p4 p5 p6 p7 p8 v0 v1 v2 v3 v4 v5 v6 x1 x2
        replace HY0 := Lib.hid (HY0.out.trans hk.out)
        obtain ⟨p0, p1, p2, p3, p4, p5, p6, p7, p8, v0, v1, v2, v3, v4, v5, v6, x1, x2⟩ := MK.out _ HY0.out
        clear hk
        go_wp2_with fail
        refine (CF.out _ HY0.out).mono ?_
        rintro e w7 ⟨rfl, hk⟩
        clear p0 p1 p2 p3 p4 p5 p6 p7 p8 v0 v1 v2 v3 v4 v5 v6 x1 x2
        replace HY0 := Lib.hid (HY0.out.trans hk.out)
        obtain ⟨p0, p1, p2, p3, p4, p5, p6, p7, p8, v0, v1, v2, v3, v4, v5, v6, x1, x2⟩ := MK.out _ HY0.out
        clear hk
        by_cases hk1 : yk = 1
        case pos =>
         subst hk1
         as_aux_lemma =>
          have hwho := who_in HYM.out HFOL.out rfl
          have CW : Hid (∀ w, KF w6 w → Calls Tryz.prog 33 #[.slice po pn pc, .string ⟨yo.toArray⟩] w fun e W' => e = .returned (.bool true) ∧ w = W') := fun w hk => by
           have q := ref_has (HVX.out.2.2.1.keeps (HX.out.trans hk)) (by omega) yo
           rw [decide_eq_true hwho] at q
           exact q
          clear hsu how HSU hwho
          go_wp2_with fail
          refine (CW.out _ HY0.out).mono ?_
          rintro e w7 ⟨rfl, rfl⟩
          go_wp2_with fail
          refine (CO.out _ HY0.out).mono ?_
          rintro e w7 ⟨rfl, rfl⟩
          go_wp2_with fail
          go_roundg (an - (i + 1))
          case measure => omega
          case rel => exact ⟨i + 1, by omega, rfl, by rw [hf1, List.length_append, HNF.out]; go_num, by go_num, HX.out.trans HY0.out⟩
        case neg =>
         by_cases hk2 : yk = 2
         case pos =>
          subst hk2
          as_aux_lemma =>
           have CA : Hid (∀ w, KF w6 w → Calls Tryz.prog 41 #[.agg #[.slice ro rn rc, .slice lo ln lc, .slice po pn pc, .slice fo fn' fc, .slice oo on' oc, .slice go gn gc, .bool lk], .agg #[.string ⟨ya1.toArray⟩, .string ⟨ya2.toArray⟩]] w fun e W' => e = .returned (.bool true) ∧ Hid (KF w W')) := fun w hk => by have q := CV.out w hk (ya1, ya2); rw [has_of (hsu.1 (ya1, ya2) (by unfold moreS; simp))] at q; exact q
           clear hsu how HSU 
           go_wp2_with fail
           refine (CA.out _ HY0.out).mono ?_
           rintro e w7 ⟨rfl, hk⟩
           clear p0 p1 p2 p3 p4 p5 p6 p7 p8 v0 v1 v2 v3 v4 v5 v6 x1 x2
           replace HY0 := Lib.hid (HY0.out.trans hk.out)
           obtain ⟨p0, p1, p2, p3, p4, p5, p6, p7, p8, v0, v1, v2, v3, v4, v5, v6, x1, x2⟩ := MK.out _ HY0.out
           clear hk
           go_wp2_with fail
           refine (CO.out _ HY0.out).mono ?_
           rintro e w7 ⟨rfl, rfl⟩
           go_wp2_with fail
           go_roundg (an - (i + 1))
           case measure => omega
           case rel => exact ⟨i + 1, by omega, rfl, by rw [hf1, List.length_append, HNF.out]; go_num, by go_num, HX.out.trans HY0.out⟩
         case neg =>
          by_cases hk3 : yk = 3
          case pos =>
           subst hk3
           as_aux_lemma =>
            have CA : Hid (∀ w, KF w6 w → Calls Tryz.prog 41 #[.agg #[.slice ro rn rc, .slice lo ln lc, .slice po pn pc, .slice fo fn' fc, .slice oo on' oc, .slice go gn gc, .bool lk], .agg #[.string ⟨ya1.toArray⟩, .string ⟨ya2.toArray⟩]] w fun e W' => e = .returned (.bool true) ∧ Hid (KF w W')) := fun w hk => by have q := CV.out w hk (ya1, ya2); rw [has_of (hsu.1 (ya1, ya2) (by unfold moreS; simp))] at q; exact q
            have CI : Hid (∀ w, KF w6 w → Calls Tryz.prog 33 #[.slice lo ln lc, .string ⟨yi.toArray⟩] w fun e W' => e = .returned (.bool true) ∧ w = W') := fun w hk => by
             have q := ref_has (HVX.out.2.1.keeps (HX.out.trans hk)) (by omega) yi
             rw [decide_eq_true (hsu.2 yi (by unfold viaS; simp))] at q
             exact q
            clear hsu how HSU 
            go_wp2_with fail
            refine (CA.out _ HY0.out).mono ?_
            rintro e w7 ⟨rfl, hk⟩
            clear p0 p1 p2 p3 p4 p5 p6 p7 p8 v0 v1 v2 v3 v4 v5 v6 x1 x2
            replace HY0 := Lib.hid (HY0.out.trans hk.out)
            obtain ⟨p0, p1, p2, p3, p4, p5, p6, p7, p8, v0, v1, v2, v3, v4, v5, v6, x1, x2⟩ := MK.out _ HY0.out
            clear hk
            go_wp2_with fail
            refine (CI.out _ HY0.out).mono ?_
            rintro e w7 ⟨rfl, rfl⟩
            go_wp2_with fail
            refine (CO.out _ HY0.out).mono ?_
            rintro e w7 ⟨rfl, rfl⟩
            go_wp2_with fail
            go_roundg (an - (i + 1))
            case measure => omega
            case rel => exact ⟨i + 1, by omega, rfl, by rw [hf1, List.length_append, HNF.out]; go_num, by go_num, HX.out.trans HY0.out⟩
          case neg =>
           obtain rfl : yk = 4 := by omega
           as_aux_lemma =>
            have CA : Hid (∀ w, KF w6 w → Calls Tryz.prog 41 #[.agg #[.slice ro rn rc, .slice lo ln lc, .slice po pn pc, .slice fo fn' fc, .slice oo on' oc, .slice go gn gc, .bool lk], .agg #[.string ⟨ya1.toArray⟩, .string ⟨ya2.toArray⟩]] w fun e W' => e = .returned (.bool true) ∧ Hid (KF w W')) := fun w hk => by have q := CV.out w hk (ya1, ya2); rw [has_of (hsu.1 (ya1, ya2) (by unfold moreS; simp))] at q; exact q
            have CB : Hid (∀ w, KF w6 w → Calls Tryz.prog 41 #[.agg #[.slice ro rn rc, .slice lo ln lc, .slice po pn pc, .slice fo fn' fc, .slice oo on' oc, .slice go gn gc, .bool lk], .agg #[.string ⟨yb1.toArray⟩, .string ⟨yb2.toArray⟩]] w fun e W' => e = .returned (.bool true) ∧ Hid (KF w W')) := fun w hk => by have q := CV.out w hk (yb1, yb2); rw [has_of (hsu.1 (yb1, yb2) (by unfold moreS; simp))] at q; exact q
            clear hsu how HSU 
            go_wp2_with fail
            refine (CA.out _ HY0.out).mono ?_
            rintro e w7 ⟨rfl, hk⟩
            clear p0 p1 p2 p3 p4 p5 p6 p7 p8 v0 v1 v2 v3 v4 v5 v6 x1 x2
            replace HY0 := Lib.hid (HY0.out.trans hk.out)
            obtain ⟨p0, p1, p2, p3, p4, p5, p6, p7, p8, v0, v1, v2, v3, v4, v5, v6, x1, x2⟩ := MK.out _ HY0.out
            clear hk
            go_wp2_with fail
            refine (CB.out _ HY0.out).mono ?_
            rintro e w7 ⟨rfl, hk⟩
            clear p0 p1 p2 p3 p4 p5 p6 p7 p8 v0 v1 v2 v3 v4 v5 v6 x1 x2
            replace HY0 := Lib.hid (HY0.out.trans hk.out)
            obtain ⟨p0, p1, p2, p3, p4, p5, p6, p7, p8, v0, v1, v2, v3, v4, v5, v6, x1, x2⟩ := MK.out _ HY0.out
            clear hk
            go_wp2_with fail
            refine (CO.out _ HY0.out).mono ?_
            rintro e w7 ⟨rfl, rfl⟩
            go_wp2_with fail
            go_roundg (an - (i + 1))
            case measure => omega
            case rel => exact ⟨i + 1, by omega, rfl, by rw [hf1, List.length_append, HNF.out]; go_num, by go_num, HX.out.trans HY0.out⟩
       ·skip
        have hf1 := HFY.out HFOL.out
        simp only [Bool.and_true, Bool.true_and, Bool.and_self, Bool.true_or, Bool.or_true, Bool.or_self, Bool.not_false, Bool.not_true, Bool.and_false] at CF CL
        have hsu := HSU.out HFOL.out
        have how := owner_in HYM.out HFOL.out
        have CO : Hid (∀ w, KF w6 w → Calls Tryz.prog 33 #[.slice po pn pc, .string ⟨yh1.toArray⟩] w fun e W' => e = .returned (.bool true) ∧ w = W') := fun w hk => by
         have q := ref_has (HVX.out.2.2.1.keeps (HX.out.trans hk)) (by omega) yh1
         rw [decide_eq_true how] at q
         exact q
        go_wp2_with fail
        refine (CG.out _ HY0.out).mono ?_
        rintro e w7 ⟨rfl, hk⟩
        clear p0 p1 p2 p3 p4 p5 p6 p7 p8 v0 v1 v2 v3 v4 v5 v6 x1 x2
        replace HY0 := Lib.hid (HY0.out.trans hk.out)
        obtain ⟨p0, p1, p2, p3, p4, p5, p6, p7, p8, v0, v1, v2, v3, v4, v5, v6, x1, x2⟩ := MK.out _ HY0.out
        clear hk
        go_wp2_with fail
        refine (CF.out _ HY0.out).mono ?_
        rintro e w7 ⟨rfl, hk⟩
        clear p0 p1 p2 p3 p4 p5 p6 p7 p8 v0 v1 v2 v3 v4 v5 v6 x1 x2
        replace HY0 := Lib.hid (HY0.out.trans hk.out)
        obtain ⟨p0, p1, p2, p3, p4, p5, p6, p7, p8, v0, v1, v2, v3, v4, v5, v6, x1, x2⟩ := MK.out _ HY0.out
        clear hk
        go_wp2_with fail
        refine (CH.out _ HY0.out).mono ?_
        rintro e w7 ⟨rfl, hk⟩
        clear p0 p1 p2 p3 p4 p5 p6 p7 p8 v0 v1 v2 v3 v4 v5 v6 x1 x2
        replace HY0 := Lib.hid (HY0.out.trans hk.out)
        obtain ⟨p0, p1, p2, p3, p4, p5, p6, p7, p8, v0, v1, v2, v3, v4, v5, v6, x1, x2⟩ := MK.out _ HY0.out
        clear hk
        go_wp2_with fail
        refine (CF.out _ HY0.out).mono ?_
        rintro e w7 ⟨rfl, hk⟩
        clear p0 p1 p2 p3 p4 p5 p6 p7 p8 v0 v1 v2 v3 v4 v5 v6 x1 x2
        replace HY0 := Lib.hid (HY0.out.trans hk.out)
        obtain ⟨p0, p1, p2, p3, p4, p5, p6, p7, p8, v0, v1, v2, v3, v4, v5, v6, x1, x2⟩ := MK.out _ HY0.out
        clear hk
        go_wp2_with fail
        refine (CS.out _ HY0.out).mono ?_
        rintro e w7 ⟨rfl, hk⟩
        clear p0 p1 p2 p3 p4 p5 p6 p7 p8 v0 v1 v2 v3 v4 v5 v6 x1 x2
        replace HY0 := Lib.hid (HY0.out.trans hk.out)
        obtain ⟨p0, p1, p2, p3, p4, p5, p6, p7, p8, v0, v1, v2, v3, v4, v5, v6, x1, x2⟩ := MK.out _ HY0.out
        clear hk
        by_cases hk1 : yk = 1
        case pos =>
         subst hk1
         as_aux_lemma =>
          have hwho := who_in HYM.out HFOL.out rfl
          have CW : Hid (∀ w, KF w6 w → Calls Tryz.prog 33 #[.slice po pn pc, .string ⟨yo.toArray⟩] w fun e W' => e = .returned (.bool true) ∧ w = W') := fun w hk => by
           have q := ref_has (HVX.out.2.2.1.keeps (HX.out.trans hk)) (by omega) yo
           rw [decide_eq_true hwho] at q
           exact q
          clear hsu how HSU hwho
          go_wp2_with fail
          refine (CW.out _ HY0.out).mono ?_
          rintro e w7 ⟨rfl, rfl⟩
          go_wp2_with fail
          refine (CO.out _ HY0.out).mono ?_
          rintro e w7 ⟨rfl, rfl⟩
          go_wp2_with fail
          go_roundg (an - (i + 1))
          case measure => omega
          case rel => exact ⟨i + 1, by omega, rfl, by rw [hf1, List.length_append, HNF.out]; go_num, by go_num, HX.out.trans HY0.out⟩
        case neg =>
         by_cases hk2 : yk = 2
         case pos =>
          subst hk2
          as_aux_lemma =>
           have CA : Hid (∀ w, KF w6 w → Calls Tryz.prog 41 #[.agg #[.slice ro rn rc, .slice lo ln lc, .slice po pn pc, .slice fo fn' fc, .slice oo on' oc, .slice go gn gc, .bool lk], .agg #[.string ⟨ya1.toArray⟩, .string ⟨ya2.toArray⟩]] w fun e W' => e = .returned (.bool true) ∧ Hid (KF w W')) := fun w hk => by have q := CV.out w hk (ya1, ya2); rw [has_of (hsu.1 (ya1, ya2) (by unfold moreS; simp))] at q; exact q
           clear hsu how HSU 
           go_wp2_with fail
           refine (CA.out _ HY0.out).mono ?_
           rintro e w7 ⟨rfl, hk⟩
           clear p0 p1 p2 p3 p4 p5 p6 p7 p8 v0 v1 v2 v3 v4 v5 v6 x1 x2
           replace HY0 := Lib.hid (HY0.out.trans hk.out)
           obtain ⟨p0, p1, p2, p3, p4, p5, p6, p7, p8, v0, v1, v2, v3, v4, v5, v6, x1, x2⟩ := MK.out _ HY0.out
           clear hk
           go_wp2_with fail
           refine (CO.out _ HY0.out).mono ?_
           rintro e w7 ⟨rfl, rfl⟩
           go_wp2_with fail
           go_roundg (an - (i + 1))
           case measure => omega
           case rel => exact ⟨i + 1, by omega, rfl, by rw [hf1, List.length_append, HNF.out]; go_num, by go_num, HX.out.trans HY0.out⟩
         case neg =>
          by_cases hk3 : yk = 3
          case pos =>
           subst hk3
           as_aux_lemma =>
            have CA : Hid (∀ w, KF w6 w → Calls Tryz.prog 41 #[.agg #[.slice ro rn rc, .slice lo ln lc, .slice po pn pc, .slice fo fn' fc, .slice oo on' oc, .slice go gn gc, .bool lk], .agg #[.string ⟨ya1.toArray⟩, .string ⟨ya2.toArray⟩]] w fun e W' => e = .returned (.bool true) ∧ Hid (KF w W')) := fun w hk => by have q := CV.out w hk (ya1, ya2); rw [has_of (hsu.1 (ya1, ya2) (by unfold moreS; simp))] at q; exact q
            have CI : Hid (∀ w, KF w6 w → Calls Tryz.prog 33 #[.slice lo ln lc, .string ⟨yi.toArray⟩] w fun e W' => e = .returned (.bool true) ∧ w = W') := fun w hk => by
             have q := ref_has (HVX.out.2.1.keeps (HX.out.trans hk)) (by omega) yi
             rw [decide_eq_true (hsu.2 yi (by unfold viaS; simp))] at q
             exact q
            clear hsu how HSU 
            go_wp2_with fail
            refine (CA.out _ HY0.out).mono ?_
            rintro e w7 ⟨rfl, hk⟩
            clear p0 p1 p2 p3 p4 p5 p6 p7 p8 v0 v1 v2 v3 v4 v5 v6 x1 x2
            replace HY0 := Lib.hid (HY0.out.trans hk.out)
            obtain ⟨p0, p1, p2, p3, p4, p5, p6, p7, p8, v0, v1, v2, v3, v4, v5, v6, x1, x2⟩ := MK.out _ HY0.out
            clear hk
            go_wp2_with fail
            refine (CI.out _ HY0.out).mono ?_
            rintro e w7 ⟨rfl, rfl⟩
            go_wp2_with fail
            refine (CO.out _ HY0.out).mono ?_
            rintro e w7 ⟨rfl, rfl⟩
            go_wp2_with fail
            go_roundg (an - (i + 1))
            case measure => omega
            case rel => exact ⟨i + 1, by omega, rfl, by rw [hf1, List.length_append, HNF.out]; go_num, by go_num, HX.out.trans HY0.out⟩
          case neg =>
           obtain rfl : yk = 4 := by omega
           as_aux_lemma =>
            have CA : Hid (∀ w, KF w6 w → Calls Tryz.prog 41 #[.agg #[.slice ro rn rc, .slice lo ln lc, .slice po pn pc, .slice fo fn' fc, .slice oo on' oc, .slice go gn gc, .bool lk], .agg #[.string ⟨ya1.toArray⟩, .string ⟨ya2.toArray⟩]] w fun e W' => e = .returned (.bool true) ∧ Hid (KF w W')) := fun w hk => by have q := CV.out w hk (ya1, ya2); rw [has_of (hsu.1 (ya1, ya2) (by unfold moreS; simp))] at q; exact q
            have CB : Hid (∀ w, KF w6 w → Calls Tryz.prog 41 #[.agg #[.slice ro rn rc, .slice lo ln lc, .slice po pn pc, .slice fo fn' fc, .slice oo on' oc, .slice go gn gc, .bool lk], .agg #[.string ⟨yb1.toArray⟩, .string ⟨yb2.toArray⟩]] w fun e W' => e = .returned (.bool true) ∧ Hid (KF w W')) := fun w hk => by have q := CV.out w hk (yb1, yb2); rw [has_of (hsu.1 (yb1, yb2) (by unfold moreS; simp))] at q; exact q
            clear hsu how HSU 
            go_wp2_with fail
            refine (CA.out _ HY0.out).mono ?_
            rintro e w7 ⟨rfl, hk⟩
            clear p0 p1 p2 p3 p4 p5 p6 p7 p8 v0 v1 v2 v3 v4 v5 v6 x1 x2
            replace HY0 := Lib.hid (HY0.out.trans hk.out)
            obtain ⟨p0, p1, p2, p3, p4, p5, p6, p7, p8, v0, v1, v2, v3, v4, v5, v6, x1, x2⟩ := MK.out _ HY0.out
            clear hk
            go_wp2_with fail
            refine (CB.out _ HY0.out).mono ?_
            rintro e w7 ⟨rfl, hk⟩
            clear p0 p1 p2 p3 p4 p5 p6 p7 p8 v0 v1 v2 v3 v4 v5 v6 x1 x2
            replace HY0 := Lib.hid (HY0.out.trans hk.out)
            obtain ⟨p0, p1, p2, p3, p4, p5, p6, p7, p8, v0, v1, v2, v3, v4, v5, v6, x1, x2⟩ := MK.out _ HY0.out
            clear hk
            go_wp2_with fail
            refine (CO.out _ HY0.out).mono ?_
            rintro e w7 ⟨rfl, rfl⟩
            go_wp2_with fail
            go_roundg (an - (i + 1))
            case measure => omega
            case rel => exact ⟨i + 1, by omega, rfl, by rw [hf1, List.length_append, HNF.out]; go_num, by go_num, HX.out.trans HY0.out⟩
     ·obtain rfl : an = i := by omega
      have hiI : ¬ (an : Int) < (an : Int) := by omega
      have hnn := HNN.out
      have HK6 := Lib.hid (HK5.out.trans HI.out)
      have hfe : (foli gr sh R Lk st an).length = fn' + on' := by
       rw [HFL.out]
       unfold foli
       rw [List.take_of_length_le (by rw [HN0.out.1]; exact Nat.le_refl _)]
      rw [hfe]
      have hwf : IntKind.i64.wrap ((fn' : Int) + (on' : Int)) = ((fn' + on' : Nat) : Int) := (IntWalk.i64_in _ (by omega)).trans (by omega)
      have HY0 : Hid (KF wr wr) := Keeps.refl _ _
      have MK : Hid (∀ w, KF wr w → w.cell? ⟨vb, 0, none⟩ = some (.slice ro rn rc) ∧ w.cell? ⟨vb, 1, none⟩ = some (.slice lo ln lc) ∧ w.cell? ⟨vb, 2, none⟩ = some (.slice po pn pc) ∧ w.cell? ⟨vb, 3, none⟩ = some (.slice fo fn' fc) ∧ w.cell? ⟨vb, 4, none⟩ = some (.slice oo on' oc) ∧ w.cell? ⟨vb, 5, none⟩ = some (.slice go gn gc) ∧ w.cell? ⟨vb, 6, none⟩ = some (.bool lk) ∧ w.cell? ⟨bWB, 1, none⟩ = some (.string ⟨qa1.toArray⟩) ∧ w.cell? ⟨bWB, 2, none⟩ = some (.string ⟨qa2.toArray⟩) ∧ w.cell? ⟨bWB, 3, none⟩ = some (.string ⟨qb1.toArray⟩) ∧ w.cell? ⟨bWB, 4, none⟩ = some (.string ⟨qb2.toArray⟩)) := fun w hk => by
       have q2 := ((HI.out.trans hk).block _ (lt_of_heap HV5.out) (fun x => x)).trans HV5.out
       have q3 := ((HI.out.trans hk).block _ (lt_of_heap HQ5.out) (fun x => x)).trans HQ5.out
       refine ⟨?_, ?_, ?_, ?_, ?_, ?_, ?_, ?_, ?_, ?_, ?_⟩ <;> first | (rw [cell_of_heap q2]; rfl) | (rw [cell_of_heap q3]; rfl)
      have CA : Hid (∀ w, KF wr w → Calls Tryz.prog 41 #[.agg #[.slice ro rn rc, .slice lo ln lc, .slice po pn pc, .slice fo fn' fc, .slice oo on' oc, .slice go gn gc, .bool lk], .agg #[.string ⟨qa1.toArray⟩, .string ⟨qa2.toArray⟩]] w fun e W' => e = .returned (.bool true) ∧ Hid (KF w W')) := fun w hk => by
       have q := vhas_spec (po := po) (fo := fo) (oo := oo) (so := go) (pn := pn) (pc := pc) (fn := fn') (fc := fc) (on := on') (oc := oc) (sn := gn) (sc := gc) (lk := lk) (HVX.out.1.keeps (HI.out.trans hk)) (HVX.out.2.1.keeps (HI.out.trans hk)) (by omega) (by omega) (qa1, qa2)
       rw [has_of HWY.out.1.hA] at q
       exact q
      have CB : Hid (∀ w, KF wr w → Calls Tryz.prog 41 #[.agg #[.slice ro rn rc, .slice lo ln lc, .slice po pn pc, .slice fo fn' fc, .slice oo on' oc, .slice go gn gc, .bool lk], .agg #[.string ⟨qb1.toArray⟩, .string ⟨qb2.toArray⟩]] w fun e W' => e = .returned (.bool true) ∧ Hid (KF w W')) := fun w hk => by
       have q := vhas_spec (po := po) (fo := fo) (oo := oo) (so := go) (pn := pn) (pc := pc) (fn := fn') (fc := fc) (on := on') (oc := oc) (sn := gn) (sc := gc) (lk := lk) (HVX.out.1.keeps (HI.out.trans hk)) (HVX.out.2.1.keeps (HI.out.trans hk)) (by omega) (by omega) (qb1, qb2)
       rw [has_of HWY.out.1.hB] at q
       exact q
      have CS : Hid (∀ w, KF wr w → Calls Tryz.prog 20 #[.slice go gn gc, .agg #[.string ⟨qb1.toArray⟩, .string ⟨qb2.toArray⟩]] w fun e W' => e = .returned (.bool true) ∧ Hid (KF w W')) := fun w hk => by
       have q := rhas_spec (rdk_r.1 (HVX.out.2.2.2.2.2.keeps (HI.out.trans hk))) (by omega) (qb1, qb2)
       rw [decide_eq_true sig_in] at q
       exact q
      clear HI hnn hfe
      obtain ⟨v0, v1, v2, v3, v4, v5, v6, z1, z2, z3, z4⟩ := MK.out _ HY0.out
      go_wp2_with fail
      refine (CA.out _ HY0.out).mono ?_
      rintro e w7 ⟨rfl, hk⟩
      clear v0 v1 v2 v3 v4 v5 v6 z1 z2 z3 z4
      replace HY0 := Lib.hid (HY0.out.trans hk.out)
      obtain ⟨v0, v1, v2, v3, v4, v5, v6, z1, z2, z3, z4⟩ := MK.out _ HY0.out
      clear hk
      go_wp2_with fail
      refine (CB.out _ HY0.out).mono ?_
      rintro e w7 ⟨rfl, hk⟩
      clear v0 v1 v2 v3 v4 v5 v6 z1 z2 z3 z4
      replace HY0 := Lib.hid (HY0.out.trans hk.out)
      obtain ⟨v0, v1, v2, v3, v4, v5, v6, z1, z2, z3, z4⟩ := MK.out _ HY0.out
      clear hk
      go_wp2_with fail
      refine (CS.out _ HY0.out).mono ?_
      rintro e w7 ⟨rfl, hk⟩
      clear v0 v1 v2 v3 v4 v5 v6 z1 z2 z3 z4
      replace HY0 := Lib.hid (HY0.out.trans hk.out)
      obtain ⟨v0, v1, v2, v3, v4, v5, v6, z1, z2, z3, z4⟩ := MK.out _ HY0.out
      clear hk
      go_wp2_with fail
      refine (HLI.out _).mono ?_
      rintro e w7 ⟨rfl, hk⟩
      replace HY0 := Lib.hid (HY0.out.trans hk.out)
      clear hk
      go_wp2_with fail
      go_ret
      exact ⟨rfl, Lib.hid (HK6.out.trans HY0.out)⟩
theorem relevNames_walk {W : World} {ao bo co jo wo : Option Addr} {an ac bn bc cn cc jn jc wn wc : Nat} {p : Pol} (hp : PolA W (.slice ao an ac) (.slice bo bn bc) (.slice co cn cc) (.slice jo jn jc) p) {q : Qry} (hq : ReadsS W (.slice wo wn wc) q.2.2.2) (hl : ∀ k, (.slice wo wn wc : Value).ownBlock = some k → k < W.heap.size) :
 Calls Tryz.prog 9 #[.agg #[.slice ao an ac, .slice bo bn bc, .slice co cn cc, .slice jo jn jc], qryV q (.slice wo wn wc)] W fun e w' => e = .returned (.bool true) ∧ Below W.heap.size W w' :=
 (relevNames_core hp ⟨hq, fun k hk => ⟨hl k hk, trivial⟩⟩).mono fun e w' h => ⟨h.1, h.2.out.below (Nat.le_refl _) (fun _ _ x => x.elim)⟩
end Go.Proofs.YtededjfjbkcepaaGreat
