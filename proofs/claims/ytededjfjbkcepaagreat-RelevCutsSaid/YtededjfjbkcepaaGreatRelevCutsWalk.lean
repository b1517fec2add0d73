/-
 The law RelevCuts, walked.
-/
import Derived.Test.YtededjfjbkcepaaGreatMC
import Derived.Test.YtededjfjbkcepaaGreatMR
import Derived.Test.YtededjfjbkcepaaGreatCutsEval
set_option linter.unusedVariables false
set_option linter.unusedSimpArgs false
set_option linter.unnecessarySimpa false
namespace Go.Proofs.YtededjfjbkcepaaGreat
open Go.ChangeShapes Go.WideShapes Go.ChangeAt Go.RowKit Go.Deep
set_option maxRecDepth 100000
theorem few_of {g h R : List Rol} {L : List Str} {l : List Stm} {y : Stm} (hy : y ∈ fixV g h l R L ++ looseV g h l R L) : y ∈ l ∧ folB g h R L y = true := by
 rcases List.mem_append.1 hy with q | q
 ·exact List.mem_filter.1 (List.mem_filter.1 q).1
 ·exact List.mem_filter.1 (List.mem_filter.1 q).1
theorem few_len {g h R : List Rol} {L : List Str} {l : List Stm} : (fixV g h l R L ++ looseV g h l R L).length ≤ l.length := by
 have two : ∀ (p : Stm → Bool) (m : List Stm), (m.filter p).length + (m.filter (fun x => !p x)).length = m.length := by
  intro p m
  induction m with
  | nil => rfl
  | cons x m ih => cases hx : p x <;> simp only [List.filter_cons, hx, Bool.not_true, Bool.not_false, if_true, if_false, List.length_cons, Bool.false_eq_true] <;> omega
 have h1 := two (fun x => decide (x.1 ∈ h)) (l.filter (folB g h R L))
 have h2 := List.length_filter_le (folB g h R L) l
 unfold fixV looseV
 rw [List.length_append]
 omega
/-- The statements that don't count, so far. -/
def xtra (R : List Rol) (L : List Str) (C : List Stm) (i : Nat) : List Stm := (C.take i).filter (fun y => !hasV R L y.1)
theorem xtra_yes {R : List Rol} {L : List Str} {C : List Stm} {i : Nat} {y : Stm} (hy : C[i]? = some y) (h : hasV R L y.1 = false) : xtra R L C (i + 1) = xtra R L C i ++ [y] := by
 unfold xtra
 rw [List.take_add_one, hy, List.filter_append]
 simp [h]
theorem xtra_no {R : List Rol} {L : List Str} {C : List Stm} {i : Nat} {y : Stm} (hy : C[i]? = some y) (h : hasV R L y.1 = true) : xtra R L C (i + 1) = xtra R L C i := by
 unfold xtra
 rw [List.take_add_one, hy, List.filter_append]
 simp [h]
theorem xtra_len (R : List Rol) (L : List Str) (C : List Stm) (i : Nat) : (xtra R L C i).length ≤ C.length := Nat.le_trans (List.length_filter_le _ _) (by rw [List.length_take]; omega)
theorem xtra_mem {R : List Rol} {L : List Str} {C : List Stm} {i : Nat} {y : Stm} (h : y ∈ xtra R L C i) : y ∈ C.take i ∧ hasV R L y.1 = false := by
 obtain ⟨h1, h2⟩ := List.mem_filter.1 h
 exact ⟨h1, by simpa using h2⟩
def accA (few : List Stm) (R : List Rol) (L : List Str) (C : List Stm) (i : Nat) : List Stm := few ++ xtra R L C i
theorem accA_zero (few : List Stm) (R : List Rol) (L : List Str) (C : List Stm) : accA few R L C 0 = few := List.append_nil _
theorem accA_yes {few : List Stm} {R : List Rol} {L : List Str} {C : List Stm} {i : Nat} {y : Stm} (hy : C[i]? = some y) (h : hasV R L y.1 = false) : accA few R L C (i + 1) = accA few R L C i ++ [y] := by
 unfold accA
 rw [xtra_yes hy h, List.append_assoc]
theorem accA_no {few : List Stm} {R : List Rol} {L : List Str} {C : List Stm} {i : Nat} {y : Stm} (hy : C[i]? = some y) (h : hasV R L y.1 = true) : accA few R L C (i + 1) = accA few R L C i := by
 unfold accA
 rw [xtra_no hy h]
theorem accA_len (few : List Stm) (R : List Rol) (L : List Str) (C : List Stm) (i : Nat) : (accA few R L C i).length ≤ few.length + C.length := by
 unfold accA
 have := xtra_len R L C i
 rw [List.length_append]
 omega
/-- With those about roles that don't count the same are in a role that does. -/
theorem cuts {g h : List Rol} {st few all : List Stm} {R : List Rol} {L : List Str} (hs : Shut2 g h st R L) (hsub : ∀ y ∈ few, y ∈ all) (hall : ∀ y ∈ all, y ∈ few ∨ hasV R L y.1 = false) (hfew : ∀ y ∈ few, y ∈ st ∧ folB g h R L y = true) (hk1 : ∀ y ∈ few, 1 ≤ y.2.1 ∧ y.2.1 ≤ 4) (hk2 : ∀ y ∈ all, 1 ≤ y.2.1 ∧ y.2.1 ≤ 4) {lx ly : List Pr} (e1 : EvI few lx) (s1 : ShutP few lx) (e2 : EvI all ly) (s2 : ShutP all ly) {r : Rol} (hr : hasV R L r = true) : memL lx r = memL ly r :=
 memL_same (fun w => ⟨fun h => shut_all hk2 s2 ((e1.der _ h).mono hsub), fun h => shut_all hk1 s1 ((e2.der _ h).cut hs hall hfew hr)⟩)
theorem has_of {R : List Rol} {L : List Str} {r : Rol} (h : r ∈ R) : hasV R L r = true := has_role h
set_option maxHeartbeats 6400000
theorem relevCuts_core {W : World} {ao bo co jo wo : Option Addr} {an ac bn bc cn cc jn jc wn wc : Nat} {p : Pol} (hp : PolA W (.slice ao an ac) (.slice bo bn bc) (.slice co cn cc) (.slice jo jn jc) p) {q : Qry} (hq : RowX W (.slice wo wn wc) q.2.2.2 (fun _ => True)) {mo : Option Addr} {mn mc : Nat} {more : List Stm} (hmo : SrcK stmE W (.slice mo mn mc) more) :
 Calls Tryz.prog 8 #[.agg #[.slice ao an ac, .slice bo bn bc, .slice co cn cc, .slice jo jn jc], qryV q (.slice wo wn wc), .slice mo mn mc] W fun e W' => e = .returned (.bool true) ∧ Hid (KF W W') := by
 have HLI := Lib.hid (fun w : World => lives20_spec w)
 have HPL : Hid (∀ w, KF W w → Calls Tryz.prog 34 #[.agg #[.slice ao an ac, .slice bo bn bc, .slice co cn cc, .slice jo jn jc]] w (LightTo (p.1.length ≤ 30 ∧ p.2.1.length ≤ 30 ∧ p.2.2.1.length ≤ 30 ∧ p.2.2.2.length ≤ 30) w)) := fun w hk => plight_spec (hp.keeps hk)
 have HQL : Hid (∀ w, KF W w → Calls Tryz.prog 35 #[qryV q (.slice wo wn wc)] w (LightTo (q.2.2.2.length ≤ 40) w)) := fun w hk => qlight_spec (hq.1.keeps hk)
 have HOF : Hid (∀ w, KF W w → p.1.length ≤ 30 ∧ p.2.1.length ≤ 30 ∧ p.2.2.1.length ≤ 30 → q.2.2.2.length ≤ 40 → Calls Tryz.prog 37 #[.agg #[.slice ao an ac, .slice bo bn bc, .slice co cn cc, .slice jo jn jc], qryV q (.slice wo wn wc)] w fun e W' => Hid (OfTo w p q e W')) := fun w hk hl hl2 => of_spec (hp.rows.into hk (fun _ _ _ x => x) (fun _ _ x => x)) (by omega) (by omega) (by omega) (hq.into hk (fun _ _ _ x => x) (fun _ _ x => x)) (by omega)
 have HRI : Hid (∀ w, KF W w → p.1.length ≤ 30 ∧ p.2.1.length ≤ 30 ∧ p.2.2.1.length ≤ 30 → q.2.2.2.length ≤ 40 → Calls Tryz.prog 38 #[.agg #[.slice ao an ac, .slice bo bn bc, .slice co cn cc, .slice jo jn jc], qryV q (.slice wo wn wc)] w fun e W' => e = .returned (.bool (askB p q)) ∧ Hid (KF w W')) := fun w hk hl hl2 => wright_spec (hp.rows.into hk (fun _ _ _ x => x) (fun _ _ x => x)) (by omega) (by omega) (by omega) (hq.into hk (fun _ _ _ x => x) (fun _ _ x => x)) (by omega)
 have HM := Lib.hid hmo
 have HMN : Hid (more.length = mn ∧ mn ≤ mc) := by
  obtain ⟨_, _, e, hle, _⟩ := id hmo.1
  simp only [Value.slice.injEq] at e
  exact ⟨e.2.1.symm, by omega⟩
 clear hmo
 have HS0 := Lib.hid hp.s
 have HS1 := Lib.hid hp.g
 have HS2 := Lib.hid hp.h
 have HKD : Hid (askB p q = true → ∀ x ∈ p.1, 1 ≤ x.2.1 ∧ x.2.1 ≤ 4) := ask_kinds
 have HNS : Hid (p.1.length = an ∧ an ≤ ac) := by
  obtain ⟨_, _, e, hle, _⟩ := id hp.s.1
  simp only [Value.slice.injEq] at e
  exact ⟨e.2.1.symm, by omega⟩
 obtain ⟨qk, ⟨qa1, qa2⟩, ⟨qb1, qb2⟩, qw⟩ := q
 clear hp hq
 unfold qryV
 unfold qryV at HQL HOF HRI
 simp only at HQL HOF HRI ⊢
 have halWA := (MapKept.heap_alloc W (bP ao an ac bo bn bc co cn cc jo jn jc)).1
 obtain ⟨WA, hWA⟩ : ∃ q, W.alloc (bP ao an ac bo bn bc co cn cc jo jn jc) = q := ⟨_, rfl⟩
 have hkWA : KF W WA := by rw [← hWA]; exact (Keeps.refl _ _).alloc _
 rw [hWA] at halWA
 obtain ⟨bWA, hbWA⟩ : ∃ q, W.heap.size = q := ⟨_, rfl⟩
 rw [hbWA] at halWA
 have halWB := (MapKept.heap_alloc WA (bQ qk qa1 qa2 qb1 qb2 wo wn wc)).1
 obtain ⟨WB, hWB⟩ : ∃ q, WA.alloc (bQ qk qa1 qa2 qb1 qb2 wo wn wc) = q := ⟨_, rfl⟩
 have hkWB : KF WA WB := by rw [← hWB]; exact (Keeps.refl _ _).alloc _
 rw [hWB] at halWB
 obtain ⟨bWB, hbWB⟩ : ∃ q, WA.heap.size = q := ⟨_, rfl⟩
 rw [hbWB] at halWB
 have HP := Lib.hid ((hkWB.block _ (lt_of_heap halWA) (fun x => x)).trans halWA)
 have HQB := Lib.hid halWB
 have HK := Lib.hid (hkWA.trans hkWB)
 clear halWA halWB hkWA hkWB
 obtain ⟨x0, y0, x1, y1, x2, y2, x3, y3⟩ := cf4 (HP.out)
 obtain ⟨z0, t0, z1, t1, z2, t2, z3, t3, z4, t4, z5, t5⟩ := cf6 (HQB.out)
 clear y0 y1 y2 y3 t0 t1 t2 t3 t4 t5
 have HC := Lib.hid (HPL.out _ HK.out)
 clear HPL
 go_enter Tryz.func8, Tryz.ntmps8
 go_upto_region 1 with fail
 (try simp only [hWA, hWB, hbWA, hbWB])
 clear hWA hWB hbWA hbWB
 go_wp2_with fail
 refine HC.out.mono ?_
 rintro e w1 ⟨b1, rfl, hl⟩
 have HK1 := Lib.hid (HK.out.trans hl.out.2)
 have HL1 := Lib.hid hl.out.1
 have HP1 := Lib.hid ((hl.out.2.block _ (lt_of_heap HP.out) (fun x => x)).trans HP.out)
 have HQ1 := Lib.hid ((hl.out.2.block _ (lt_of_heap HQB.out) (fun x => x)).trans HQB.out)
 clear HC hl HK HP HQB x0 x1 x2 x3 z0 z1 z2 z3 z4 z5
 cases b1
 case false =>
  go_wp2_with fail
  refine (HLI.out _).mono ?_
  rintro e w9 ⟨rfl, hk⟩
  have HE := Lib.hid (HK1.out.trans hk.out)
  clear hk
  go_wp2_with fail
  go_ret
  exact ⟨rfl, HE⟩
 case true =>
  have HLN := Lib.hid (HL1.out rfl)
  clear HL1
  obtain ⟨x0, y0, x1, y1, x2, y2, x3, y3⟩ := cf4 (HP1.out)
  obtain ⟨z0, t0, z1, t1, z2, t2, z3, t3, z4, t4, z5, t5⟩ := cf6 (HQ1.out)
  clear y0 y1 y2 y3 t0 t1 t2 t3 t4 t5
  have HC := Lib.hid (HQL.out _ HK1.out)
  clear HQL
  go_wp2_with fail
  refine HC.out.mono ?_
  rintro e w2 ⟨b2, rfl, hl⟩
  have HK2 := Lib.hid (HK1.out.trans hl.out.2)
  have HL2 := Lib.hid hl.out.1
  have HP2 := Lib.hid ((hl.out.2.block _ (lt_of_heap HP1.out) (fun x => x)).trans HP1.out)
  have HQ2 := Lib.hid ((hl.out.2.block _ (lt_of_heap HQ1.out) (fun x => x)).trans HQ1.out)
  clear HC hl HK1 HP1 HQ1 x0 x1 x2 x3 z0 z1 z2 z3 z4 z5
  cases b2
  case false =>
   go_wp2_with fail
   refine (HLI.out _).mono ?_
   rintro e w9 ⟨rfl, hk⟩
   have HE := Lib.hid (HK2.out.trans hk.out)
   clear hk
   go_wp2_with fail
   go_ret
   exact ⟨rfl, HE⟩
  case true =>
   have HLW := Lib.hid (HL2.out rfl)
   clear HL2
   have HL3 : Hid (p.1.length ≤ 30 ∧ p.2.1.length ≤ 30 ∧ p.2.2.1.length ≤ 30) := ⟨HLN.out.1, HLN.out.2.1, HLN.out.2.2.1⟩
   have HLQ : Hid (qw.length ≤ 40) := HLW.out
   clear HLN HLW
   obtain ⟨x0, y0, x1, y1, x2, y2, x3, y3⟩ := cf4 (HP2.out)
   obtain ⟨z0, t0, z1, t1, z2, t2, z3, t3, z4, t4, z5, t5⟩ := cf6 (HQ2.out)
   clear y0 y1 y2 y3 t0 t1 t2 t3 t4 t5
   have HC := Lib.hid (HRI.out _ HK2.out HL3.out HLQ.out)
   clear HRI
   obtain ⟨ab, hab⟩ : ∃ x, askB p (qk, (qa1, qa2), (qb1, qb2), qw) = x := ⟨_, rfl⟩
   rw [hab] at HC
   have HA := Lib.hid hab
   clear hab
   go_wp2_with fail
   refine HC.out.mono ?_
   rintro e w3 ⟨rfl, hk⟩
   have HK3 := Lib.hid (HK2.out.trans hk.out)
   have HP3 := Lib.hid ((hk.out.block _ (lt_of_heap HP2.out) (fun x => x)).trans HP2.out)
   have HQ3 := Lib.hid ((hk.out.block _ (lt_of_heap HQ2.out) (fun x => x)).trans HQ2.out)
   clear HC hk HK2 HP2 HQ2 x0 x1 x2 x3 z0 z1 z2 z3 z4 z5
   cases ab
   case false =>
    go_wp2_with fail
    refine (HLI.out _).mono ?_
    rintro e w9 ⟨rfl, hk⟩
    have HE := Lib.hid (HK3.out.trans hk.out)
    clear hk
    go_wp2_with fail
    go_ret
    exact ⟨rfl, HE⟩
   case true =>
    obtain ⟨x0, y0, x1, y1, x2, y2, x3, y3⟩ := cf4 (HP3.out)
    obtain ⟨z0, t0, z1, t1, z2, t2, z3, t3, z4, t4, z5, t5⟩ := cf6 (HQ3.out)
    clear y0 y1 y2 y3 t0 t1 t2 t3 t4 t5
    by_cases hm20 : mn ≤ 20
    case neg =>
     have hmI : (20 : Int) < (mn : Int) := by omega
     go_wp2_with fail
     refine (HLI.out _).mono ?_
     rintro e w9 ⟨rfl, hk⟩
     have HE := Lib.hid (HK3.out.trans hk.out)
     clear hk
     go_wp2_with fail
     go_ret
     exact ⟨rfl, HE⟩
    case pos =>
     have hmI : ¬ (20 : Int) < (mn : Int) := by omega
     have HC := Lib.hid (HOF.out _ HK3.out HL3.out HLQ.out)
     have HKI := Lib.hid (HKD.out HA.out)
     clear HOF HKD
     go_wp2_with fail
     refine HC.out.mono ?_
     rintro e w4 hof
     clear HC
     rcases hof.out with ⟨ha, _⟩ | ⟨_, rv, lv, pv, fv, ov, gv, lk, R, Lk, rfl, hk, hv⟩
     ·rw [HA.out] at ha; cases ha
     obtain ⟨gr, hgr⟩ : ∃ x, p.2.1 = x := ⟨_, rfl⟩
     obtain ⟨sh, hsh⟩ : ∃ x, p.2.2.1 = x := ⟨_, rfl⟩
     obtain ⟨st, hst⟩ : ∃ x, p.1 = x := ⟨_, rfl⟩
     have hlw := hv.way.lens
     have hl3 := HL3.out
     obtain ⟨n3, n4, n5, n6⟩ := view_lens (g := p.2.1) (h := p.2.2.1) (R := R) (L := Lk) (l := p.1) (B := (qb1, qb2)) (by omega) (by omega) (by omega) (by omega)
     have HNN : Hid (R.length ≤ 200 ∧ Lk.length ≤ 200 ∧ (tabL (whosV gr sh st R Lk)).length ≤ 1000 ∧ (fixV gr sh st R Lk).length ≤ 60 ∧ (looseV gr sh st R Lk).length ≤ 60 ∧ (sortO rolLt (sigV gr sh st (qb1, qb2) R Lk)).length ≤ 60 ∧ gr.length ≤ 30 ∧ sh.length ≤ 30 ∧ st.length ≤ 30) := by rw [← hgr, ← hsh, ← hst]; exact ⟨by omega, by omega, n3, n4, n5, n6, by omega, by omega, by omega⟩
     have HWY : Hid (OnWay gr sh st (qa1, qa2) (qb1, qb2) R Lk ∧ Shut2 gr sh st R Lk) := by rw [← hgr, ← hsh, ← hst]; exact ⟨hv.way, hv.shut⟩
     have HVW : Hid (RdK rolE w4 rv R ∧ ReadsS w4 lv Lk ∧ ReadsS w4 pv (tabL (whosV gr sh st R Lk)) ∧ RdK stmE w4 fv (fixV gr sh st R Lk) ∧ RdK stmE w4 ov (looseV gr sh st R Lk) ∧ RdK rolE w4 gv (sortO rolLt (sigV gr sh st (qb1, qb2) R Lk))) := by rw [← hgr, ← hsh, ← hst]; exact ⟨hv.rR.reads, (ownK_str.1 hv.rL).reads, (ownK_str.1 hv.rP).reads, hv.rF.reads, hv.rO.reads, hv.rG.reads⟩
     have HN0 : Hid (st.length = an ∧ an ≤ ac) := by rw [← hst]; exact HNS.out
     have HT0 : Hid (SrcK stmE W (.slice ao an ac) st) := by have := HS0.out; rw [hst] at this; exact this
     have HT1 : Hid (RdK rolE W (.slice bo bn bc) gr) := by have := HS1.out.1; rw [hgr] at this; exact this
     have HT2 : Hid (RdK rolE W (.slice co cn cc) sh) := by have := HS2.out.1; rw [hsh] at this; exact this
     have HKI2 : Hid (∀ x ∈ st, 1 ≤ x.2.1 ∧ x.2.1 ≤ 4) := by rw [← hst]; exact HKI.out
     have hgr0 := hgr
     have hsh0 := hsh
     have hst0 := hst
     clear hgr hsh hst hlw hl3 n3 n4 n5 n6 HS0 HS1 HS2 HNS HKI HL3 HA
     have HVS0 : Hid (SrcK stmE w4 fv (fixV gr sh st R Lk) ∧ SrcK stmE w4 ov (looseV gr sh st R Lk)) := by rw [← hgr0, ← hsh0, ← hst0]; exact ⟨hv.rF.src, hv.rO.src⟩
     obtain ⟨ro, rc, hrv, _⟩ := id HVW.out.1
     obtain ⟨lo, lc, hlv, _⟩ := id HVW.out.2.1
     obtain ⟨po, pc, hpv, _⟩ := id HVW.out.2.2.1
     obtain ⟨fo, fc, hfv, _⟩ := id HVW.out.2.2.2.1
     obtain ⟨oo, oc, hov, _⟩ := id HVW.out.2.2.2.2.1
     obtain ⟨go, gc, hgv, _⟩ := id HVW.out.2.2.2.2.2
     obtain ⟨rn, hrn⟩ : ∃ n : Nat, rv = .slice ro n rc := ⟨_, hrv⟩
     obtain ⟨ln, hln⟩ : ∃ n : Nat, lv = .slice lo n lc := ⟨_, hlv⟩
     obtain ⟨pn, hpn⟩ : ∃ n : Nat, pv = .slice po n pc := ⟨_, hpv⟩
     obtain ⟨gn, hgn⟩ : ∃ n : Nat, gv = .slice go n gc := ⟨_, hgv⟩
     obtain ⟨fn', hfn0⟩ : ∃ n : Nat, (fixV gr sh st R Lk).length = n := ⟨_, rfl⟩
     obtain ⟨on', hon0⟩ : ∃ n : Nat, (looseV gr sh st R Lk).length = n := ⟨_, rfl⟩
     have hfn : fv = .slice fo fn' fc := by rw [← hfn0]; exact hfv
     have hon : ov = .slice oo on' oc := by rw [← hon0]; exact hov
     have hfo60 : fn' ≤ 60 ∧ on' ≤ 60 := ⟨by rw [← hfn0]; exact HNN.out.2.2.2.1, by rw [← hon0]; exact HNN.out.2.2.2.2.1⟩
     clear hrv hlv hpv hfv hov hgv hfn0 hon0 hof hv
     subst hrn hln hpn hfn hon hgn
     have hkA : KF w4 (w4.alloc (.cells #[.slice ro rn rc, .slice lo ln lc, .slice po pn pc, .slice fo fn' fc, .slice oo on' oc, .slice go gn gc, .bool lk] 62)) := (Keeps.refl _ _).alloc _
     have HV5 := Lib.hid (MapKept.heap_alloc w4 (.cells #[.slice ro rn rc, .slice lo ln lc, .slice po pn pc, .slice fo fn' fc, .slice oo on' oc, .slice go gn gc, .bool lk] 62)).1
     have HP5 := Lib.hid (((hk.trans hkA).block _ (lt_of_heap HP3.out) (fun x => x)).trans HP3.out)
     have HQ5 := Lib.hid (((hk.trans hkA).block _ (lt_of_heap HQ3.out) (fun x => x)).trans HQ3.out)
     have HK5 := Lib.hid ((HK3.out.trans hk).trans hkA)
     have HVX : Hid (RdK rolE (w4.alloc (.cells #[.slice ro rn rc, .slice lo ln lc, .slice po pn pc, .slice fo fn' fc, .slice oo on' oc, .slice go gn gc, .bool lk] 62)) (.slice ro rn rc) R ∧ ReadsS (w4.alloc (.cells #[.slice ro rn rc, .slice lo ln lc, .slice po pn pc, .slice fo fn' fc, .slice oo on' oc, .slice go gn gc, .bool lk] 62)) (.slice lo ln lc) Lk ∧ ReadsS (w4.alloc (.cells #[.slice ro rn rc, .slice lo ln lc, .slice po pn pc, .slice fo fn' fc, .slice oo on' oc, .slice go gn gc, .bool lk] 62)) (.slice po pn pc) (tabL (whosV gr sh st R Lk)) ∧ RdK stmE (w4.alloc (.cells #[.slice ro rn rc, .slice lo ln lc, .slice po pn pc, .slice fo fn' fc, .slice oo on' oc, .slice go gn gc, .bool lk] 62)) (.slice fo fn' fc) (fixV gr sh st R Lk) ∧ RdK stmE (w4.alloc (.cells #[.slice ro rn rc, .slice lo ln lc, .slice po pn pc, .slice fo fn' fc, .slice oo on' oc, .slice go gn gc, .bool lk] 62)) (.slice oo on' oc) (looseV gr sh st R Lk) ∧ RdK rolE (w4.alloc (.cells #[.slice ro rn rc, .slice lo ln lc, .slice po pn pc, .slice fo fn' fc, .slice oo on' oc, .slice go gn gc, .bool lk] 62)) (.slice go gn gc) (sortO rolLt (sigV gr sh st (qb1, qb2) R Lk))) := ⟨HVW.out.1.keeps hkA, HVW.out.2.1.keeps hkA, HVW.out.2.2.1.keeps hkA, HVW.out.2.2.2.1.keeps hkA, HVW.out.2.2.2.2.1.keeps hkA, HVW.out.2.2.2.2.2.keeps hkA⟩
     have HVS : Hid (SrcK stmE (w4.alloc (.cells #[.slice ro rn rc, .slice lo ln lc, .slice po pn pc, .slice fo fn' fc, .slice oo on' oc, .slice go gn gc, .bool lk] 62)) (.slice fo fn' fc) (fixV gr sh st R Lk) ∧ SrcK stmE (w4.alloc (.cells #[.slice ro rn rc, .slice lo ln lc, .slice po pn pc, .slice fo fn' fc, .slice oo on' oc, .slice go gn gc, .bool lk] 62)) (.slice oo on' oc) (looseV gr sh st R Lk)) := ⟨HVS0.out.1.keeps hkA, HVS0.out.2.keeps hkA⟩
     obtain ⟨vb, hvb⟩ : ∃ q, w4.heap.size = q := ⟨_, rfl⟩
     rw [hvb] at HV5
     clear HVS0 hgr0 hsh0 hst0 hk hkA HK3 HP3 HQ3 HVW x0 x1 x2 x3 z0 z1 z2 z3 z4 z5
     go_upto_region 4 with fail
     (try simp only [hvb])
     clear hvb
     generalize w4.alloc (.cells #[.slice ro rn rc, .slice lo ln lc, .slice po pn pc, .slice fo fn' fc, .slice oo on' oc, .slice go gn gc, .bool lk] 62) = w5 at *
     skip
     obtain ⟨v0, u0, v1, u1, v2, u2, v3, u3, v4, u4, v5, u5, v6, u6⟩ := cf7 HV5.out
     clear u0 u1 u2 u3 u4 u5 u6 v0 v1 v2 v5 v6
     obtain ⟨bs, hbs⟩ : ∃ q, w5.heap.size = q := ⟨_, rfl⟩
     have HBS := Lib.hid hbs
     clear hbs
     have hfew := few_len (g := gr) (h := sh) (R := R) (L := Lk) (l := st)
     have hst30 := HNN.out.2.2.2.2.2.2.2.2
     have HSF : Hid (SrcK stmE w5 (.slice fo fn' fc) (fixV gr sh st R Lk) ∧ SrcK stmE w5 (.slice oo on' oc) (looseV gr sh st R Lk)) := ⟨HVS.out.1, HVS.out.2⟩
     go_upto_region 6 with fail
     have HMK92 : Hid (∀ w' : World, KF w5 w' → w'.cell? ⟨vb, 3, none⟩ = some (.slice fo fn' fc) ∧ w'.cell? ⟨vb, 4, none⟩ = some (.slice oo on' oc)) := fun w' hk => ⟨kc hk v3, kc hk v4⟩
     have HKX92 : Hid (KF w5 w5.drew) := (Keeps.refl _ _).drew
     have hS0 := HMK92.out _ HKX92.out
     clear v3 v4
     refine wp_region_noPanic ?_
     refine wp_region_held_drew (S := (fun w' => w'.cell? ⟨vb, 3, none⟩ = some (.slice fo fn' fc) ∧ w'.cell? ⟨vb, 4, none⟩ = some (.slice oo on' oc))) (by kernel_rfl) hS0 (fun hHeld => ?_)
     clear hS0
     generalize w5.drew = wA at *
     refine tk 1 rfl hHeld ?_
     refine tk 2 rfl hHeld ?_
     refine tk 4 rfl hHeld ?_
     (try simp only [nz])
     refine tk 5 rfl hHeld ?_
     (try simp only [nz])
     refine on1 0 rfl fun KK hK => ?_
     have hkE : KF wA (wA.alloc (.cells #[] 38)) := (Keeps.refl _ _).alloc _
     have HOW : Hid (OwnK stmE bs (wA.alloc (.cells #[] 38)) (.slice (some ⟨wA.heap.size, 0, none⟩) 0 0) ([] : List Stm)) := ownK_lit stmE (by have := HKX92.out.size; have := HBS.out; omega)
     replace HKX92 := Lib.hid (HKX92.out.trans hkE)
     clear hkE
     go_simp
     refine hK.out _ _ (HMK92.out _ HKX92.out) fun hHeld => ?_
     clear hK KK
     (try simp only [nz])
     generalize (wA.alloc (.cells #[] 38)) = wB at *
     obtain ⟨ev, hev⟩ : ∃ ev, Value.slice (some ⟨wA.heap.size, 0, none⟩) 0 0 = ev := ⟨_, rfl⟩
     (try simp only [hev])
     (try simp only [hev] at HOW)
     clear hev
     refine on1 3 rfl fun KK hK => ?_
     have hlo : bs ≤ wB.heap.size := by have := HKX92.out.size; have := HBS.out; omega
     refine step_app_k (E := stmE) rfl (.tmp 43) (.tmp 45) rfl bs ev [] (by simp [Act.eval, Act.put] <;> rfl) HOW.out _ (fixV gr sh st R Lk) (by simp [Act.eval, Act.put] <;> rfl) (HSF.out.1.keeps HKX92.out) (by have := HNN.out.2.2.2.1; have := HNN.out.2.2.2.2.1; simp; omega) hlo ?_
     intro evC wC ho hk
     have hk0 : KF w5 wC := HKX92.out.trans_new hk (fun q hq e => by have := own_block HOW.out q e; have := HBS.out; omega)
     replace HKX92 := Lib.hid hk0
     replace HOW := Lib.hid ho
     clear hk0 hk ho hlo
     (try go_simp)
     refine hK.out _ _ (HMK92.out _ HKX92.out) fun hHeld => ?_
     clear hK KK
     (try simp only [nz])
     refine on1 6 rfl fun KK hK => ?_
     have hlo : bs ≤ wC.heap.size := by have := HKX92.out.size; have := HBS.out; omega
     refine step_app_k (E := stmE) rfl (.tmp 46) (.tmp 48) rfl bs evC ([] ++ fixV gr sh st R Lk) (by simp [Act.eval, Act.put] <;> rfl) HOW.out _ (looseV gr sh st R Lk) (by simp [Act.eval, Act.put] <;> rfl) (HSF.out.2.keeps HKX92.out) (by have := HNN.out.2.2.2.1; have := HNN.out.2.2.2.2.1; simp; omega) hlo ?_
     intro evD wD ho hk
     have hk0 : KF w5 wD := HKX92.out.trans_new hk (fun q hq e => by have := own_block HOW.out q e; have := HBS.out; omega)
     replace HKX92 := Lib.hid hk0
     replace HOW := Lib.hid ho
     clear hk0 hk ho hlo
     (try go_simp)
     refine hK.out _ _ (HMK92.out _ HKX92.out) fun hHeld => ?_
     clear hK KK
     (try simp only [nz])
     obtain ⟨few, hfe⟩ : ∃ q, (fixV gr sh st R Lk ++ looseV gr sh st R Lk) = q := ⟨_, rfl⟩
     have HFE := Lib.hid hfe
     rw [show [] ++ fixV gr sh st R Lk ++ looseV gr sh st R Lk = few from hfe] at HOW
     rw [hfe] at hfew
     obtain ⟨qo, qc, hq5, hq5le, _⟩ := id HOW.out.reads
     obtain ⟨qn, hqn⟩ : ∃ n, few.length = n := ⟨_, rfl⟩
     have HQN := Lib.hid hqn
     rw [hqn] at hq5 hq5le hfew
     subst hq5
     clear hfe hqn
     refine on1 7 rfl fun KK hK => ?_
     go_simp
     refine hK.out _ _ (HMK92.out _ HKX92.out) fun hHeld => ?_
     clear hK KK
     (try simp only [nz])
     refine wpAnyH_done (by kernel_rfl) ?_ _
     refine NoPanic.normal ?_
     clear hHeld HMK92
     have HK6 := Lib.hid (HK5.out.trans HKX92.out)
     have HFW := Lib.hid HOW.out
     have HKV := Lib.hid HKX92.out
     clear HOW HKX92 HSF
     have hkA : KF wD (wD.alloc (.cells #[] 38)) := (Keeps.refl _ _).alloc _
     have HOA : Hid (OwnK stmE wD.heap.size (wD.alloc (.cells #[] 38)) (.slice (some ⟨wD.heap.size, 0, none⟩) 0 0) ([] : List Stm)) := ownK_lit stmE (Nat.le_refl _)
     have HQ7 : Hid (SrcK stmE (wD.alloc (.cells #[] 38)) (.slice qo qn qc) few) := HFW.out.src.keeps hkA
     have HSZ := Lib.hid hkA.size
     go_wp2_with (at_builtin; refine app_k (E := stmE) rfl _ _ rfl wD.heap.size (.slice (some ⟨wD.heap.size, 0, none⟩) 0 0) [] rfl HOA.out _ few rfl HQ7.out (by have := HQN.out; simp only [List.length_nil]; omega) HSZ.out ?_)
     intro av w8 ho hk
     have HK8 : Hid (KF wD w8) := hkA.trans_new hk (fun q hq e => by have := own_block HOA.out q e; omega)
     have HAV : Hid (OwnK stmE wD.heap.size w8 av few) := ho
     obtain ⟨ao2, ac2, hav, _⟩ := id HAV.out.reads
     rw [HQN.out] at hav
     subst hav
     clear HOA HQ7 HSZ hkA ho hk
     have HP8 := Lib.hid (((HKV.out.trans HK8.out).block _ (lt_of_heap HP5.out) (fun x => x)).trans HP5.out)
     skip
     have hkA : KF w8 (w8.alloc (.cells #[] 38)) := (Keeps.refl _ _).alloc _
     have HOA : Hid (OwnK stmE w8.heap.size (w8.alloc (.cells #[] 38)) (.slice (some ⟨w8.heap.size, 0, none⟩) 0 0) ([] : List Stm)) := ownK_lit stmE (Nat.le_refl _)
     have x0 := (cf4 ((hkA.block _ (lt_of_heap HP8.out) (fun x => x)).trans HP8.out)).1
     have HT9 : Hid (SrcK stmE (w8.alloc (.cells #[] 38)) (.slice ao an ac) st) := HT0.out.keeps (HK6.out.trans (HK8.out.trans hkA))
     have HSZ := Lib.hid hkA.size
     go_wp2_with (at_builtin; refine app_k (E := stmE) rfl _ _ rfl w8.heap.size (.slice (some ⟨w8.heap.size, 0, none⟩) 0 0) [] rfl HOA.out _ st rfl HT9.out (by have := HN0.out; simp only [List.length_nil]; omega) HSZ.out ?_)
     intro bv w9 ho hk
     have HK9 : Hid (KF w8 w9) := hkA.trans_new hk (fun q hq e => by have := own_block HOA.out q e; omega)
     have HBV : Hid (OwnK stmE w8.heap.size w9 bv st) := ho
     have HM9 : Hid (SrcK stmE w9 (.slice mo mn mc) more) := HM.out.keeps (HK6.out.trans (HK8.out.trans HK9.out))
     have HSZ9 := Lib.hid HK9.out.size
     clear HOA HT9 HSZ hkA ho hk x0
     go_wp2_with (at_builtin; refine app_k (E := stmE) rfl _ _ rfl w8.heap.size bv st rfl HBV.out _ more rfl HM9.out (by have := HMN.out.1; omega) HSZ9.out ?_)
     intro cv w10 ho hk
     have HKA : Hid (KF w8 w10) := HK9.out.trans_new hk (fun q hq e => by have := own_block HBV.out q e; omega)
     obtain ⟨C, hC⟩ : ∃ C, st ++ more = C := ⟨_, rfl⟩
     have hCl : C.length ≤ 50 := by have := HMN.out.1; rw [← hC, List.length_append]; omega
     have HCV : Hid (OwnK stmE w8.heap.size w10 cv C) := by rw [← hC]; exact ho
     have HCM : Hid (∀ y, y ∈ C ↔ y ∈ st ∨ y ∈ more) := fun y => by rw [← hC, List.mem_append]
     obtain ⟨co5, cc5, hv5, hle5, _⟩ := id HCV.out.reads
     obtain ⟨nC, hnC⟩ : ∃ n, C.length = n := ⟨_, rfl⟩
     have HNC := Lib.hid hnC
     have hnC2 : (st ++ more).length = nC := by rw [hC]; exact hnC
     rw [hnC] at hv5 hle5 hCl
     subst hv5
     clear hC hnC HBV HM9 HSZ9 ho hk HK9
     have HI0 : Hid (KF wD w10 ∧ OwnK stmE wD.heap.size w10 (.slice ao2 qn ac2) (accA few R Lk C 0) ∧ RdX stmE w10 (.slice co5 nC cc5) C (fun k => (.slice ao2 qn ac2 : Value).ownBlock ≠ some k) ∧ RdX stmE w10 (.slice qo qn qc) few (fun k => (.slice ao2 qn ac2 : Value).ownBlock ≠ some k) ∧ ∀ y ∈ C.take 0, stmRB y = true) := by
      rw [accA_zero]
      refine ⟨HK8.out.trans HKA.out, HAV.out.keeps HKA.out (fun _ _ z => z), ⟨HCV.out.src, fun k hk => ⟨own_lt HCV.out k hk, fun e => ?_⟩⟩, ⟨HFW.out.src.keeps (HK8.out.trans HKA.out), fun k hk => ⟨?_, fun e => ?_⟩⟩, fun y hy => by cases hy⟩
      ·have h1 := own_block HCV.out k hk
       have h2 := own_lt HAV.out k e
       omega
      ·have h1 := own_lt HFW.out k hk
       have h2 := (HK8.out.trans HKA.out).size
       omega
      ·have h1 := own_lt HFW.out k hk
       have h2 := own_block HAV.out k e
       omega
     (try simp only [List.length_append] at hnC2)
     go_wp2_with fail
     (try simp only [hnC2])
     go_loopg [10, 60] nC (fun g o t wx => ∃ (i : Nat) (av : Value), i ≤ nC ∧ g = nC - i ∧ t = .int .i64 i ∧ av = o ∧ Hid (KF wD wx ∧ OwnK stmE wD.heap.size wx av (accA few R Lk C i) ∧ RdX stmE wx (.slice co5 nC cc5) C (fun k => (av : Value).ownBlock ≠ some k) ∧ RdX stmE wx (.slice qo qn qc) few (fun k => (av : Value).ownBlock ≠ some k) ∧ ∀ y ∈ C.take i, stmRB y = true))
     case atStart => exact ⟨0, _, Nat.zero_le _, rfl, rfl, rfl, HI0⟩
     case round =>
      clear HI0
      obtain ⟨i, av, hi, rfl, rfl, rfl, HI⟩ := hrel
      by_cases hlt : i < nC
      ·skip
       have hiI : (i : Int) < (nC : Int) := by omega
       have hwi : IntKind.i64.wrap ((i : Int) + 1) = (i : Int) + 1 := IntWalk.i64_in _ (by omega)
       have hicap : i < cc5 := by omega
       obtain ⟨y, hy⟩ : ∃ y, C[i]? = some y := ⟨_, List.getElem?_eq_getElem (by rw [HNC.out]; exact hlt)⟩
       obtain ⟨aoz, cpz, ez, hez, hrz⟩ := id HI.out.2.2.1.1.1
       obtain ⟨g, off, hao, hg, hcc⟩ := hrz (by rw [HNC.out]; omega)
       simp only [Value.slice.injEq] at ez
       obtain ⟨rfl, hzz, rfl⟩ := ez
       subst hao
       have hc := hcc i y hy
       have HAY := Lib.hid (fun h => accA_yes (few := few) (R := R) (L := Lk) hy h)
       have HAN := Lib.hid (fun h => accA_no (few := few) (R := R) (L := Lk) hy h)
       have HTK : Hid (∀ z ∈ C.take (i + 1), z ∈ C.take i ∨ z = y) := fun z hz => by
        rw [List.take_add_one, hy, List.mem_append] at hz
        exact hz.imp id (fun q => by simpa using q)
       have hal0 := accA_len few R Lk C i
       obtain ⟨⟨yh1, yh2⟩, yk, yo, ⟨ya1, ya2⟩, ⟨yb1, yb2⟩, yi⟩ := y
       clear hcc hrz hez hzz hy
       obtain ⟨c0, c1, c2, c3, c4, c5, c6, c7, c8⟩ := n9 hc
       have hka : KF wr (wr.alloc (bM yk yh1 yh2 yo ya1 ya2 yb1 yb2 yi)) := (Keeps.refl _ _).alloc _
       have hal := (MapKept.heap_alloc wr (bM yk yh1 yh2 yo ya1 ya2 yb1 yb2 yi)).1
       have HJ : Hid (KF wD (wr.alloc (bM yk yh1 yh2 yo ya1 ya2 yb1 yb2 yi)) ∧ OwnK stmE wD.heap.size (wr.alloc (bM yk yh1 yh2 yo ya1 ya2 yb1 yb2 yi)) av (accA few R Lk C i) ∧ RdX stmE (wr.alloc (bM yk yh1 yh2 yo ya1 ya2 yb1 yb2 yi)) (.slice (some ⟨g, off, none⟩) nC cc5) C (fun k => (av : Value).ownBlock ≠ some k) ∧ RdX stmE (wr.alloc (bM yk yh1 yh2 yo ya1 ya2 yb1 yb2 yi)) (.slice qo qn qc) few (fun k => (av : Value).ownBlock ≠ some k) ∧ ∀ y ∈ C.take i, stmRB y = true) := ⟨HI.out.1.trans hka, HI.out.2.1.keeps hka (fun _ _ z => z), HI.out.2.2.1.keeps hka (fun _ _ _ z => z), HI.out.2.2.2.1.keeps hka (fun _ _ _ z => z), HI.out.2.2.2.2⟩
       obtain ⟨b, hb⟩ : ∃ b, wr.heap.size = b := ⟨_, rfl⟩
       rw [hb] at hal
       have HB := Lib.hid hal
       go_upto_region 11 with fail
       (try simp only [hb])
       clear hka hal hb hc hg HI c0 c1 c2 c3 c4 c5 c6 c7 c8
       generalize wr.alloc (bM yk yh1 yh2 yo ya1 ya2 yb1 yb2 yi) = w6 at *
       have HY0 : Hid (KF w6 w6) := Keeps.refl _ _
       have MK : Hid (∀ w, KF w6 w → w.cell? ⟨b, 0, none⟩ = some (.int .i64 yk) ∧ w.cell? ⟨b, 1, none⟩ = some (.string ⟨yh1.toArray⟩) ∧ w.cell? ⟨b, 2, none⟩ = some (.string ⟨yh2.toArray⟩) ∧ w.cell? ⟨b, 3, none⟩ = some (.string ⟨yo.toArray⟩) ∧ w.cell? ⟨b, 4, none⟩ = some (.string ⟨ya1.toArray⟩) ∧ w.cell? ⟨b, 5, none⟩ = some (.string ⟨ya2.toArray⟩) ∧ w.cell? ⟨b, 6, none⟩ = some (.string ⟨yb1.toArray⟩) ∧ w.cell? ⟨b, 7, none⟩ = some (.string ⟨yb2.toArray⟩) ∧ w.cell? ⟨b, 8, none⟩ = some (.string ⟨yi.toArray⟩) ∧ w.cell? ⟨vb, 0, none⟩ = some (.slice ro rn rc) ∧ w.cell? ⟨vb, 1, none⟩ = some (.slice lo ln lc) ∧ w.cell? ⟨vb, 2, none⟩ = some (.slice po pn pc) ∧ w.cell? ⟨vb, 3, none⟩ = some (.slice fo fn' fc) ∧ w.cell? ⟨vb, 4, none⟩ = some (.slice oo on' oc) ∧ w.cell? ⟨vb, 5, none⟩ = some (.slice go gn gc) ∧ w.cell? ⟨vb, 6, none⟩ = some (.bool lk)) := fun w hk => by
        have q1 := (hk.block _ (lt_of_heap HB.out) (fun x => x)).trans HB.out
        have q2 := ((HKV.out.trans (HJ.out.1.trans hk)).block _ (lt_of_heap HV5.out) (fun x => x)).trans HV5.out
        refine ⟨?_, ?_, ?_, ?_, ?_, ?_, ?_, ?_, ?_, ?_, ?_, ?_, ?_, ?_, ?_, ?_⟩ <;> first | (rw [cell_of_heap q1]; rfl) | (rw [cell_of_heap q2]; rfl)
       have CL := Lib.hid (fun (w : World) => slight_spec (W := w) ((yh1, yh2), yk, yo, (ya1, ya2), (yb1, yb2), yi))
       have CR := Lib.hid (fun (w : World) => rstmright_all (W := w) ((yh1, yh2), yk, yo, (ya1, ya2), (yb1, yb2), yi))
       have CV := Lib.hid (fun (w : World) (hk : KF w6 w) => vhas_spec (po := po) (fo := fo) (oo := oo) (so := go) (pn := pn) (pc := pc) (fn := fn') (fc := fc) (on := on') (oc := oc) (sn := gn) (sc := gc) (lk := lk) (HVX.out.1.keeps (HKV.out.trans (HJ.out.1.trans hk))) (HVX.out.2.1.keeps (HKV.out.trans (HJ.out.1.trans hk))) (by have := HNN.out.1; omega) (by have := HNN.out.2.1; omega) (yh1, yh2))
       obtain ⟨br, hbr⟩ : ∃ x, stmRB ((yh1, yh2), yk, yo, (ya1, ya2), (yb1, yb2), yi) = x := ⟨_, rfl⟩
       rw [hbr] at CR
       obtain ⟨xv, hxv⟩ : ∃ x, hasV R Lk (yh1, yh2) = x := ⟨_, rfl⟩
       rw [hxv] at CV
       have HBR := Lib.hid hbr
       have HXV := Lib.hid hxv
       unfold stmV at CL CR
       unfold rolV2 at CV
       simp only at CL CR CV
       clear hbr hxv
       obtain ⟨p0, p1, p2, p3, p4, p5, p6, p7, p8, v0, v1, v2, v3, v4, v5, v6⟩ := MK.out _ HY0.out
       go_wp2_with fail
       refine (CL.out _).mono ?_
       rintro e w7 ⟨bl, rfl, hk⟩
       clear p0 p1 p2 p3 p4 p5 p6 p7 p8 v0 v1 v2 v3 v4 v5 v6
       replace HY0 := Lib.hid (HY0.out.trans hk.out)
       clear hk
       have HKL : Hid (KF W w7) := HK6.out.trans (HJ.out.1.trans HY0.out)
       obtain ⟨p0, p1, p2, p3, p4, p5, p6, p7, p8, v0, v1, v2, v3, v4, v5, v6⟩ := MK.out _ HY0.out
       cases bl
       case false =>
        go_wp2_with fail
        refine (HLI.out _).mono ?_
        rintro e w9 ⟨rfl, hk⟩
        have HE := Lib.hid (HKL.out.trans hk.out)
        clear hk
        go_wp2_with fail
        go_ret
        exact ⟨rfl, HE⟩
       case true =>
        clear HKL
        go_wp2_with fail
        refine (CR.out _).mono ?_
        rintro e w7b ⟨rfl, hk⟩
        clear p0 p1 p2 p3 p4 p5 p6 p7 p8 v0 v1 v2 v3 v4 v5 v6
        replace HY0 := Lib.hid (HY0.out.trans hk.out)
        clear hk
        have HKL : Hid (KF W w7b) := HK6.out.trans (HJ.out.1.trans HY0.out)
        obtain ⟨p0, p1, p2, p3, p4, p5, p6, p7, p8, v0, v1, v2, v3, v4, v5, v6⟩ := MK.out _ HY0.out
        cases br
        case false =>
         go_wp2_with fail
         refine (HLI.out _).mono ?_
         rintro e w9 ⟨rfl, hk⟩
         have HE := Lib.hid (HKL.out.trans hk.out)
         clear hk
         go_wp2_with fail
         go_ret
         exact ⟨rfl, HE⟩
        case true =>
         clear HKL
         go_wp2_with fail
         refine (CV.out _ HY0.out).mono ?_
         rintro e w8b ⟨rfl, hk⟩
         clear p0 p1 p2 p3 p4 p5 p6 p7 p8 v0 v1 v2 v3 v4 v5 v6
         replace HY0 := Lib.hid (HY0.out.trans hk.out)
         clear hk
         have HTN : Hid (∀ z ∈ C.take (i + 1), stmRB z = true) := fun z hz => (HTK.out z hz).elim (HJ.out.2.2.2.2 z) (fun e => by rw [e]; exact HBR.out)
         have HJ8 : Hid (KF wD w8b ∧ OwnK stmE wD.heap.size w8b av (accA few R Lk C i) ∧ RdX stmE w8b (.slice (some ⟨g, off, none⟩) nC cc5) C (fun k => (av : Value).ownBlock ≠ some k) ∧ RdX stmE w8b (.slice qo qn qc) few (fun k => (av : Value).ownBlock ≠ some k) ∧ ∀ y ∈ C.take i, stmRB y = true) := ⟨HJ.out.1.trans HY0.out, HJ.out.2.1.keeps HY0.out (fun _ _ z => z), HJ.out.2.2.1.keeps HY0.out (fun _ _ _ z => z), HJ.out.2.2.2.1.keeps HY0.out (fun _ _ _ z => z), HJ.out.2.2.2.2⟩
         obtain ⟨p0, p1, p2, p3, p4, p5, p6, p7, p8, v0, v1, v2, v3, v4, v5, v6⟩ := MK.out _ HY0.out
         clear CL CR CV
         cases xv
         case true =>
          have HN2 : Hid (KF wD w8b ∧ OwnK stmE wD.heap.size w8b av (accA few R Lk C (i + 1)) ∧ RdX stmE w8b (.slice (some ⟨g, off, none⟩) nC cc5) C (fun k => (av : Value).ownBlock ≠ some k) ∧ RdX stmE w8b (.slice qo qn qc) few (fun k => (av : Value).ownBlock ≠ some k) ∧ ∀ y ∈ C.take (i + 1), stmRB y = true) := by
           rw [HAN.out HXV.out]
           exact ⟨HJ8.out.1, HJ8.out.2.1, HJ8.out.2.2.1, HJ8.out.2.2.2.1, HTN.out⟩
          clear HJ HJ8 HB MK HAY HAN HTK HTN
          go_wp2_with fail
          go_roundg (nC - (i + 1))
          case measure => omega
          case rel => exact ⟨i + 1, _, by omega, rfl, by go_num, rfl, HN2⟩
         case false =>
          have hka : KF w8b (w8b.alloc (bM yk yh1 yh2 yo ya1 ya2 yb1 yb2 yi)) := (Keeps.refl _ _).alloc _
          have HJE : Hid (KF wD (w8b.alloc (bM yk yh1 yh2 yo ya1 ya2 yb1 yb2 yi)) ∧ OwnK stmE wD.heap.size (w8b.alloc (bM yk yh1 yh2 yo ya1 ya2 yb1 yb2 yi)) av (accA few R Lk C i) ∧ RdX stmE (w8b.alloc (bM yk yh1 yh2 yo ya1 ya2 yb1 yb2 yi)) (.slice (some ⟨g, off, none⟩) nC cc5) C (fun k => (av : Value).ownBlock ≠ some k) ∧ RdX stmE (w8b.alloc (bM yk yh1 yh2 yo ya1 ya2 yb1 yb2 yi)) (.slice qo qn qc) few (fun k => (av : Value).ownBlock ≠ some k) ∧ ∀ y ∈ C.take i, stmRB y = true) := ⟨HJ8.out.1.trans hka, HJ8.out.2.1.keeps hka (fun _ _ z => z), HJ8.out.2.2.1.keeps hka (fun _ _ _ z => z), HJ8.out.2.2.2.1.keeps hka (fun _ _ _ z => z), HJ8.out.2.2.2.2⟩
          have HSZ := Lib.hid HJE.out.1.size
          clear hka HJ HJ8 HB MK
          go_wp2_with (at_builtin; refine app_fp (E := stmE) rfl _ _ rfl wD.heap.size av (accA few R Lk C i) rfl HJE.out.2.1 _ [((yh1, yh2), yk, yo, (ya1, ya2), (yb1, yb2), yi)] rfl (one_srcK (E := stmE) w8b ((yh1, yh2), yk, yo, (ya1, ya2), (yb1, yb2), yi) #[.int .i64 yk, .string ⟨yh1.toArray⟩, .string ⟨yh2.toArray⟩, .string ⟨yo.toArray⟩, .string ⟨ya1.toArray⟩, .string ⟨ya2.toArray⟩, .string ⟨yb1.toArray⟩, .string ⟨yb2.toArray⟩, .string ⟨yi.toArray⟩] rfl).1 (by simp) (by have := HQN.out; have := HNC.out; simp only [List.length_cons, List.length_nil]; omega) HSZ.out ?_)
          intro ao' cap' w9b ho hk hf
          have HN2 : Hid (KF wD w9b ∧ OwnK stmE wD.heap.size w9b _ (accA few R Lk C (i + 1)) ∧ RdX stmE w9b (.slice (some ⟨g, off, none⟩) nC cc5) C (fun k => (_ : Value).ownBlock ≠ some k) ∧ RdX stmE w9b (.slice qo qn qc) few (fun k => (_ : Value).ownBlock ≠ some k) ∧ ∀ y ∈ C.take (i + 1), stmRB y = true) := ⟨HJE.out.1.trans_new hk (fun q hq e => by have := own_block HJE.out.2.1 q e; omega), by rw [HAY.out HXV.out]; exact ho, HJE.out.2.2.1.into hk (fun q _ hp e => hp e) (fun q hq hp e => (hf q e).elim hp (fun z => by rw [size_alloc] at hq; omega)), HJE.out.2.2.2.1.into hk (fun q _ hp e => hp e) (fun q hq hp e => (hf q e).elim hp (fun z => by rw [size_alloc] at hq; omega)), HTN.out⟩
          clear HJE HSZ HAY HAN HTK HTN ho hk hf p0 p1 p2 p3 p4 p5 p6 p7 p8 v0 v1 v2 v3 v4 v5 v6
          go_wp2_with fail
          go_roundg (nC - (i + 1))
          case measure => omega
          case rel => exact ⟨i + 1, _, by omega, rfl, by go_num, rfl, HN2⟩
      ·obtain rfl : nC = i := by omega
       have hiI : ¬ (nC : Int) < (nC : Int) := by omega
       obtain ⟨all, hall⟩ : ∃ q, accA few R Lk C nC = q := ⟨_, rfl⟩
       have hal0 := accA_len few R Lk C nC
       have hmem : ∀ y ∈ all, y ∈ few ∨ (y ∈ C.take nC ∧ hasV R Lk y.1 = false) := fun y hy => by
        rw [← hall] at hy
        exact (List.mem_append.1 hy).imp id xtra_mem
       have hsub : ∀ y ∈ few, y ∈ all := fun y hy => by rw [← hall]; exact List.mem_append_left _ hy
       have hfw : ∀ y ∈ few, y ∈ st ∧ folB gr sh R Lk y = true := fun y hy => by rw [← HFE.out] at hy; exact few_of hy
       have hkf : ∀ y ∈ few, 1 ≤ y.2.1 ∧ y.2.1 ≤ 4 := fun y hy => HKI2.out y (hfw y hy).1
       have hka2 : ∀ y ∈ all, 1 ≤ y.2.1 ∧ y.2.1 ≤ 4 := fun y hy => (hmem y hy).elim (hkf y) (fun q => kind_of (HI.out.2.2.2.2 y q.1))
       rw [hall] at HI hal0
       have hal1 : all.length ≤ 90 := by have := HQN.out; have := HNC.out; omega
       have HFR : Hid (RdK stmE wr (.slice qo qn qc) few) := HI.out.2.2.2.1.1.1
       have HAR : Hid (RdK stmE wr av all) := HI.out.2.1.reads
       have HKW : Hid (KF W wr) := HK6.out.trans HI.out.1
       have HQW := Lib.hid (((HKV.out.trans HI.out.1).block _ (lt_of_heap HQ5.out) (fun x => x)).trans HQ5.out)
       have HCU : Hid (∀ lx ly, EvI few lx → ShutP few lx → EvI all ly → ShutP all ly → memL lx (qa1, qa2) = memL ly (qa1, qa2) ∧ memL lx (qb1, qb2) = memL ly (qb1, qb2)) := fun lx ly a b c d =>
        ⟨cuts HWY.out.2 hsub (fun y hy => (hmem y hy).imp id (fun q => q.2)) hfw hkf hka2 a b c d (has_of HWY.out.1.hA), cuts HWY.out.2 hsub (fun y hy => (hmem y hy).imp id (fun q => q.2)) hfw hkf hka2 a b c d (has_of HWY.out.1.hB)⟩
       have HE1 := Lib.hid (peval_spec HFR.out (by have := HQN.out; omega) hkf)
       have HE2 := Lib.hid (fun (w : World) (hk : KF wr w) => peval_spec (HAR.out.keeps hk) hal1 hka2)
       have HBF : Hid (few.length ≤ 90 ∧ all.length ≤ 90) := ⟨by have := HQN.out; omega, hal1⟩
       clear HI hmem hsub hfw hkf hka2 hall hal0 HFR HAR
       go_wp2_with fail
       refine HE1.out.mono ?_
       rintro e w2x ⟨xv, rfl, hx⟩
       obtain ⟨lx, hx1, hx2, hx3⟩ := hx.out.2
       have HKX := Lib.hid hx.out.1
       have HLX := Lib.hid hx1
       have HEX := Lib.hid (show _ ∧ _ from ⟨hx2, hx3⟩)
       obtain ⟨xo, xc, hxe, _⟩ := id hx1
       obtain ⟨xn, hxn⟩ : ∃ n : Nat, xv = .slice xo n xc := ⟨_, hxe⟩
       clear hx hx1 hx2 hx3 hxe HE1
       subst hxn
       go_wp2_with fail
       refine (HE2.out _ HKX.out).mono ?_
       rintro e w3x ⟨yv, rfl, hy⟩
       obtain ⟨ly, hy1, hy2, hy3⟩ := hy.out.2
       have HKY := Lib.hid hy.out.1
       have HLY := Lib.hid hy1
       obtain ⟨yo2, yc2, hye, _⟩ := id hy1
       obtain ⟨yn2, hyn⟩ : ∃ n : Nat, yv = .slice yo2 n yc2 := ⟨_, hye⟩
       have HEQ := Lib.hid (HCU.out lx ly HEX.out.1 HEX.out.2 hy2 hy3)
       have hlx : lx.length ≤ 9000 := by have := HEX.out.1.len; have := HBF.out.1; have := Nat.mul_le_mul this this; omega
       have hly : ly.length ≤ 9000 := by have := hy2.len; have := HBF.out.2; have := Nat.mul_le_mul this this; omega
       have HLX3 := Lib.hid (HLX.out.keeps HKY.out)
       have HK3 := Lib.hid (HKW.out.trans (HKX.out.trans HKY.out))
       have HQ3x := Lib.hid (((HKX.out.trans HKY.out).block _ (lt_of_heap HQW.out) (fun x => x)).trans HQW.out)
       clear hy hy1 hy2 hy3 hye HE2 HCU HEX HKW HKX HKY HLX HQW
       subst hyn
       have MXA := Lib.hid (fun (w : World) (hk : KF w3x w) => pmembers_spec (HLX3.out.keeps hk) hlx (qa1, qa2))
       have MYA := Lib.hid (fun (w : World) (hk : KF w3x w) => pmembers_spec (HLY.out.keeps hk) hly (qa1, qa2))
       have MXB := Lib.hid (fun (w : World) (hk : KF w3x w) => pmembers_spec (HLX3.out.keeps hk) hlx (qb1, qb2))
       have MYB := Lib.hid (fun (w : World) (hk : KF w3x w) => pmembers_spec (HLY.out.keeps hk) hly (qb1, qb2))
       unfold rolV2 at MXA MYA MXB MYB
       simp only at MXA MYA MXB MYB
       obtain ⟨z0, t0, z1, t1, z2, t2, z3, t3, z4, t4, z5, t5⟩ := cf6 HQ3x.out
       clear t0 t1 t2 t3 t4 t5 z0 z5 HQ3x
       go_upto_region 17 with fail
       have HMK101 : Hid (∀ w' : World, KF w3x w' → w'.cell? ⟨bWB, 1, none⟩ = some (.string ⟨qa1.toArray⟩) ∧ w'.cell? ⟨bWB, 2, none⟩ = some (.string ⟨qa2.toArray⟩) ∧ w'.cell? ⟨bWB, 3, none⟩ = some (.string ⟨qb1.toArray⟩) ∧ w'.cell? ⟨bWB, 4, none⟩ = some (.string ⟨qb2.toArray⟩)) := fun w' hk => ⟨kc hk z1, kc hk z2, kc hk z3, kc hk z4⟩
       have HKX101 : Hid (KF w3x w3x.drew) := (Keeps.refl _ _).drew
       have hS0 := HMK101.out _ HKX101.out
       clear z1 z2 z3 z4
       refine wp_region_noPanic ?_
       refine wp_region_held_drew (S := (fun w' => w'.cell? ⟨bWB, 1, none⟩ = some (.string ⟨qa1.toArray⟩) ∧ w'.cell? ⟨bWB, 2, none⟩ = some (.string ⟨qa2.toArray⟩) ∧ w'.cell? ⟨bWB, 3, none⟩ = some (.string ⟨qb1.toArray⟩) ∧ w'.cell? ⟨bWB, 4, none⟩ = some (.string ⟨qb2.toArray⟩))) (by kernel_rfl) hS0 (fun hHeld => ?_)
       clear hS0
       generalize w3x.drew = wA2 at *
       refine tk 0 rfl hHeld ?_
       refine tk 1 rfl hHeld ?_
       refine tk 2 rfl hHeld ?_
       (try simp only [nz])
       refine tk 4 rfl hHeld ?_
       refine tk 5 rfl hHeld ?_
       refine tk 6 rfl hHeld ?_
       (try simp only [nz])
       refine on1 3 rfl fun KK hK => ?_
       go_simp
       refine (MXA.out _ HKX101.out).mono ?_
       rintro e wB2 ⟨m1A, rfl, hk⟩
       have HV1A := Lib.hid hk.out.2
       replace HKX101 := Lib.hid (HKX101.out.trans hk.out.1)
       clear hk 
       go_simp
       refine hK.out _ _ (HMK101.out _ HKX101.out) fun hHeld => ?_
       clear hK KK
       (try simp only [nz])
       refine on1 7 rfl fun KK hK => ?_
       go_simp
       refine (MYA.out _ HKX101.out).mono ?_
       rintro e wC2 ⟨m2A, rfl, hk⟩
       have HV2A := Lib.hid hk.out.2
       replace HV1A := Lib.hid (HV1A.out.keeps hk.out.1)
       replace HKX101 := Lib.hid (HKX101.out.trans hk.out.1)
       clear hk 
       go_simp
       refine hK.out _ _ (HMK101.out _ HKX101.out) fun hHeld => ?_
       clear hK KK
       (try simp only [nz])
       have HSA : Hid (Calls Tryz.prog 22 #[m1A, m2A] wC2 fun e W' => e = .returned (.bool true) ∧ Hid (KF wC2 W')) := (ref_same HV1A.out HV2A.out (by have := memL_len lx (qa1, qa2); omega) HEQ.out.1).mono fun _ _ ⟨e, nq, r⟩ => ⟨e, by rw [r]; exact Lib.hid ((Keeps.refl _ _).drewN nq)⟩
       refine on1 8 rfl fun KK hK => ?_
       go_simp
       refine (HSA.out).mono ?_
       rintro e wD2 ⟨rfl, hk⟩
       replace HKX101 := Lib.hid (HKX101.out.trans hk.out)
       clear hk 
       go_simp
       refine hK.out _ _ (HMK101.out _ HKX101.out) fun hHeld => ?_
       clear hK KK
       refine tk 9 rfl hHeld ?_
       refine tk 10 rfl hHeld ?_
       (try simp only [nz])
       refine tk 11 rfl hHeld ?_
       refine tk 14 rfl hHeld ?_
       refine tk 15 rfl hHeld ?_
       (try simp only [nz])
       refine tk 12 rfl hHeld ?_
       refine tk 16 rfl hHeld ?_
       (try simp only [nz])
       refine on1 13 rfl fun KK hK => ?_
       go_simp
       refine (MXB.out _ HKX101.out).mono ?_
       rintro e wE2 ⟨m1B, rfl, hk⟩
       have HV1B := Lib.hid hk.out.2
       replace HKX101 := Lib.hid (HKX101.out.trans hk.out.1)
       clear hk 
       go_simp
       refine hK.out _ _ (HMK101.out _ HKX101.out) fun hHeld => ?_
       clear hK KK
       (try simp only [nz])
       refine on1 17 rfl fun KK hK => ?_
       go_simp
       refine (MYB.out _ HKX101.out).mono ?_
       rintro e wF2 ⟨m2B, rfl, hk⟩
       have HV2B := Lib.hid hk.out.2
       replace HV1B := Lib.hid (HV1B.out.keeps hk.out.1)
       replace HKX101 := Lib.hid (HKX101.out.trans hk.out.1)
       clear hk 
       go_simp
       refine hK.out _ _ (HMK101.out _ HKX101.out) fun hHeld => ?_
       clear hK KK
       (try simp only [nz])
       have HSB : Hid (Calls Tryz.prog 22 #[m1B, m2B] wF2 fun e W' => e = .returned (.bool true) ∧ Hid (KF wF2 W')) := (ref_same HV1B.out HV2B.out (by have := memL_len lx (qb1, qb2); omega) HEQ.out.2).mono fun _ _ ⟨e, nq, r⟩ => ⟨e, by rw [r]; exact Lib.hid ((Keeps.refl _ _).drewN nq)⟩
       refine on1 18 rfl fun KK hK => ?_
       go_simp
       refine (HSB.out).mono ?_
       rintro e wG2 ⟨rfl, hk⟩
       replace HKX101 := Lib.hid (HKX101.out.trans hk.out)
       clear hk 
       go_simp
       refine hK.out _ _ (HMK101.out _ HKX101.out) fun hHeld => ?_
       clear hK KK
       refine tk 19 rfl hHeld ?_
       refine tk 20 rfl hHeld ?_
       (try simp only [nz])
       refine on1 21 rfl fun KK hK => ?_
       go_simp
       refine (HLI.out _).mono ?_
       rintro e wH2 ⟨rfl, hk⟩
       replace HKX101 := Lib.hid (HKX101.out.trans hk.out)
       clear hk 
       go_simp
       refine hK.out _ _ (HMK101.out _ HKX101.out) fun hHeld => ?_
       clear hK KK
       refine tk 22 rfl hHeld ?_
       (try simp only [nz])
       refine on1 23 rfl fun KK hK => ?_
       go_simp
       refine hK.out _ _ (HMK101.out _ HKX101.out) fun hHeld => ?_
       clear hK KK
       (try simp only [nz])
       refine wpAnyH_done (by kernel_rfl) ?_ _
       refine NoPanic.normal ?_
       clear hHeld HMK101
       have HE := Lib.hid (HK3.out.trans HKX101.out)
       clear HKX101 HK3
       go_wp2_with fail
       go_ret
       exact ⟨rfl, HE⟩
theorem relevCuts_walk {W : World} {ao bo co jo wo : Option Addr} {an ac bn bc cn cc jn jc wn wc : Nat} {p : Pol} (hp : PolA W (.slice ao an ac) (.slice bo bn bc) (.slice co cn cc) (.slice jo jn jc) p) {q : Qry} (hq : ReadsS W (.slice wo wn wc) q.2.2.2) (hl : ∀ k, (.slice wo wn wc : Value).ownBlock = some k → k < W.heap.size) {mo : Option Addr} {mn mc : Nat} {more : List Stm} (hmo : SrcK stmE W (.slice mo mn mc) more) :
 Calls Tryz.prog 8 #[.agg #[.slice ao an ac, .slice bo bn bc, .slice co cn cc, .slice jo jn jc], qryV q (.slice wo wn wc), .slice mo mn mc] W fun e w' => e = .returned (.bool true) ∧ Below W.heap.size W w' :=
 (relevCuts_core hp ⟨hq, fun k hk => ⟨hl k hk, trivial⟩⟩ hmo).mono fun e w' h => ⟨h.1, h.2.out.below (Nat.le_refl _) (fun _ _ x => x.elim)⟩
end Go.Proofs.YtededjfjbkcepaaGreat
