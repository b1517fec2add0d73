/-
 The law UniverseReached, walked.
-/
import Derived.Test.YtckikkkdabpjkaaGreatMC
import Derived.Test.YtckikkkdabpjkaaGreatUniLives
import Derived.Test.YtckikkkdabpjkaaGreatReach10
set_option linter.unusedVariables false
set_option linter.unusedSimpArgs false
set_option linter.unnecessarySimpa false
namespace Go.Proofs.YtckikkkdabpjkaaGreat
open Go.ChangeShapes Go.WideShapes Go.ChangeAt Go.RowKit Go.Deep

theorem uni_lens {p : Pol} {q : Qry} {R : List Rol} {Lk : List Str} (h1 : p.1.length ≤ 30) (h2 : p.2.1.length ≤ 30) (h3 : p.2.2.1.length ≤ 30) (hw : OnWay p.2.1 p.2.2.1 p.1 q.2.1 q.2.2.1 R Lk) (hb : (uB p q R Lk).length ≤ 61) : (uBase p.1 R Lk).length ≤ 30 ∧ (fixV p.2.1 p.2.2.1 p.1 R Lk).length ≤ 30 ∧ (uBase p.1 R Lk).length + (fixV p.2.1 p.2.2.1 p.1 R Lk).length ≤ 30 ∧ ∀ N, (uSt p q R Lk N).length ≤ 30 + (uB p q R Lk).length := by
 have a1 : (uBase p.1 R Lk).length ≤ p.1.length := List.length_filter_le _ _
 have a3 : (uBase p.1 R Lk).length + (fixV p.2.1 p.2.2.1 p.1 R Lk).length ≤ p.1.length := by
  have two : ∀ (f g : Stm → Bool) (m : List Stm), (∀ x, f x = true → g x = false) → (m.filter f).length + (m.filter g).length ≤ m.length := by
   intro f g m hfg
   induction m with
   | nil => simp
   | cons x m ih =>
    cases hx : f x with
    | true =>
     rw [List.filter_cons_of_pos hx, List.filter_cons_of_neg (by rw [hfg x hx]; exact Bool.false_ne_true)]
     simp only [List.length_cons]; omega
    | false =>
     rw [List.filter_cons_of_neg (by rw [hx]; exact Bool.false_ne_true)]
     have := List.length_filter_le g [x]
     cases hg : g x with
     | true => rw [List.filter_cons_of_pos hg]; simp only [List.length_cons]; omega
     | false => rw [List.filter_cons_of_neg (by rw [hg]; exact Bool.false_ne_true)]; simp only [List.length_cons]; omega
  have h := two (fun y => !hasV R Lk y.1) (folB p.2.1 p.2.2.1 R Lk) p.1 (fun x hx => by
   have hx : (!hasV R Lk x.1) = true := hx
   unfold folB
   rw [show hasV R Lk x.1 = false by simpa using hx]
   rfl)
  have h5 : (fixV p.2.1 p.2.2.1 p.1 R Lk).length ≤ (p.1.filter (folB p.2.1 p.2.2.1 R Lk)).length := List.length_filter_le _ _
  unfold uBase
  omega
 refine ⟨by omega, by omega, by omega, fun N => ?_⟩
 unfold uSt uState
 refine Nat.le_trans (sortO_len2 stmLt _) ?_
 have := pick_len N (uB p q R Lk) (uB p q R Lk).length
 rw [List.length_append, List.length_append]
 omega
set_option maxRecDepth 100000
set_option maxHeartbeats 6400000
theorem universeReached_core {W : World} {ao bo co jo wo : Option Addr} {an ac bn bc cn cc jn jc wn wc : Nat} {p : Pol} (hp : PolA W (.slice ao an ac) (.slice bo bn bc) (.slice co cn cc) (.slice jo jn jc) p) {q : Qry} (hq : RowX W (.slice wo wn wc) q.2.2.2 (fun _ => True)) (N : Nat) (hN : N < 18446744073709551616) :
 Calls Tryz.prog 7 #[.agg #[.slice ao an ac, .slice bo bn bc, .slice co cn cc, .slice jo jn jc], qryV q (.slice wo wn wc), .int .u64 N] W fun e W' => e = .returned (.bool true) ∧ Hid (KF W W') := by
 have HNN := Lib.hid hN
 clear hN
 have HLI := Lib.hid (fun w : World => lives21_spec w)
 have HPL : Hid (∀ w, KF W w → Calls Tryz.prog 29 #[.agg #[.slice ao an ac, .slice bo bn bc, .slice co cn cc, .slice jo jn jc]] w (LightTo (p.1.length ≤ 30 ∧ p.2.1.length ≤ 30 ∧ p.2.2.1.length ≤ 30 ∧ p.2.2.2.length ≤ 30) w)) := fun w hk => plight_spec (hp.keeps hk)
 have HQL : Hid (∀ w, KF W w → Calls Tryz.prog 30 #[qryV q (.slice wo wn wc)] w (LightTo (q.2.2.2.length ≤ 40) w)) := fun w hk => qlight_spec (hq.1.keeps hk)
 have HOF : Hid (∀ w, KF W w → p.1.length ≤ 30 ∧ p.2.1.length ≤ 30 ∧ p.2.2.1.length ≤ 30 → q.2.2.2.length ≤ 40 → Calls Tryz.prog 32 #[.agg #[.slice ao an ac, .slice bo bn bc, .slice co cn cc, .slice jo jn jc], qryV q (.slice wo wn wc)] w fun e W' => Hid (UOfTo w p q e W')) := fun w hk hl hl2 => uof_spec (hp.rows.into hk (fun _ _ _ x => x) (fun _ _ x => x)) hl.1 hl.2.1 hl.2.2 (hq.into hk (fun _ _ _ x => x) (fun _ _ x => x)) hl2
 have HRE : Hid (∀ w v C, KF W w → RdK stmE w v C → p.1.length ≤ 30 ∧ p.2.1.length ≤ 30 ∧ p.2.2.1.length ≤ 30 → C.length ≤ 1000 → Calls Tryz.prog 25 #[.agg #[.slice ao an ac, .slice bo bn bc, .slice co cn cc, .slice jo jn jc], v] w fun e W' => e = .returned (.bool (reachB p C)) ∧ Hid (KF w W')) := fun w v C hk hC hl hl2 => wreaches_spec ((hp.rows.into hk (fun _ _ _ x => x) (fun _ _ x => x)).1.1.1) ((hp.rows.into hk (fun _ _ _ x => x) (fun _ _ x => x)).2.1.1.1) ((hp.rows.into hk (fun _ _ _ x => x) (fun _ _ x => x)).2.2.1.1) hC (by omega) (by omega) (by omega) (by omega)
 obtain ⟨qk, ⟨qa1, qa2⟩, ⟨qb1, qb2⟩, qw⟩ := q
 clear hp hq
 unfold qryV
 unfold qryV at HQL HOF
 simp only at HQL HOF ⊢
 have halWA := (MapKept.heap_alloc W (bP ao an ac bo bn bc co cn cc jo jn jc)).1
 obtain ⟨WA, hWA⟩ : ∃ q, W.alloc (bP ao an ac bo bn bc co cn cc jo jn jc) = q := ⟨_, rfl⟩
 have hkWA : KF W WA := by rw [← hWA]; exact (Keeps.refl _ _).alloc _
 rw [hWA] at halWA
 obtain ⟨bWA, hbWA⟩ : ∃ q, W.heap.size = q := ⟨_, rfl⟩
 rw [hbWA] at halWA
 have halWB := (MapKept.heap_alloc WA (bQ qk qa1 qa2 qb1 qb2 wo wn wc)).1
 obtain ⟨WB, hWB⟩ : ∃ q, WA.alloc (bQ qk qa1 qa2 qb1 qb2 wo wn wc) = q := ⟨_, rfl⟩
 have hkWB : KF WA WB := by rw [← hWB]; exact (Keeps.refl _ _).alloc _
 rw [hWB] at halWB
 obtain ⟨bWB, hbWB⟩ : ∃ q, WA.heap.size = q := ⟨_, rfl⟩
 rw [hbWB] at halWB
 have HP := Lib.hid ((hkWB.block _ (lt_of_heap halWA) (fun x => x)).trans halWA)
 have HQB := Lib.hid halWB
 have HK := Lib.hid (hkWA.trans hkWB)
 clear halWA halWB hkWA hkWB
 obtain ⟨x0, y0, x1, y1, x2, y2, x3, y3⟩ := cf4 (HP.out)
 obtain ⟨z0, t0, z1, t1, z2, t2, z3, t3, z4, t4, z5, t5⟩ := cf6 (HQB.out)
 clear y0 y1 y2 y3 t0 t1 t2 t3 t4 t5
 have HC := Lib.hid (HPL.out _ HK.out)
 clear HPL
 go_enter Tryz.func7, Tryz.ntmps7
 go_upto_region 1 with fail
 (try simp only [hWA, hWB, hbWA, hbWB])
 clear hWA hWB hbWA hbWB
 go_wp2_with fail
 refine HC.out.mono ?_
 rintro e w1 ⟨b1, rfl, hl⟩
 have HK1 := Lib.hid (HK.out.trans hl.out.2)
 have HL1 := Lib.hid hl.out.1
 have HP1 := Lib.hid ((hl.out.2.block _ (lt_of_heap HP.out) (fun x => x)).trans HP.out)
 have HQ1 := Lib.hid ((hl.out.2.block _ (lt_of_heap HQB.out) (fun x => x)).trans HQB.out)
 clear HC hl HK HP HQB x0 x1 x2 x3 z0 z1 z2 z3 z4 z5
 cases b1
 case false =>
  go_wp2_with fail
  refine (HLI.out _).mono ?_
  rintro e w9 ⟨rfl, hk⟩
  have HE := Lib.hid (HK1.out.trans hk.out)
  clear hk
  go_wp2_with fail
  go_ret
  exact ⟨rfl, HE⟩
 case true =>
  have HLN := Lib.hid (HL1.out rfl)
  clear HL1
  obtain ⟨x0, y0, x1, y1, x2, y2, x3, y3⟩ := cf4 (HP1.out)
  obtain ⟨z0, t0, z1, t1, z2, t2, z3, t3, z4, t4, z5, t5⟩ := cf6 (HQ1.out)
  clear y0 y1 y2 y3 t0 t1 t2 t3 t4 t5
  have HC := Lib.hid (HQL.out _ HK1.out)
  clear HQL
  go_wp2_with fail
  refine HC.out.mono ?_
  rintro e w2 ⟨b2, rfl, hl⟩
  have HK2 := Lib.hid (HK1.out.trans hl.out.2)
  have HL2 := Lib.hid hl.out.1
  have HP2 := Lib.hid ((hl.out.2.block _ (lt_of_heap HP1.out) (fun x => x)).trans HP1.out)
  have HQ2 := Lib.hid ((hl.out.2.block _ (lt_of_heap HQ1.out) (fun x => x)).trans HQ1.out)
  clear HC hl HK1 HP1 HQ1 x0 x1 x2 x3 z0 z1 z2 z3 z4 z5
  cases b2
  case false =>
   go_wp2_with fail
   refine (HLI.out _).mono ?_
   rintro e w9 ⟨rfl, hk⟩
   have HE := Lib.hid (HK2.out.trans hk.out)
   clear hk
   go_wp2_with fail
   go_ret
   exact ⟨rfl, HE⟩
  case true =>
   have HLW := Lib.hid (HL2.out rfl)
   clear HL2
   have HL3 : Hid (p.1.length ≤ 30 ∧ p.2.1.length ≤ 30 ∧ p.2.2.1.length ≤ 30) := ⟨HLN.out.1, HLN.out.2.1, HLN.out.2.2.1⟩
   have HLQ : Hid (qw.length ≤ 40) := HLW.out
   clear HLN HLW
   obtain ⟨x0, y0, x1, y1, x2, y2, x3, y3⟩ := cf4 (HP2.out)
   obtain ⟨z0, t0, z1, t1, z2, t2, z3, t3, z4, t4, z5, t5⟩ := cf6 (HQ2.out)
   clear y0 y1 y2 y3 t0 t1 t2 t3 t4 t5
   have HC := Lib.hid (HOF.out _ HK2.out HL3.out HLQ.out)
   clear HOF
   go_wp2_with fail
   refine HC.out.mono ?_
   rintro e w4 hof
   clear HC
   obtain ⟨hk, hof2⟩ := hof.out
   rcases hof2 with ⟨c, hc0, rfl, _⟩ | ⟨ha, rv, lv, pv, fv, ov, gv, lk, qv, bv, av, R, Lk, rfl, hu⟩
   case inl =>
    have hka : KF w4 (w4.alloc (.cells #[.slice none 0 0, .slice none 0 0, .slice none 0 0, .slice none 0 0, .slice none 0 0, .slice none 0 0, .bool false, .slice none 0 0, .slice none 0 0, .slice none 0 0] 54)) := (Keeps.refl _ _).alloc _
    have HK5 := Lib.hid ((HK2.out.trans hk).trans hka)
    have hcb : (c != 0) = true := by simpa using hc0
    clear hk hka hof HK2 HP2 HQ2 x0 x1 x2 x3 z0 z1 z2 z3 z4 z5
    go_upto_region 4 with fail
    generalize w4.alloc (.cells #[.slice none 0 0, .slice none 0 0, .slice none 0 0, .slice none 0 0, .slice none 0 0, .slice none 0 0, .bool false, .slice none 0 0, .slice none 0 0, .slice none 0 0] 54) = w5 at *
    go_wp2_with fail
    refine (HLI.out _).mono ?_
    rintro e w9 ⟨rfl, hk⟩
    have HE := Lib.hid (HK5.out.trans hk.out)
    clear hk
    go_wp2_with fail
    go_ret
    exact ⟨rfl, HE⟩
   case inr =>
    obtain ⟨ro, rc, hrv, _⟩ := id hu.V.rR.reads
    obtain ⟨lo, lc, hlv, _⟩ := id hu.V.rL.reads
    obtain ⟨po, pc, hpv, _⟩ := id hu.V.rP.reads
    obtain ⟨fo, fc, hfv, _⟩ := id hu.V.rF.reads
    obtain ⟨oo, oc, hov, _⟩ := id hu.V.rO.reads
    obtain ⟨go, gc, hgv, _⟩ := id hu.V.rG.reads
    obtain ⟨xo, xc, hxv, _⟩ := id hu.P.reads
    obtain ⟨yo, yc, hyv, _⟩ := id hu.B.reads
    obtain ⟨zo, zc, hzv, _⟩ := id hu.A.1.1
    obtain ⟨rn, hrn⟩ : ∃ n : Nat, rv = .slice ro n rc := ⟨_, hrv⟩
    obtain ⟨ln, hln⟩ : ∃ n : Nat, lv = .slice lo n lc := ⟨_, hlv⟩
    obtain ⟨pn, hpn⟩ : ∃ n : Nat, pv = .slice po n pc := ⟨_, hpv⟩
    obtain ⟨fn', hfn⟩ : ∃ n : Nat, fv = .slice fo n fc := ⟨_, hfv⟩
    obtain ⟨on', hon⟩ : ∃ n : Nat, ov = .slice oo n oc := ⟨_, hov⟩
    obtain ⟨gn, hgn⟩ : ∃ n : Nat, gv = .slice go n gc := ⟨_, hgv⟩
    obtain ⟨xn, hxn⟩ : ∃ n : Nat, qv = .slice xo n xc := ⟨_, hxv⟩
    obtain ⟨yn, hyn0⟩ : ∃ n, (uB p (qk, (qa1, qa2), (qb1, qb2), qw) R Lk).length = n := ⟨_, rfl⟩
    have hyn : bv = .slice yo yn yc := by rw [← hyn0]; exact hyv
    have HYN := Lib.hid hyn0
    obtain ⟨zn, hzn⟩ : ∃ n : Nat, av = .slice zo n zc := ⟨_, hzv⟩
    clear hrv hlv hpv hfv hov hgv hxv hyv hzv hyn0
    subst hrn hln hpn hfn hon hgn hxn hyn hzn
    have hka : KF w4 (w4.alloc (.cells #[.slice ro rn rc, .slice lo ln lc, .slice po pn pc, .slice fo fn' fc, .slice oo on' oc, .slice go gn gc, .bool lk, .slice xo xn xc, .slice yo yn yc, .slice zo zn zc] 54)) := (Keeps.refl _ _).alloc _
    have HU5 := Lib.hid (MapKept.heap_alloc w4 (.cells #[.slice ro rn rc, .slice lo ln lc, .slice po pn pc, .slice fo fn' fc, .slice oo on' oc, .slice go gn gc, .bool lk, .slice xo xn xc, .slice yo yn yc, .slice zo zn zc] 54)).1
    have HP5 := Lib.hid (((hk.trans hka).block _ (lt_of_heap HP2.out) (fun x => x)).trans HP2.out)
    have HK5 := Lib.hid ((HK2.out.trans hk).trans hka)
    have HLE := Lib.hid (uni_lens HL3.out.1 HL3.out.2.1 HL3.out.2.2 hu.V.way hu.b61)
    have HB61 := Lib.hid hu.b61
    have HRB : Hid (∀ N, reachB p (uSt p (qk, (qa1, qa2), (qb1, qb2), qw) R Lk N) = true) := fun N => uni_reached ha hu.V.way N
    have HST : Hid (∀ w, KF (w4.alloc (.cells #[.slice ro rn rc, .slice lo ln lc, .slice po pn pc, .slice fo fn' fc, .slice oo on' oc, .slice go gn gc, .bool lk, .slice xo xn xc, .slice yo yn yc, .slice zo zn zc] 54)) w → ∀ N : Nat, N < 18446744073709551616 → Calls Tryz.prog 33 #[.agg #[.slice ro rn rc, .slice lo ln lc, .slice po pn pc, .slice fo fn' fc, .slice oo on' oc, .slice go gn gc, .bool lk, .slice xo xn xc, .slice yo yn yc, .slice zo zn zc], .int .u64 (N : Int)] w fun e W' => ∃ v', e = .returned v' ∧ Hid (KF w W' ∧ OwnK stmE w.heap.size W' v' (uSt p (qk, (qa1, qa2), (qb1, qb2), qw) R Lk N))) := fun w hkw N hN => by
     have kk := hka.trans hkw
     exact ustate_spec ((hu.A.into kk (fun _ _ _ z => z) (fun _ _ x => x)).1) (hu.V.rF.src.keeps kk) (hu.B.reads.keeps kk) (by have := HLE.out.1; omega) (by have := HLE.out.2.1; omega) (by exact hu.b61) N hN
    obtain ⟨ub, hub⟩ : ∃ q, w4.heap.size = q := ⟨_, rfl⟩
    rw [hub] at HU5
    clear hk hka hof hu ha HK2 HP2 HQ2 x0 x1 x2 x3 z0 z1 z2 z3 z4 z5
    go_upto_region 4 with fail
    (try simp only [hub])
    clear hub
    generalize w4.alloc (.cells #[.slice ro rn rc, .slice lo ln lc, .slice po pn pc, .slice fo fn' fc, .slice oo on' oc, .slice go gn gc, .bool lk, .slice xo xn xc, .slice yo yn yc, .slice zo zn zc] 54) = w5 at *
    obtain ⟨v0, f0, v1, f1, v2, f2, v3, f3, v4, f4, v5, f5, v6, f6, v7, f7, v8, f8, v9, f9⟩ := cf10 HU5.out
    clear f0 f1 f2 f3 f4 f5 f6 f7 f8 f9
    have hMlt : N ||| (N / 2) < 18446744073709551616 := Nat.or_lt_two_pow (n := 64) HNN.out (by have := HNN.out; omega)
    go_upto_region 6 with fail
    have HMK1 : Hid (∀ w' : World, KF w5 w' → w'.cell? ⟨ub, 0, none⟩ = some (.slice ro rn rc) ∧ w'.cell? ⟨ub, 1, none⟩ = some (.slice lo ln lc) ∧ w'.cell? ⟨ub, 2, none⟩ = some (.slice po pn pc) ∧ w'.cell? ⟨ub, 3, none⟩ = some (.slice fo fn' fc) ∧ w'.cell? ⟨ub, 4, none⟩ = some (.slice oo on' oc) ∧ w'.cell? ⟨ub, 5, none⟩ = some (.slice go gn gc) ∧ w'.cell? ⟨ub, 6, none⟩ = some (.bool lk) ∧ w'.cell? ⟨ub, 7, none⟩ = some (.slice xo xn xc) ∧ w'.cell? ⟨ub, 8, none⟩ = some (.slice yo yn yc) ∧ w'.cell? ⟨ub, 9, none⟩ = some (.slice zo zn zc)) := fun w' hk => ⟨kc hk v0, kc hk v1, kc hk v2, kc hk v3, kc hk v4, kc hk v5, kc hk v6, kc hk v7, kc hk v8, kc hk v9⟩
    have HKX1 : Hid (KF w5 w5.drew) := (Keeps.refl _ _).drew
    have hS0 := HMK1.out _ HKX1.out
    clear v0 v1 v2 v3 v4 v5 v6 v7 v8 v9
    refine wp_region_noPanic ?_
    refine wp_region_held_drew (S := (fun w' => w'.cell? ⟨ub, 0, none⟩ = some (.slice ro rn rc) ∧ w'.cell? ⟨ub, 1, none⟩ = some (.slice lo ln lc) ∧ w'.cell? ⟨ub, 2, none⟩ = some (.slice po pn pc) ∧ w'.cell? ⟨ub, 3, none⟩ = some (.slice fo fn' fc) ∧ w'.cell? ⟨ub, 4, none⟩ = some (.slice oo on' oc) ∧ w'.cell? ⟨ub, 5, none⟩ = some (.slice go gn gc) ∧ w'.cell? ⟨ub, 6, none⟩ = some (.bool lk) ∧ w'.cell? ⟨ub, 7, none⟩ = some (.slice xo xn xc) ∧ w'.cell? ⟨ub, 8, none⟩ = some (.slice yo yn yc) ∧ w'.cell? ⟨ub, 9, none⟩ = some (.slice zo zn zc))) (by kernel_rfl) hS0 (fun hHeld => ?_)
    clear hS0
    generalize w5.drew = wA at *
    refine tk 0 rfl hHeld ?_
    refine tk 1 rfl hHeld ?_
    refine tk 3 rfl hHeld ?_
    (try simp only [nz])
    refine tk 4 rfl hHeld ?_
    refine tk 5 rfl hHeld ?_
    refine tk 6 rfl hHeld ?_
    (try simp only [nz])
    refine tk 7 rfl hHeld ?_
    (try simp only [nz])
    refine on1 2 rfl fun KK hK => ?_
    go_simp
    refine (HST.out _ HKX1.out N HNN.out).mono ?_
    rintro e wB ⟨a1, rfl, hk⟩
    have HA1 := Lib.hid hk.out.2
    replace HKX1 := Lib.hid (HKX1.out.trans hk.out.1)
    clear hk 
    go_simp
    refine hK.out _ _ (HMK1.out _ HKX1.out) fun hHeld => ?_
    clear hK KK
    (try simp only [nz])
    have hor : bits BinOp.or IntKind.u64 (N : Int) ((N : Int) / 2) = ((N ||| N / 2 : Nat) : Int) := by
     have e1 : ((N : Int) / 2) = ((N / 2 : Nat) : Int) := by simp
     rw [e1]
     exact u64_or_nat _ _ HNN.out (by have := HNN.out; omega)
    (try simp only [hor])
    refine on1 8 rfl fun KK hK => ?_
    go_simp
    refine (HST.out _ HKX1.out _ hMlt).mono ?_
    rintro e wC ⟨a2, rfl, hk⟩
    have HA2 := Lib.hid hk.out.2
    replace HA1 := Lib.hid (HA1.out.keeps hk.out.1 (fun _ _ z => z))
    replace HKX1 := Lib.hid (HKX1.out.trans hk.out.1)
    clear hk 
    go_simp
    refine hK.out _ _ (HMK1.out _ HKX1.out) fun hHeld => ?_
    clear hK KK
    (try simp only [nz])
    refine on1 9 rfl fun KK hK => ?_
    go_simp
    refine hK.out _ _ (HMK1.out _ HKX1.out) fun hHeld => ?_
    clear hK KK
    (try simp only [nz])
    refine on1 10 rfl fun KK hK => ?_
    go_simp
    refine hK.out _ _ (HMK1.out _ HKX1.out) fun hHeld => ?_
    clear hK KK
    (try simp only [nz])
    refine wpAnyH_done (by kernel_rfl) ?_ _
    refine NoPanic.normal ?_
    clear hHeld HMK1
    obtain ⟨a1o, a1c, ha1, ha1l, _⟩ := id HA1.out.reads
    obtain ⟨a2o, a2c, ha2, _⟩ := id HA2.out.reads
    obtain ⟨na, hna⟩ : ∃ n, (uSt p (qk, (qa1, qa2), (qb1, qb2), qw) R Lk N).length = n := ⟨_, rfl⟩
    obtain ⟨nb, hnb⟩ : ∃ n, (uSt p (qk, (qa1, qa2), (qb1, qb2), qw) R Lk (N ||| N / 2)).length = n := ⟨_, rfl⟩
    have HLA : Hid (na ≤ 91 ∧ nb ≤ 91) := by have h4 := HLE.out.2.2.2; have h5 := HB61.out; have := h4 N; have := h4 (N ||| N / 2); exact ⟨by omega, by omega⟩
    have HNA := Lib.hid hna
    have HNB := Lib.hid hnb
    rw [hna] at ha1 ha1l
    rw [hnb] at ha2
    subst ha1 ha2
    have HAR : Hid (RdK stmE wC (.slice a1o na a1c) (uSt p (qk, (qa1, qa2), (qb1, qb2), qw) R Lk N)) := HA1.out.reads
    have HBR : Hid (RdK stmE wC (.slice a2o nb a2c) (uSt p (qk, (qa1, qa2), (qb1, qb2), qw) R Lk (N ||| N / 2))) := HA2.out.reads
    have HSUB : Hid (∀ y ∈ (uSt p (qk, (qa1, qa2), (qb1, qb2), qw) R Lk N), y ∈ (uSt p (qk, (qa1, qa2), (qb1, qb2), qw) R Lk (N ||| N / 2))) := fun y hy => uState_mono (fun j hj => by rw [Nat.testBit_or, hj, Bool.true_or]) hy
    have HK6 := Lib.hid (HK5.out.trans HKX1.out)
    have HP6 := Lib.hid ((HKX1.out.block _ (lt_of_heap HP5.out) (fun x => x)).trans HP5.out)
    have HU6 := Lib.hid ((HKX1.out.block _ (lt_of_heap HU5.out) (fun x => x)).trans HU5.out)
    have HST6 : Hid (∀ w, KF wC w → Calls Tryz.prog 33 #[.agg #[.slice ro rn rc, .slice lo ln lc, .slice po pn pc, .slice fo fn' fc, .slice oo on' oc, .slice go gn gc, .bool lk, .slice xo xn xc, .slice yo yn yc, .slice zo zn zc], .int .u64 0] w fun e W' => ∃ v', e = .returned v' ∧ Hid (KF w W' ∧ OwnK stmE w.heap.size W' v' (uSt p (qk, (qa1, qa2), (qb1, qb2), qw) R Lk 0))) := fun w hk => HST.out w (HKX1.out.trans hk) 0 (by decide)
    have HS0L : Hid ((uSt p (qk, (qa1, qa2), (qb1, qb2), qw) R Lk 0).length ≤ 1000) := by have h4 := HLE.out.2.2.2 0; have := HB61.out; show _ ≤ _; omega
    clear HST HKX1 HA1 HA2 HK5 HP5 HU5 hna hnb hor hMlt HLE HB61
    have HI0 : Hid (KF wC wC) := Keeps.refl _ _
    have hnaI := HLA.out.1
    go_wp2_with fail
    go_loopg [42] na (fun g t wx => ∃ i : Nat, i ≤ na ∧ g = na - i ∧ t = .int .i64 i ∧ Hid (KF wC wx))
    case atStart => exact ⟨0, Nat.zero_le _, rfl, rfl, HI0⟩
    case round =>
     clear HI0
     obtain ⟨i, hi, rfl, rfl, HI⟩ := hrel
     by_cases hlt : i < na
     ·have hiI : (i : Int) < (na : Int) := by omega
      have hwi : IntKind.i64.wrap ((i : Int) + 1) = (i : Int) + 1 := IntWalk.i64_in _ (by omega)
      have hicap : i < a1c := by omega
      obtain ⟨y, hy⟩ : ∃ y, (uSt p (qk, (qa1, qa2), (qb1, qb2), qw) R Lk N)[i]? = some y := ⟨_, List.getElem?_eq_getElem (by rw [HNA.out]; exact hlt)⟩
      obtain ⟨aoz, cpz, ez, hez, hrz⟩ := id (HAR.out.keeps HI.out)
      obtain ⟨g, off, hao, hg, hcc⟩ := hrz (by rw [HNA.out]; omega)
      simp only [Value.slice.injEq] at ez
      obtain ⟨rfl, hzz, rfl⟩ := ez
      subst hao
      have hc := hcc i y hy
      have HIN : Hid (y ∈ (uSt p (qk, (qa1, qa2), (qb1, qb2), qw) R Lk (N ||| N / 2))) := HSUB.out y (List.mem_of_getElem? hy)
      have HC := Lib.hid (fun (w : World) (hk : KF wC w) => mhas_spec (rdk_m.1 (HBR.out.keeps hk)) (by rw [HNB.out]; have := HLA.out.2; omega) y)
      rw [decide_eq_true HIN.out] at HC
      obtain ⟨⟨yh1, yh2⟩, yk, yo, ⟨ya1, ya2⟩, ⟨yb1, yb2⟩, yi⟩ := y
      unfold stmV at HC
      simp only at HC
      clear hcc hrz hez hzz hy HIN
      obtain ⟨c0, c1, c2, c3, c4, c5, c6, c7, c8⟩ := n9 hc
      have hka : KF wr (wr.alloc (bM yk yh1 yh2 yo ya1 ya2 yb1 yb2 yi)) := (Keeps.refl _ _).alloc _
      have hal := (MapKept.heap_alloc wr (bM yk yh1 yh2 yo ya1 ya2 yb1 yb2 yi)).1
      have HJ := Lib.hid (HI.out.trans hka)
      obtain ⟨b, hb⟩ : ∃ b, wr.heap.size = b := ⟨_, rfl⟩
      rw [hb] at hal
      have HB := Lib.hid hal
      go_upto_region 10 with fail
      (try simp only [hb])
      clear hka hal hb hc hg HI c0 c1 c2 c3 c4 c5 c6 c7 c8
      generalize wr.alloc (bM yk yh1 yh2 yo ya1 ya2 yb1 yb2 yi) = w6 at *
      obtain ⟨p0, f0, p1, f1, p2, f2, p3, f3, p4, f4, p5, f5, p6, f6, p7, f7, p8, f8⟩ := cf9 HB.out
      clear f0 f1 f2 f3 f4 f5 f6 f7 f8
      go_wp2_with fail
      refine (HC.out _ HJ.out).mono ?_
      rintro e w7 ⟨rfl, hk⟩
      have HN2 := Lib.hid (HJ.out.trans hk.out)
      clear HC HJ HB hk p0 p1 p2 p3 p4 p5 p6 p7 p8
      go_wp2_with fail
      go_roundg (na - (i + 1))
      case measure => omega
      case rel => exact ⟨i + 1, by omega, rfl, by go_num, HN2⟩
     ·obtain rfl : i = na := by omega
      have hiI : ¬ (i : Int) < (i : Int) := by omega
      have HKW := Lib.hid (HK6.out.trans HI.out)
      have HP7 := Lib.hid ((HI.out.block _ (lt_of_heap HP6.out) (fun x => x)).trans HP6.out)
      have HU7 := Lib.hid ((HI.out.block _ (lt_of_heap HU6.out) (fun x => x)).trans HU6.out)
      have HRA : Hid (∀ w, KF wr w → Calls Tryz.prog 25 #[.agg #[.slice ao an ac, .slice bo bn bc, .slice co cn cc, .slice jo jn jc], .slice a1o i a1c] w fun e W' => e = .returned (.bool true) ∧ Hid (KF w W')) := fun w hk => by
       have q := HRE.out w _ _ (HKW.out.trans hk) (HAR.out.keeps (HI.out.trans hk)) HL3.out (by rw [HNA.out]; have := HLA.out.1; omega)
       rw [HRB.out] at q
       exact q
      have HRB2 : Hid (∀ w, KF wr w → Calls Tryz.prog 25 #[.agg #[.slice ao an ac, .slice bo bn bc, .slice co cn cc, .slice jo jn jc], .slice a2o nb a2c] w fun e W' => e = .returned (.bool true) ∧ Hid (KF w W')) := fun w hk => by
       have q := HRE.out w _ _ (HKW.out.trans hk) (HBR.out.keeps (HI.out.trans hk)) HL3.out (by rw [HNB.out]; have := HLA.out.2; omega)
       rw [HRB.out] at q
       exact q
      have HR0 : Hid (∀ w v, KF wr w → OwnK stmE wr.heap.size w v (uSt p (qk, (qa1, qa2), (qb1, qb2), qw) R Lk 0) → Calls Tryz.prog 25 #[.agg #[.slice ao an ac, .slice bo bn bc, .slice co cn cc, .slice jo jn jc], v] w fun e W' => e = .returned (.bool true) ∧ Hid (KF w W')) := fun w v hk ho => by
       have q := HRE.out w v _ (HKW.out.trans hk) ho.reads HL3.out HS0L.out
       rw [HRB.out] at q
       exact q
      have HSW : Hid (∀ w, KF wr w → Calls Tryz.prog 33 #[.agg #[.slice ro rn rc, .slice lo ln lc, .slice po pn pc, .slice fo fn' fc, .slice oo on' oc, .slice go gn gc, .bool lk, .slice xo xn xc, .slice yo yn yc, .slice zo zn zc], .int .u64 0] w fun e W' => ∃ v', e = .returned v' ∧ Hid (KF w W' ∧ OwnK stmE w.heap.size W' v' (uSt p (qk, (qa1, qa2), (qb1, qb2), qw) R Lk 0))) := fun w hk => HST6.out w (HI.out.trans hk)
      obtain ⟨x0, y0, x1, y1, x2, y2, x3, y3⟩ := cf4 HP7.out
      obtain ⟨v0, f0, v1, f1, v2, f2, v3, f3, v4, f4, v5, f5, v6, f6, v7, f7, v8, f8, v9, f9⟩ := cf10 HU7.out
      clear y0 y1 y2 y3 f0 f1 f2 f3 f4 f5 f6 f7 f8 f9 HK6 HP6 HU6 HI HRE HST6 HAR HBR HSUB
      go_upto_region 13 with fail
      have HMK13 : Hid (∀ w' : World, KF wr w' → w'.cell? ⟨bWA, 0, none⟩ = some (.slice ao an ac) ∧ w'.cell? ⟨bWA, 1, none⟩ = some (.slice bo bn bc) ∧ w'.cell? ⟨bWA, 2, none⟩ = some (.slice co cn cc) ∧ w'.cell? ⟨bWA, 3, none⟩ = some (.slice jo jn jc) ∧ w'.cell? ⟨ub, 0, none⟩ = some (.slice ro rn rc) ∧ w'.cell? ⟨ub, 1, none⟩ = some (.slice lo ln lc) ∧ w'.cell? ⟨ub, 2, none⟩ = some (.slice po pn pc) ∧ w'.cell? ⟨ub, 3, none⟩ = some (.slice fo fn' fc) ∧ w'.cell? ⟨ub, 4, none⟩ = some (.slice oo on' oc) ∧ w'.cell? ⟨ub, 5, none⟩ = some (.slice go gn gc) ∧ w'.cell? ⟨ub, 6, none⟩ = some (.bool lk) ∧ w'.cell? ⟨ub, 7, none⟩ = some (.slice xo xn xc) ∧ w'.cell? ⟨ub, 8, none⟩ = some (.slice yo yn yc) ∧ w'.cell? ⟨ub, 9, none⟩ = some (.slice zo zn zc)) := fun w' hk => ⟨kc hk x0, kc hk x1, kc hk x2, kc hk x3, kc hk v0, kc hk v1, kc hk v2, kc hk v3, kc hk v4, kc hk v5, kc hk v6, kc hk v7, kc hk v8, kc hk v9⟩
      have HKX13 : Hid (KF wr wr.drew) := (Keeps.refl _ _).drew
      have hS0 := HMK13.out _ HKX13.out
      clear x0 x1 x2 x3 v0 v1 v2 v3 v4 v5 v6 v7 v8 v9
      refine wp_region_noPanic ?_
      refine wp_region_held_drew (S := (fun w' => w'.cell? ⟨bWA, 0, none⟩ = some (.slice ao an ac) ∧ w'.cell? ⟨bWA, 1, none⟩ = some (.slice bo bn bc) ∧ w'.cell? ⟨bWA, 2, none⟩ = some (.slice co cn cc) ∧ w'.cell? ⟨bWA, 3, none⟩ = some (.slice jo jn jc) ∧ w'.cell? ⟨ub, 0, none⟩ = some (.slice ro rn rc) ∧ w'.cell? ⟨ub, 1, none⟩ = some (.slice lo ln lc) ∧ w'.cell? ⟨ub, 2, none⟩ = some (.slice po pn pc) ∧ w'.cell? ⟨ub, 3, none⟩ = some (.slice fo fn' fc) ∧ w'.cell? ⟨ub, 4, none⟩ = some (.slice oo on' oc) ∧ w'.cell? ⟨ub, 5, none⟩ = some (.slice go gn gc) ∧ w'.cell? ⟨ub, 6, none⟩ = some (.bool lk) ∧ w'.cell? ⟨ub, 7, none⟩ = some (.slice xo xn xc) ∧ w'.cell? ⟨ub, 8, none⟩ = some (.slice yo yn yc) ∧ w'.cell? ⟨ub, 9, none⟩ = some (.slice zo zn zc))) (by kernel_rfl) hS0 (fun hHeld => ?_)
      clear hS0
      generalize wr.drew = yA at *
      refine tk 0 rfl hHeld ?_
      refine tk 1 rfl hHeld ?_
      (try simp only [nz])
      refine on1 2 rfl fun KK hK => ?_
      go_simp
      refine (HRA.out _ HKX13.out).mono ?_
      rintro e yB ⟨rfl, hk⟩
      replace HKX13 := Lib.hid (HKX13.out.trans hk.out)
      clear hk 
      go_simp
      refine hK.out _ _ (HMK13.out _ HKX13.out) fun hHeld => ?_
      clear hK KK
      refine tk 3 rfl hHeld ?_
      refine tk 4 rfl hHeld ?_
      (try simp only [nz])
      refine tk 5 rfl hHeld ?_
      (try simp only [nz])
      refine on1 6 rfl fun KK hK => ?_
      go_simp
      refine (HRB2.out _ HKX13.out).mono ?_
      rintro e yC ⟨rfl, hk⟩
      replace HKX13 := Lib.hid (HKX13.out.trans hk.out)
      clear hk 
      go_simp
      refine hK.out _ _ (HMK13.out _ HKX13.out) fun hHeld => ?_
      clear hK KK
      refine tk 7 rfl hHeld ?_
      refine tk 8 rfl hHeld ?_
      (try simp only [nz])
      refine tk 9 rfl hHeld ?_
      refine tk 10 rfl hHeld ?_
      (try simp only [nz])
      have HSZ : Hid (wr.heap.size ≤ yC.heap.size) := HKX13.out.size
      refine on1 11 rfl fun KK hK => ?_
      go_simp
      refine (HSW.out _ HKX13.out).mono ?_
      rintro e yD ⟨m0, rfl, hk⟩
      have HM0 : Hid (OwnK stmE wr.heap.size yD m0 (uSt p (qk, (qa1, qa2), (qb1, qb2), qw) R Lk 0)) := hk.out.2.base HSZ.out
      replace HKX13 := Lib.hid (HKX13.out.trans hk.out.1)
      clear hk 
      go_simp
      refine hK.out _ _ (HMK13.out _ HKX13.out) fun hHeld => ?_
      clear hK KK
      (try simp only [nz])
      refine on1 12 rfl fun KK hK => ?_
      go_simp
      refine (HR0.out _ _ HKX13.out HM0.out).mono ?_
      rintro e yE ⟨rfl, hk⟩
      replace HKX13 := Lib.hid (HKX13.out.trans hk.out)
      clear hk 
      go_simp
      refine hK.out _ _ (HMK13.out _ HKX13.out) fun hHeld => ?_
      clear hK KK
      refine tk 13 rfl hHeld ?_
      refine tk 14 rfl hHeld ?_
      (try simp only [nz])
      refine on1 15 rfl fun KK hK => ?_
      go_simp
      refine (HLI.out _).mono ?_
      rintro e yF ⟨rfl, hk⟩
      replace HKX13 := Lib.hid (HKX13.out.trans hk.out)
      clear hk 
      go_simp
      refine hK.out _ _ (HMK13.out _ HKX13.out) fun hHeld => ?_
      clear hK KK
      refine tk 16 rfl hHeld ?_
      (try simp only [nz])
      refine on1 17 rfl fun KK hK => ?_
      go_simp
      refine hK.out _ _ (HMK13.out _ HKX13.out) fun hHeld => ?_
      clear hK KK
      (try simp only [nz])
      refine wpAnyH_done (by kernel_rfl) ?_ _
      refine NoPanic.normal ?_
      clear hHeld HMK13
      have HE := Lib.hid (HKW.out.trans HKX13.out)
      clear HKX13 HKW HM0
      go_wp2_with fail
      go_ret
      exact ⟨rfl, HE⟩
theorem universeReached_walk {W : World} {ao bo co jo wo : Option Addr} {an ac bn bc cn cc jn jc wn wc : Nat} {p : Pol} (hp : PolA W (.slice ao an ac) (.slice bo bn bc) (.slice co cn cc) (.slice jo jn jc) p) {q : Qry} (hq : ReadsS W (.slice wo wn wc) q.2.2.2) (hq2 : ∀ k, (.slice wo wn wc : Value).ownBlock = some k → k < W.heap.size) (x : Int) (h0 : 0 ≤ x) (h1 : x ≤ 18446744073709551615) :
 Calls Tryz.prog 7 #[.agg #[.slice ao an ac, .slice bo bn bc, .slice co cn cc, .slice jo jn jc], qryV q (.slice wo wn wc), .int .u64 x] W fun e w' => e = .returned (.bool true) ∧ Below W.heap.size W w' := by
 obtain ⟨N, rfl⟩ := Int.eq_ofNat_of_zero_le h0
 exact (universeReached_core hp ⟨hq, fun k hk => ⟨hq2 k hk, trivial⟩⟩ N (by omega)).mono fun e w' h => ⟨h.1, h.2.out.below (Nat.le_refl _) (fun _ _ x => x.elim)⟩
end Go.Proofs.YtckikkkdabpjkaaGreat
