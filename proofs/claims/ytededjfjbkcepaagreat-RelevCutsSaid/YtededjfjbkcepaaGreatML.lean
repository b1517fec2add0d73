/-
 The document's Names of a policy.
-/
import Derived.Test.YtededjfjbkcepaaGreatMC
import Derived.Test.YtededjfjbkcepaaGreatPolPrins
import Derived.Test.YtededjfjbkcepaaGreatKitSq
import Derived.Test.YtededjfjbkcepaaGreatPolPrinsP
import Derived.Test.YtededjfjbkcepaaGreatMK
set_option linter.unusedVariables false
set_option linter.unusedSimpArgs false
set_option linter.unnecessarySimpa false
namespace Go.Proofs.YtededjfjbkcepaaGreat
open Go.ChangeShapes Go.WideShapes Go.ChangeAt Go.RowKit Go.Deep

set_option maxRecDepth 100000
set_option maxHeartbeats 6400000
theorem rnames_spec {W : World} {v0 v1 v2 v3 : Value} {p : Pol} {P : Nat → Prop} (h : PolX W v0 v1 v2 v3 p P) (hl : FewR p) :
 Calls Tryz.prog 50 #[.agg #[v0, v1, v2, v3]] W fun e W' => ∃ ao cap, e = .returned (.slice ao (tabL (namesA p)).length cap) ∧ Hid (KF W W') := by
 have HRO : Hid (∀ w, KF W w → Calls Tryz.prog 92 #[.agg #[v0, v1, v2, v3]] w fun e W' => ∃ v', e = .returned v' ∧ Hid (KF w W' ∧ RdK rolE W' v' (rolesL p))) := fun w hk => rroles_spec (h.into hk (fun _ _ _ x => x) (fun _ _ x => x)) hl
 have HRN := Lib.hid (roles_len hl)
 obtain ⟨l0, l1, l2, l3⟩ := p
 obtain ⟨hl0, hl1, hl2, hl3, hlw⟩ := hl
 simp only at hl0 hl1 hl2 hl3 hlw
 obtain ⟨h0, h1, h2, h3⟩ := h
 simp only at h0 h1 h2 h3
 obtain ⟨lv, hlv, h3r, h3q⟩ := id h3
 obtain ⟨ao0, cp0, hv0, hle0, hr0⟩ := id h0.1.1
 obtain ⟨ao1, cp1, hv1, hle1, hr1⟩ := id h1.1.1
 obtain ⟨ao2, cp2, hv2, hle2, hr2⟩ := id h2.1.1
 obtain ⟨ao3, cp3, hv3, hle3, hr3⟩ := id h3r.1.1
 subst hv0 hv1 hv2 hv3
 clear hr0 hr1 hr2 hr3
 obtain ⟨n0, hn0⟩ : ∃ n, l0.length = n := ⟨_, rfl⟩
 obtain ⟨n1, hn1⟩ : ∃ n, l1.length = n := ⟨_, rfl⟩
 obtain ⟨n2, hn2⟩ : ∃ n, l2.length = n := ⟨_, rfl⟩
 obtain ⟨n3, hn3⟩ : ∃ n, l3.length = n := ⟨_, rfl⟩
 rw [hn0] at h0 hle0 hl0 ⊢
 rw [hn1] at h1 hle1 hl1 ⊢
 rw [hn2] at h2 hle2 hl2 ⊢
 rw [hn3] at hlv hl3
 rw [hlv] at h3 h3r hle3 ⊢
 rw [hn0, hn1, hn2, hlv] at HRO
 have HN0 := Lib.hid hn0
 have HN1 := Lib.hid hn1
 have HN2 := Lib.hid hn2
 have HN3 := Lib.hid hn3
 have HLV := Lib.hid hlv
 have HLW := Lib.hid hlw
 have ha := (MapKept.heap_alloc W (bP ao0 n0 cp0 ao1 n1 cp1 ao2 n2 cp2 ao3 n3 cp3)).1
 obtain ⟨WB, hWB⟩ : ∃ q, W.alloc (bP ao0 n0 cp0 ao1 n1 cp1 ao2 n2 cp2 ao3 n3 cp3) = q := ⟨_, rfl⟩
 have hkA : KF W WB := by rw [← hWB]; exact (Keeps.refl _ _).alloc _
 rw [hWB] at ha
 have HS := Lib.hid ha
 have HK0 := Lib.hid hkA
 have HV0 : Hid (RdK stmE WB (.slice ao0 n0 cp0) l0) := h0.1.1.keeps hkA
 have HV1 : Hid (RdK rolE WB (.slice ao1 n1 cp1) l1) := h1.1.1.keeps hkA
 have HV2 : Hid (RdK rolE WB (.slice ao2 n2 cp2) l2) := h2.1.1.keeps hkA
 have HV3 : Hid (RdK qE WB (.slice ao3 n3 cp3) lv) := h3r.1.1.keeps hkA
 have HQ : Hid (∀ (j : Nat) (q : Qry) (qv : QV), l3[j]? = some q → lv[j]? = some qv → RelX W qv q P) := h3q
 obtain ⟨LB, hLB⟩ : ∃ q, WB.heap.size = q := ⟨_, rfl⟩
 have HLB := Lib.hid hLB
 clear ha hkA h0 h1 h2 h3 h3r h3q hlv hn0 hn1 hn2 hn3 hlw hLB
 have HRL : Hid (tabL (namesA (l0, l1, l2, l3)) = ((rolesL (l0, l1, l2, l3)).map (·.2) ++ l0.flatMap viasS).foldl putS []) := (puts_tab _).symm
 generalize tabL (namesA (l0, l1, l2, l3)) = res at *
 generalize rolesL (l0, l1, l2, l3) = L at *
 have HM1 : Hid (∀ i, ((l0.take i).flatMap viasS).length ≤ 1 * i) := fun i => by have := flat_len_le viasS_len (l0.take i); rw [List.length_take] at this; omega
 have HM2 : Hid (∀ i, ((l3.take i).flatMap (fun q => q.2.2.2)).length ≤ 20 * i) := fun i => by
  have := flat_len_mem (f := fun q : Qry => q.2.2.2) (m := 20) (l3.take i) (fun q hq => HLW.out q (List.mem_of_mem_take hq))
  have e : (l3.take i).length ≤ i := by rw [List.length_take]; omega
  omega
 clear HV1 HV2
 go_enter Tryz.func50, Tryz.ntmps50
 go_upto_region 1 with fail
 clear hWB
 obtain ⟨Sc0, Sf0, Sc1, Sf1, Sc2, Sf2, Sc3, Sf3⟩ := cf4 HS.out
 go_wp2_with fail
 refine (HRO.out _ HK0.out).mono ?_
 rintro e WC ⟨v', rfl, hk⟩
 obtain ⟨aoR, cpR, hvr, hleR, hrr⟩ := id hk.out.2
 obtain ⟨nR, hnR⟩ : ∃ n, L.length = n := ⟨_, rfl⟩
 rw [hnR] at hvr hleR HRN
 subst hvr
 have hnr := HRN.out
 have HNR := Lib.hid hnR
 have HVR : Hid (RdK rolE WC (.slice aoR nR cpR) L) := hk.out.2
 replace HV0 := Lib.hid (HV0.out.keeps hk.out.1)
 replace HV3 := Lib.hid (HV3.out.keeps hk.out.1)
 replace HS := Lib.hid ((hk.out.1.block _ (lt_of_heap HS.out) (fun x => x)).trans HS.out)
 replace HK0 := Lib.hid (HK0.out.trans hk.out.1)
 clear hk hrr hnR HRO Sc0 Sf0 Sc1 Sf1 Sc2 Sf2 Sc3 Sf3
 have HST : Hid (KF WC WC ∧ ReadsS WC (.slice none 0 0) (((L.take 0).map (·.2)).foldl putS [])) := ⟨Keeps.refl _ _, none, 0, rfl, Nat.le_refl _, fun h => absurd h (by simp)⟩
 go_wp2_with fail
 go_loopg [3, 11] nR (fun g ov t wx => ∃ i : Nat, i ≤ nR ∧ g = nR - i ∧ t = .int .i64 i ∧ Hid (KF WC wx ∧ ReadsS wx ov (((L.take i).map (·.2)).foldl putS [])))
 case atStart => exact ⟨0, Nat.zero_le _, rfl, rfl, HST⟩
 case round =>
  obtain ⟨i, hi, rfl, rfl, HI⟩ := hrel
  clear HST 
  by_cases hlt : i < nR
  ·skip
   have hiI : (i : Int) < (nR : Int) := by omega
   have hwi : IntKind.i64.wrap ((i : Int) + 1) = (i : Int) + 1 := IntWalk.i64_in _ (by omega)
   have hrd := HVR.out.keeps HI.out.1
   obtain ⟨aoz, cpz, ez, hez, hrz⟩ := hrd
   have hll : L.length = nR := by simpa using (Value.slice.inj ez).2.1.symm
   obtain ⟨y, hy⟩ : ∃ y, L[i]? = some y := ⟨_, List.getElem?_eq_getElem (by rw [hll]; exact hlt)⟩
   obtain ⟨g, off, hao, hg, hcc⟩ := hrz (by omega)
   simp only [Value.slice.injEq] at ez
   obtain ⟨rfl, hzz, rfl⟩ := ez
   subst hao
   have hicap : i < cpR := by omega
   have hc := hcc i y hy
   have HY := Lib.hid hy
   obtain ⟨yr1, yr2⟩ := y
   clear hcc hrz hez hzz hy hll
   have c0 : wr.cell? ⟨g, off + i * 2, none⟩ = some (.string ⟨yr1.toArray⟩) := hc 0 _ rfl
   have c1 : wr.cell? ⟨g, off + i * 2 + 1, none⟩ = some (.string ⟨yr2.toArray⟩) := hc 1 _ rfl
   clear hc
   have hal := (MapKept.heap_alloc wr (bR yr1 yr2)).1
   have hka : KF wr (wr.alloc (bR yr1 yr2)) := (Keeps.refl _ _).alloc _
   obtain ⟨b, hb⟩ : ∃ b, wr.heap.size = b := ⟨_, rfl⟩
   rw [hb] at hal
   have HB := Lib.hid hal
   have hln : (((L.take i).map (·.2)).foldl putS []).length ≤ i := by
    have q := puts_len ((L.take i).map (·.2)) []
    have e : ((L.take i).map (·.2)).length ≤ i := by rw [List.length_map, List.length_take]; omega
    rw [List.length_nil] at q
    omega
   have HNX : Hid (((L.take (i + 1)).map (·.2)).foldl putS [] = putS (((L.take i).map (·.2)).foldl putS []) yr2) := by
    show _ = _
    rw [List.take_add_one, HY.out, List.map_append, List.foldl_append]
    rfl
   generalize ((L.take i).map (·.2)).foldl putS [] = acc at *
   have HO : Hid (KF WC (wr.alloc (bR yr1 yr2)) ∧ ReadsS (wr.alloc (bR yr1 yr2)) u3 acc) := ⟨HI.out.1.trans hka, HI.out.2.keeps hka⟩
   go_upto_region 5 with fail
   clear hal hka hb HI HY c0 c1
   generalize wr.alloc (bR yr1 yr2) = w1 at *
   obtain ⟨p0, f0, p1, f1⟩ := cf2 HB.out
   have HPU := Lib.hid (ref_put HO.out.2 (by omega) yr2)
   go_wp2_with fail
   refine HPU.out.mono ?_
   rintro e w2 ⟨v2, rfl, h2⟩
   clear p0 f0 p1 f1 HB
   have HN2 : Hid (KF WC w2 ∧ ReadsS w2 v2 (((L.take (i + 1)).map (·.2)).foldl putS [])) := ⟨HO.out.1.trans h2.out.1, by rw [HNX.out]; exact h2.out.2⟩
   clear h2 HPU
   clear HO HNX
   go_wp2_with fail
   go_roundg (nR - (i + 1))
   case measure => omega
   case rel => exact ⟨i + 1, by omega, rfl, by go_num, HN2⟩
  ·obtain rfl : nR = i := by omega
   have hiI : ¬ (nR : Int) < (nR : Int) := by omega
   obtain ⟨m1, hm1⟩ : ∃ q, (L.map (·.2)).foldl putS [] = q := ⟨_, rfl⟩
   have q := HI.out.2
   rw [List.take_of_length_le (l := L) (by rw [HNR.out]; exact Nat.le_refl _), hm1] at q
   have Hm1 : Hid (m1.length ≤ 700) := by
    show _ ≤ _
    rw [← hm1]
    have e := puts_len (L.map (·.2)) []
    have e2 : (L.map (·.2)).length = nR := by rw [List.length_map, HNR.out]
    rw [List.length_nil] at e
    omega
   have HST : Hid (KF WC wr ∧ ReadsS wr u3 (((l0.take 0).flatMap viasS).foldl putS m1)) := ⟨HI.out.1, q⟩
   have HEm1 := Lib.hid hm1
   clear hm1 q
   obtain ⟨Sc0, Sf0, Sc1, Sf1, Sc2, Sf2, Sc3, Sf3⟩ := cf4 ((HI.out.1.block _ (lt_of_heap HS.out) (fun x => x)).trans HS.out)
   clear HI
   go_wp2_with fail
   go_loopg [3, 23] n0 (fun g ov t wx => ∃ i : Nat, i ≤ n0 ∧ g = n0 - i ∧ t = .int .i64 i ∧ Hid (KF WC wx ∧ ReadsS wx ov (((l0.take i).flatMap viasS).foldl putS m1)))
   case atStart => exact ⟨0, Nat.zero_le _, rfl, rfl, HST⟩
   case round =>
    obtain ⟨i, hi, rfl, rfl, HI⟩ := hrel
    clear HST Sc0 Sf0 Sc1 Sf1 Sc2 Sf2 Sc3 Sf3
    by_cases hlt : i < n0
    ·skip
     have hiI : (i : Int) < (n0 : Int) := by omega
     have hwi : IntKind.i64.wrap ((i : Int) + 1) = (i : Int) + 1 := IntWalk.i64_in _ (by omega)
     have hrd := HV0.out.keeps HI.out.1
     obtain ⟨aoz, cpz, ez, hez, hrz⟩ := hrd
     have hll : l0.length = n0 := by simpa using (Value.slice.inj ez).2.1.symm
     obtain ⟨y, hy⟩ : ∃ y, l0[i]? = some y := ⟨_, List.getElem?_eq_getElem (by rw [hll]; exact hlt)⟩
     obtain ⟨g, off, hao, hg, hcc⟩ := hrz (by omega)
     simp only [Value.slice.injEq] at ez
     obtain ⟨rfl, hzz, rfl⟩ := ez
     subst hao
     have hicap : i < cp0 := by omega
     have hc := hcc i y hy
     have HY := Lib.hid hy
     obtain ⟨⟨yh1, yh2⟩, yk, yo, ⟨ya1, ya2⟩, ⟨yb1, yb2⟩, yi⟩ := y
     clear hcc hrz hez hzz hy hll
     obtain ⟨c0, c1, c2, c3, c4, c5, c6, c7, c8⟩ := n9 hc
     clear hc
     have hal := (MapKept.heap_alloc wr (bM yk yh1 yh2 yo ya1 ya2 yb1 yb2 yi)).1
     have hka : KF wr (wr.alloc (bM yk yh1 yh2 yo ya1 ya2 yb1 yb2 yi)) := (Keeps.refl _ _).alloc _
     obtain ⟨b, hb⟩ : ∃ b, wr.heap.size = b := ⟨_, rfl⟩
     rw [hb] at hal
     have HB := Lib.hid hal
     have hml := Hm1.out
     have hln : (((l0.take i).flatMap viasS).foldl putS m1).length ≤ 700 + i := by
      have q := puts_len ((l0.take i).flatMap viasS) m1
      have e := HM1.out i
      omega
     have HNX : Hid (((l0.take (i + 1)).flatMap viasS).foldl putS m1 = (viasS ((yh1, yh2), yk, yo, (ya1, ya2), (yb1, yb2), yi)).foldl putS (((l0.take i).flatMap viasS).foldl putS m1)) := by
      show _ = _
      rw [flat_next viasS HY.out, List.foldl_append]
     generalize ((l0.take i).flatMap viasS).foldl putS m1 = acc at *
     have HO : Hid (KF WC (wr.alloc (bM yk yh1 yh2 yo ya1 ya2 yb1 yb2 yi)) ∧ ReadsS (wr.alloc (bM yk yh1 yh2 yo ya1 ya2 yb1 yb2 yi)) u3 acc) := ⟨HI.out.1.trans hka, HI.out.2.keeps hka⟩
     go_upto_region 10 with fail
     clear hal hka hb HI HY c0 c1 c2 c3 c4 c5 c6 c7 c8
     generalize wr.alloc (bM yk yh1 yh2 yo ya1 ya2 yb1 yb2 yi) = w1 at *
     obtain ⟨p0, f0, p1, f1, p2, f2, p3, f3, p4, f4, p5, f5, p6, f6, p7, f7, p8, f8⟩ := cf9 HB.out
     by_cases hk1 : yk = 3
     ·subst hk1
      have HNY : Hid (viasS ((yh1, yh2), 3, yo, (ya1, ya2), (yb1, yb2), yi) = [yi]) := rfl
      have HPU := Lib.hid (ref_put HO.out.2 (by omega) yi)
      go_wp2_with fail
      refine HPU.out.mono ?_
      rintro e w2 ⟨v2, rfl, h2⟩
      clear p0 f0 p1 f1 p2 f2 p3 f3 p4 f4 p5 f5 p6 f6 p7 f7 p8 f8 HB
      have HN2 : Hid (KF WC w2 ∧ ReadsS w2 v2 (((l0.take (i + 1)).flatMap viasS).foldl putS m1)) := ⟨HO.out.1.trans h2.out.1, by rw [HNX.out, HNY.out]; exact h2.out.2⟩
      clear h2 HPU HNY
      clear HO HNX
      go_wp2_with fail
      go_roundg (n0 - (i + 1))
      case measure => omega
      case rel => exact ⟨i + 1, by omega, rfl, by go_num, HN2⟩
     ·have hbk : (yk == 3) = false := beq_eq_false_iff_ne.2 hk1
      have HNY : Hid (viasS ((yh1, yh2), yk, yo, (ya1, ya2), (yb1, yb2), yi) = []) := if_neg hk1
      have HN2 : Hid (KF WC w1 ∧ ReadsS w1 u3 (((l0.take (i + 1)).flatMap viasS).foldl putS m1)) := ⟨HO.out.1, by rw [HNX.out, HNY.out]; exact HO.out.2⟩
      clear HNY
      clear HO HNX
      go_wp2_with fail
      go_roundg (n0 - (i + 1))
      case measure => omega
      case rel => exact ⟨i + 1, by omega, rfl, by go_num, HN2⟩
    ·obtain rfl : n0 = i := by omega
     have hiI : ¬ (n0 : Int) < (n0 : Int) := by omega
     have HE : Hid (KF W wr ∧ ReadsS wr u3 res) := ⟨HK0.out.trans HI.out.1, by
      have q := HI.out.2
      rw [List.take_of_length_le (l := l0) (by rw [HN0.out]; exact Nat.le_refl _)] at q
      rw [HRL.out]
      simp only [List.foldl_append]
      rw [HEm1.out]
      exact q⟩
     obtain ⟨aoE, cpE, hvE, _⟩ := HE.out.2
     rw [hvE]
     clear HI
     go_wp2_with fail
     go_ret
     exact ⟨⟨_, _, rfl⟩, Lib.hid HE.out.1⟩
end Go.Proofs.YtededjfjbkcepaaGreat
/-
 Fits of a policy: the program's and the document's.
-/
set_option linter.unusedVariables false
set_option linter.unusedSimpArgs false
set_option linter.unnecessarySimpa false
namespace Go.Proofs.YtededjfjbkcepaaGreat
open Go.ChangeShapes Go.WideShapes Go.ChangeAt Go.RowKit Go.Deep
set_option maxRecDepth 100000
set_option maxHeartbeats 3200000
theorem prinsA_len {p : Pol} (hl : FewR p) : (prinsA p).length ≤ 10000 := by
 have h1 := roles_len hl
 have h2 := flat_len_le (f := prinsS) (m := 1) prinsS_len p.1
 have h3 := flat_len_mem (f := fun q : Qry => q.2.2.2) (m := 20) p.2.2.2 (fun q hq => hl.2.2.2.2 q hq)
 obtain ⟨q0, q1, q2, q3, _⟩ := hl
 unfold prinsA
 simp only [List.length_append, List.length_map]
 omega
theorem namesA_len {p : Pol} (hl : FewR p) : (namesA p).length ≤ 10000 := by
 have h1 := roles_len hl
 have h2 := flat_len_le (f := viasS) (m := 1) viasS_len p.1
 obtain ⟨q0, q1, q2, q3, _⟩ := hl
 unfold namesA
 simp only [List.length_append, List.length_map]
 omega
theorem pfits_spec {W : World} {v0 v1 v2 v3 : Value} {p : Pol} {P : Nat → Prop} (h : PolX W v0 v1 v2 v3 p P) (hl : FewR p) :
 Calls Tryz.prog 137 #[.agg #[v0, v1, v2, v3]] W fun e W' => e = .returned (.bool (fitsPB p)) ∧ Hid (KF W W') := by
 have HPR : Hid (∀ w, KF W w → Calls Tryz.prog 175 #[.agg #[v0, v1, v2, v3]] w fun e W' => ∃ ao cap, e = .returned (.slice ao (tabL (prinsA p)).length cap) ∧ Hid (KF w W')) := fun w hk => (pprins_spec (h.into hk (fun _ _ _ x => x) (fun _ _ x => x)) hl).mono fun e w' ⟨v, e1, hv⟩ => by
  obtain ⟨ao, cap, hv2, _⟩ := hv.out.1.reads
  exact ⟨ao, cap, by rw [e1, hv2], hv.out.2⟩
 have HNM : Hid (∀ w, KF W w → Calls Tryz.prog 176 #[.agg #[v0, v1, v2, v3]] w fun e W' => ∃ ao cap, e = .returned (.slice ao (tabL (namesA p)).length cap) ∧ Hid (KF w W')) := fun w hk => (pnames_spec (h.into hk (fun _ _ _ x => x) (fun _ _ x => x)) hl).mono fun e w' ⟨v, e1, hv⟩ => by
  obtain ⟨ao, cap, hv2, _⟩ := hv.out.1.reads
  exact ⟨ao, cap, by rw [e1, hv2], hv.out.2⟩
 obtain ⟨R, hR⟩ : ∃ R, fitsPB p = R := ⟨_, rfl⟩
 have HD : Hid (R = (decide (p.1.length ≤ 80 ∧ p.2.1.length ≤ 40 ∧ p.2.2.1.length ≤ 40 ∧ p.2.2.2.length ≤ 16) && (decide ((tabL (prinsA p)).length ≤ 16) && decide ((tabL (namesA p)).length ≤ 12)))) := hR.symm
 rw [hR]
 obtain ⟨nP, hnP⟩ : ∃ q, (tabL (prinsA p)).length = q := ⟨_, rfl⟩
 obtain ⟨nN, hnN⟩ : ∃ q, (tabL (namesA p)).length = q := ⟨_, rfl⟩
 rw [hnP] at HPR HD
 rw [hnN] at HNM HD
 have hnP2 : nP ≤ 10000 := by
  rw [← hnP]
  exact Nat.le_trans (tab_len _) (prinsA_len hl)
 have hnN2 : nN ≤ 10000 := by
  rw [← hnN]
  exact Nat.le_trans (tab_len _) (namesA_len hl)
 clear hR hnP hnN
 obtain ⟨l0, l1, l2, l3⟩ := p
 simp only at HD
 obtain ⟨hl0, hl1, hl2, hl3, hlw⟩ := hl
 simp only at hl0 hl1 hl2 hl3 hlw
 obtain ⟨h0, h1, h2, h3⟩ := h
 simp only at h0 h1 h2 h3
 obtain ⟨lv, hlv, h3r, h3q⟩ := id h3
 obtain ⟨ao0, cp0, hv0, hle0, hr0⟩ := id h0.1.1
 obtain ⟨ao1, cp1, hv1, hle1, hr1⟩ := id h1.1.1
 obtain ⟨ao2, cp2, hv2, hle2, hr2⟩ := id h2.1.1
 obtain ⟨ao3, cp3, hv3, hle3, hr3⟩ := id h3r.1.1
 subst hv0 hv1 hv2 hv3
 clear hr0 hr1 hr2 hr3
 obtain ⟨n0, hn0⟩ : ∃ n, l0.length = n := ⟨_, rfl⟩
 obtain ⟨n1, hn1⟩ : ∃ n, l1.length = n := ⟨_, rfl⟩
 obtain ⟨n2, hn2⟩ : ∃ n, l2.length = n := ⟨_, rfl⟩
 obtain ⟨n3, hn3⟩ : ∃ n, l3.length = n := ⟨_, rfl⟩
 rw [hn0] at h0 hle0 hl0 ⊢
 rw [hn1] at h1 hle1 hl1 ⊢
 rw [hn2] at h2 hle2 hl2 ⊢
 rw [hn3] at hlv hl3
 rw [hlv] at h3 h3r hle3 ⊢
 rw [hn0, hn1, hn2, hlv] at HPR HNM
 rw [hn0, hn1, hn2, hn3] at HD
 have HN0 := Lib.hid hn0
 have HN1 := Lib.hid hn1
 have HN2 := Lib.hid hn2
 have HN3 := Lib.hid hn3
 have HLV := Lib.hid hlv
 have HLW := Lib.hid hlw
 have ha := (MapKept.heap_alloc W (bP ao0 n0 cp0 ao1 n1 cp1 ao2 n2 cp2 ao3 n3 cp3)).1
 obtain ⟨WB, hWB⟩ : ∃ q, W.alloc (bP ao0 n0 cp0 ao1 n1 cp1 ao2 n2 cp2 ao3 n3 cp3) = q := ⟨_, rfl⟩
 have hkA : KF W WB := by rw [← hWB]; exact (Keeps.refl _ _).alloc _
 rw [hWB] at ha
 have HS := Lib.hid ha
 have HK0 := Lib.hid hkA
 have HV0 : Hid (RdK stmE WB (.slice ao0 n0 cp0) l0) := h0.1.1.keeps hkA
 have HV1 : Hid (RdK rolE WB (.slice ao1 n1 cp1) l1) := h1.1.1.keeps hkA
 have HV2 : Hid (RdK rolE WB (.slice ao2 n2 cp2) l2) := h2.1.1.keeps hkA
 have HV3 : Hid (RdK qE WB (.slice ao3 n3 cp3) lv) := h3r.1.1.keeps hkA
 have HQ : Hid (∀ (j : Nat) (q : Qry) (qv : QV), l3[j]? = some q → lv[j]? = some qv → RelX W qv q P) := h3q
 obtain ⟨LB, hLB⟩ : ∃ q, WB.heap.size = q := ⟨_, rfl⟩
 have HLB := Lib.hid hLB
 clear ha hkA h0 h1 h2 h3 h3r h3q hlv hn0 hn1 hn2 hn3 hlw hLB
 clear HV0 HV1 HV2 HV3 HQ HN0 HN1 HN2 HN3 HLV HLW
 by_cases hc0 : n0 ≤ 80
 case neg =>
  have hz0 : ¬ (n0 : Int) ≤ 80 := by omega
  have hy0 : (80 : Int) < (n0 : Int) := by omega
  have e : Hid (R = false) := show R = false by rw [HD.out, decide_eq_false (show ¬ (n0 ≤ 80 ∧ n1 ≤ 40 ∧ n2 ≤ 40 ∧ n3 ≤ 16) by omega)]; rfl
  go_enter Tryz.func137, Tryz.ntmps137
  go_upto_region 1 with fail
  clear hWB
  obtain ⟨Sc0, Sf0, Sc1, Sf1, Sc2, Sf2, Sc3, Sf3⟩ := cf4 HS.out
  go_wp2_with fail
  go_ret
  exact ⟨by rw [e.out]; rfl, HK0⟩
 have hz0 : (n0 : Int) ≤ 80 := by omega
 have hy0 : ¬ (80 : Int) < (n0 : Int) := by omega
 by_cases hc1 : n1 ≤ 40
 case neg =>
  have hz1 : ¬ (n1 : Int) ≤ 40 := by omega
  have hy1 : (40 : Int) < (n1 : Int) := by omega
  have e : Hid (R = false) := show R = false by rw [HD.out, decide_eq_false (show ¬ (n0 ≤ 80 ∧ n1 ≤ 40 ∧ n2 ≤ 40 ∧ n3 ≤ 16) by omega)]; rfl
  go_enter Tryz.func137, Tryz.ntmps137
  go_upto_region 1 with fail
  clear hWB
  obtain ⟨Sc0, Sf0, Sc1, Sf1, Sc2, Sf2, Sc3, Sf3⟩ := cf4 HS.out
  go_wp2_with fail
  go_ret
  exact ⟨by rw [e.out]; rfl, HK0⟩
 have hz1 : (n1 : Int) ≤ 40 := by omega
 have hy1 : ¬ (40 : Int) < (n1 : Int) := by omega
 by_cases hc2 : n2 ≤ 40
 case neg =>
  have hz2 : ¬ (n2 : Int) ≤ 40 := by omega
  have hy2 : (40 : Int) < (n2 : Int) := by omega
  have e : Hid (R = false) := show R = false by rw [HD.out, decide_eq_false (show ¬ (n0 ≤ 80 ∧ n1 ≤ 40 ∧ n2 ≤ 40 ∧ n3 ≤ 16) by omega)]; rfl
  go_enter Tryz.func137, Tryz.ntmps137
  go_upto_region 1 with fail
  clear hWB
  obtain ⟨Sc0, Sf0, Sc1, Sf1, Sc2, Sf2, Sc3, Sf3⟩ := cf4 HS.out
  go_wp2_with fail
  go_ret
  exact ⟨by rw [e.out]; rfl, HK0⟩
 have hz2 : (n2 : Int) ≤ 40 := by omega
 have hy2 : ¬ (40 : Int) < (n2 : Int) := by omega
 by_cases hc3 : n3 ≤ 16
 case neg =>
  have hz3 : ¬ (n3 : Int) ≤ 16 := by omega
  have hy3 : (16 : Int) < (n3 : Int) := by omega
  have e : Hid (R = false) := show R = false by rw [HD.out, decide_eq_false (show ¬ (n0 ≤ 80 ∧ n1 ≤ 40 ∧ n2 ≤ 40 ∧ n3 ≤ 16) by omega)]; rfl
  go_enter Tryz.func137, Tryz.ntmps137
  go_upto_region 1 with fail
  clear hWB
  obtain ⟨Sc0, Sf0, Sc1, Sf1, Sc2, Sf2, Sc3, Sf3⟩ := cf4 HS.out
  go_wp2_with fail
  go_ret
  exact ⟨by rw [e.out]; rfl, HK0⟩
 have hz3 : (n3 : Int) ≤ 16 := by omega
 have hy3 : ¬ (16 : Int) < (n3 : Int) := by omega
 have HD1 : Hid (R = (decide (nP ≤ 16) && decide (nN ≤ 12))) := show R = _ by rw [HD.out, decide_eq_true (show n0 ≤ 80 ∧ n1 ≤ 40 ∧ n2 ≤ 40 ∧ n3 ≤ 16 from ⟨hc0, hc1, hc2, hc3⟩), Bool.true_and]
 clear HD
 go_enter Tryz.func137, Tryz.ntmps137
 go_upto_region 1 with fail
 clear hWB
 obtain ⟨Sc0, Sf0, Sc1, Sf1, Sc2, Sf2, Sc3, Sf3⟩ := cf4 HS.out
 go_wp2_with fail
 refine (HPR.out _ HK0.out).mono ?_
 rintro e w1 ⟨aoP, cpP, rfl, hk⟩
 have HK1 : Hid (KF W w1) := HK0.out.trans hk.out
 have hb := (hk.out.block _ (lt_of_heap HS.out) (fun x => x)).trans HS.out
 clear HPR hk Sc0 Sf0 Sc1 Sf1 Sc2 Sf2 Sc3 Sf3
 obtain ⟨Sc0, Sf0, Sc1, Sf1, Sc2, Sf2, Sc3, Sf3⟩ := cf4 hb
 clear hb
 by_cases hp : nP ≤ 16
 case neg =>
  have hpI : ¬ (nP : Int) ≤ 16 := by omega
  have e : Hid (R = false) := show R = false by rw [HD1.out, decide_eq_false hp]; rfl
  go_wp2_with fail
  go_ret
  exact ⟨by rw [e.out]; rfl, HK1⟩
 have hpI : (nP : Int) ≤ 16 := by omega
 go_wp2_with fail
 refine (HNM.out _ HK1.out).mono ?_
 rintro e w2 ⟨aoN, cpN, rfl, hk⟩
 have HK2 : Hid (KF W w2) := HK1.out.trans hk.out
 clear HNM hk Sc0 Sf0 Sc1 Sf1 Sc2 Sf2 Sc3 Sf3
 by_cases hn : nN ≤ 12
 case neg =>
  have hnI : ¬ (nN : Int) ≤ 12 := by omega
  have e : Hid (R = false) := show R = false by rw [HD1.out, decide_eq_false hn, Bool.and_false]
  go_wp2_with fail
  go_ret
  exact ⟨by rw [e.out]; first | rfl | (show Ending.returned (Value.bool (decide ((nN : Int) ≤ 12))) = _; rw [decide_eq_false (show ¬ (nN : Int) ≤ 12 by omega)]), HK2⟩
 have hnI : (nN : Int) ≤ 12 := by omega
 have e : Hid (R = true) := show R = true by rw [HD1.out, decide_eq_true hp, decide_eq_true hn]; rfl
 go_wp2_with fail
 go_ret
 exact ⟨by rw [e.out]; first | rfl | (show Ending.returned (Value.bool (decide ((nN : Int) ≤ 12))) = _; rw [decide_eq_true hnI]), HK2⟩
theorem rfits_spec2 {W : World} {v0 v1 v2 v3 : Value} {p : Pol} {P : Nat → Prop} (h : PolX W v0 v1 v2 v3 p P) (hl : FewR p) :
 Calls Tryz.prog 91 #[.agg #[v0, v1, v2, v3]] W fun e W' => e = .returned (.bool (fitsPB p)) ∧ Hid (KF W W') := by
 have HPR : Hid (∀ w, KF W w → Calls Tryz.prog 49 #[.agg #[v0, v1, v2, v3]] w fun e W' => ∃ ao cap, e = .returned (.slice ao (tabL (prinsA p)).length cap) ∧ Hid (KF w W')) := fun w hk => rprins_spec (h.into hk (fun _ _ _ x => x) (fun _ _ x => x)) hl
 have HNM : Hid (∀ w, KF W w → Calls Tryz.prog 50 #[.agg #[v0, v1, v2, v3]] w fun e W' => ∃ ao cap, e = .returned (.slice ao (tabL (namesA p)).length cap) ∧ Hid (KF w W')) := fun w hk => rnames_spec (h.into hk (fun _ _ _ x => x) (fun _ _ x => x)) hl
 obtain ⟨R, hR⟩ : ∃ R, fitsPB p = R := ⟨_, rfl⟩
 have HD : Hid (R = (decide (p.1.length ≤ 80 ∧ p.2.1.length ≤ 40 ∧ p.2.2.1.length ≤ 40 ∧ p.2.2.2.length ≤ 16) && (decide ((tabL (prinsA p)).length ≤ 16) && decide ((tabL (namesA p)).length ≤ 12)))) := hR.symm
 rw [hR]
 obtain ⟨nP, hnP⟩ : ∃ q, (tabL (prinsA p)).length = q := ⟨_, rfl⟩
 obtain ⟨nN, hnN⟩ : ∃ q, (tabL (namesA p)).length = q := ⟨_, rfl⟩
 rw [hnP] at HPR HD
 rw [hnN] at HNM HD
 have hnP2 : nP ≤ 10000 := by
  rw [← hnP]
  exact Nat.le_trans (tab_len _) (prinsA_len hl)
 have hnN2 : nN ≤ 10000 := by
  rw [← hnN]
  exact Nat.le_trans (tab_len _) (namesA_len hl)
 clear hR hnP hnN
 obtain ⟨l0, l1, l2, l3⟩ := p
 simp only at HD
 obtain ⟨hl0, hl1, hl2, hl3, hlw⟩ := hl
 simp only at hl0 hl1 hl2 hl3 hlw
 obtain ⟨h0, h1, h2, h3⟩ := h
 simp only at h0 h1 h2 h3
 obtain ⟨lv, hlv, h3r, h3q⟩ := id h3
 obtain ⟨ao0, cp0, hv0, hle0, hr0⟩ := id h0.1.1
 obtain ⟨ao1, cp1, hv1, hle1, hr1⟩ := id h1.1.1
 obtain ⟨ao2, cp2, hv2, hle2, hr2⟩ := id h2.1.1
 obtain ⟨ao3, cp3, hv3, hle3, hr3⟩ := id h3r.1.1
 subst hv0 hv1 hv2 hv3
 clear hr0 hr1 hr2 hr3
 obtain ⟨n0, hn0⟩ : ∃ n, l0.length = n := ⟨_, rfl⟩
 obtain ⟨n1, hn1⟩ : ∃ n, l1.length = n := ⟨_, rfl⟩
 obtain ⟨n2, hn2⟩ : ∃ n, l2.length = n := ⟨_, rfl⟩
 obtain ⟨n3, hn3⟩ : ∃ n, l3.length = n := ⟨_, rfl⟩
 rw [hn0] at h0 hle0 hl0 ⊢
 rw [hn1] at h1 hle1 hl1 ⊢
 rw [hn2] at h2 hle2 hl2 ⊢
 rw [hn3] at hlv hl3
 rw [hlv] at h3 h3r hle3 ⊢
 rw [hn0, hn1, hn2, hlv] at HPR HNM
 rw [hn0, hn1, hn2, hn3] at HD
 have HN0 := Lib.hid hn0
 have HN1 := Lib.hid hn1
 have HN2 := Lib.hid hn2
 have HN3 := Lib.hid hn3
 have HLV := Lib.hid hlv
 have HLW := Lib.hid hlw
 have ha := (MapKept.heap_alloc W (bP ao0 n0 cp0 ao1 n1 cp1 ao2 n2 cp2 ao3 n3 cp3)).1
 obtain ⟨WB, hWB⟩ : ∃ q, W.alloc (bP ao0 n0 cp0 ao1 n1 cp1 ao2 n2 cp2 ao3 n3 cp3) = q := ⟨_, rfl⟩
 have hkA : KF W WB := by rw [← hWB]; exact (Keeps.refl _ _).alloc _
 rw [hWB] at ha
 have HS := Lib.hid ha
 have HK0 := Lib.hid hkA
 have HV0 : Hid (RdK stmE WB (.slice ao0 n0 cp0) l0) := h0.1.1.keeps hkA
 have HV1 : Hid (RdK rolE WB (.slice ao1 n1 cp1) l1) := h1.1.1.keeps hkA
 have HV2 : Hid (RdK rolE WB (.slice ao2 n2 cp2) l2) := h2.1.1.keeps hkA
 have HV3 : Hid (RdK qE WB (.slice ao3 n3 cp3) lv) := h3r.1.1.keeps hkA
 have HQ : Hid (∀ (j : Nat) (q : Qry) (qv : QV), l3[j]? = some q → lv[j]? = some qv → RelX W qv q P) := h3q
 obtain ⟨LB, hLB⟩ : ∃ q, WB.heap.size = q := ⟨_, rfl⟩
 have HLB := Lib.hid hLB
 clear ha hkA h0 h1 h2 h3 h3r h3q hlv hn0 hn1 hn2 hn3 hlw hLB
 clear HV0 HV1 HV2 HV3 HQ HN0 HN1 HN2 HN3 HLV HLW
 by_cases hc0 : n0 ≤ 80
 case neg =>
  have hz0 : ¬ (n0 : Int) ≤ 80 := by omega
  have hy0 : (80 : Int) < (n0 : Int) := by omega
  have e : Hid (R = false) := show R = false by rw [HD.out, decide_eq_false (show ¬ (n0 ≤ 80 ∧ n1 ≤ 40 ∧ n2 ≤ 40 ∧ n3 ≤ 16) by omega)]; rfl
  go_enter Tryz.func91, Tryz.ntmps91
  go_upto_region 1 with fail
  clear hWB
  obtain ⟨Sc0, Sf0, Sc1, Sf1, Sc2, Sf2, Sc3, Sf3⟩ := cf4 HS.out
  go_wp2_with fail
  go_ret
  exact ⟨by rw [e.out]; rfl, HK0⟩
 have hz0 : (n0 : Int) ≤ 80 := by omega
 have hy0 : ¬ (80 : Int) < (n0 : Int) := by omega
 by_cases hc1 : n1 ≤ 40
 case neg =>
  have hz1 : ¬ (n1 : Int) ≤ 40 := by omega
  have hy1 : (40 : Int) < (n1 : Int) := by omega
  have e : Hid (R = false) := show R = false by rw [HD.out, decide_eq_false (show ¬ (n0 ≤ 80 ∧ n1 ≤ 40 ∧ n2 ≤ 40 ∧ n3 ≤ 16) by omega)]; rfl
  go_enter Tryz.func91, Tryz.ntmps91
  go_upto_region 1 with fail
  clear hWB
  obtain ⟨Sc0, Sf0, Sc1, Sf1, Sc2, Sf2, Sc3, Sf3⟩ := cf4 HS.out
  go_wp2_with fail
  go_ret
  exact ⟨by rw [e.out]; rfl, HK0⟩
 have hz1 : (n1 : Int) ≤ 40 := by omega
 have hy1 : ¬ (40 : Int) < (n1 : Int) := by omega
 by_cases hc2 : n2 ≤ 40
 case neg =>
  have hz2 : ¬ (n2 : Int) ≤ 40 := by omega
  have hy2 : (40 : Int) < (n2 : Int) := by omega
  have e : Hid (R = false) := show R = false by rw [HD.out, decide_eq_false (show ¬ (n0 ≤ 80 ∧ n1 ≤ 40 ∧ n2 ≤ 40 ∧ n3 ≤ 16) by omega)]; rfl
  go_enter Tryz.func91, Tryz.ntmps91
  go_upto_region 1 with fail
  clear hWB
  obtain ⟨Sc0, Sf0, Sc1, Sf1, Sc2, Sf2, Sc3, Sf3⟩ := cf4 HS.out
  go_wp2_with fail
  go_ret
  exact ⟨by rw [e.out]; rfl, HK0⟩
 have hz2 : (n2 : Int) ≤ 40 := by omega
 have hy2 : ¬ (40 : Int) < (n2 : Int) := by omega
 by_cases hc3 : n3 ≤ 16
 case neg =>
  have hz3 : ¬ (n3 : Int) ≤ 16 := by omega
  have hy3 : (16 : Int) < (n3 : Int) := by omega
  have e : Hid (R = false) := show R = false by rw [HD.out, decide_eq_false (show ¬ (n0 ≤ 80 ∧ n1 ≤ 40 ∧ n2 ≤ 40 ∧ n3 ≤ 16) by omega)]; rfl
  go_enter Tryz.func91, Tryz.ntmps91
  go_upto_region 1 with fail
  clear hWB
  obtain ⟨Sc0, Sf0, Sc1, Sf1, Sc2, Sf2, Sc3, Sf3⟩ := cf4 HS.out
  go_wp2_with fail
  go_ret
  exact ⟨by rw [e.out]; rfl, HK0⟩
 have hz3 : (n3 : Int) ≤ 16 := by omega
 have hy3 : ¬ (16 : Int) < (n3 : Int) := by omega
 have HD1 : Hid (R = (decide (nP ≤ 16) && decide (nN ≤ 12))) := show R = _ by rw [HD.out, decide_eq_true (show n0 ≤ 80 ∧ n1 ≤ 40 ∧ n2 ≤ 40 ∧ n3 ≤ 16 from ⟨hc0, hc1, hc2, hc3⟩), Bool.true_and]
 clear HD
 go_enter Tryz.func91, Tryz.ntmps91
 go_upto_region 1 with fail
 clear hWB
 obtain ⟨Sc0, Sf0, Sc1, Sf1, Sc2, Sf2, Sc3, Sf3⟩ := cf4 HS.out
 go_wp2_with fail
 refine (HPR.out _ HK0.out).mono ?_
 rintro e w1 ⟨aoP, cpP, rfl, hk⟩
 have HK1 : Hid (KF W w1) := HK0.out.trans hk.out
 have hb := (hk.out.block _ (lt_of_heap HS.out) (fun x => x)).trans HS.out
 clear HPR hk Sc0 Sf0 Sc1 Sf1 Sc2 Sf2 Sc3 Sf3
 obtain ⟨Sc0, Sf0, Sc1, Sf1, Sc2, Sf2, Sc3, Sf3⟩ := cf4 hb
 clear hb
 by_cases hp : nP ≤ 16
 case neg =>
  have hpI : ¬ (nP : Int) ≤ 16 := by omega
  have e : Hid (R = false) := show R = false by rw [HD1.out, decide_eq_false hp]; rfl
  go_wp2_with fail
  go_ret
  exact ⟨by rw [e.out]; rfl, HK1⟩
 have hpI : (nP : Int) ≤ 16 := by omega
 go_wp2_with fail
 refine (HNM.out _ HK1.out).mono ?_
 rintro e w2 ⟨aoN, cpN, rfl, hk⟩
 have HK2 : Hid (KF W w2) := HK1.out.trans hk.out
 clear HNM hk Sc0 Sf0 Sc1 Sf1 Sc2 Sf2 Sc3 Sf3
 by_cases hn : nN ≤ 12
 case neg =>
  have hnI : ¬ (nN : Int) ≤ 12 := by omega
  have e : Hid (R = false) := show R = false by rw [HD1.out, decide_eq_false hn, Bool.and_false]
  go_wp2_with fail
  go_ret
  exact ⟨by rw [e.out]; first | rfl | (show Ending.returned (Value.bool (decide ((nN : Int) ≤ 12))) = _; rw [decide_eq_false (show ¬ (nN : Int) ≤ 12 by omega)]), HK2⟩
 have hnI : (nN : Int) ≤ 12 := by omega
 have e : Hid (R = true) := show R = true by rw [HD1.out, decide_eq_true hp, decide_eq_true hn]; rfl
 go_wp2_with fail
 go_ret
 exact ⟨by rw [e.out]; first | rfl | (show Ending.returned (Value.bool (decide ((nN : Int) ≤ 12))) = _; rw [decide_eq_true hnI]), HK2⟩
end Go.Proofs.YtededjfjbkcepaaGreat
