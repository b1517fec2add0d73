/-
 The document's Prins of a policy.
-/
import Derived.Test.YtededjfjbkcepaaGreatMC
import Derived.Test.YtededjfjbkcepaaGreatPolRoles
import Derived.Test.YtededjfjbkcepaaGreatMJ
set_option linter.unusedVariables false
set_option linter.unusedSimpArgs false
set_option linter.unnecessarySimpa false
namespace Go.Proofs.YtededjfjbkcepaaGreat
open Go.ChangeShapes Go.WideShapes Go.ChangeAt Go.RowKit Go.Deep

theorem flat_len_mem {α β : Type} {f : α → List β} {m : Nat} : ∀ l : List α, (∀ x ∈ l, (f x).length ≤ m) → (l.flatMap f).length ≤ m * l.length
 | [], _ => Nat.zero_le _
 | x :: l, h => by
  have := h x (List.mem_cons_self ..)
  have := flat_len_mem l (fun y hy => h y (List.mem_cons_of_mem _ hy))
  rw [List.flatMap_cons, List.length_append, List.length_cons, Nat.mul_succ]
  omega
theorem roles_len {p : Pol} (h : FewR p) : (rolesL p).length ≤ 700 := by
 obtain ⟨h0, h1, h2, h3, _⟩ := h
 have a := flat_len_le rolesS_len p.1
 have b := flat_len_le rolesQ_len p.2.2.2
 unfold rolesL
 simp only [List.length_append]
 omega
theorem prinsS_len (x : Stm) : (prinsS x).length ≤ 1 := by
 unfold prinsS
 split <;> simp
theorem viasS_len (x : Stm) : (viasS x).length ≤ 1 := by
 unfold viasS
 split <;> simp
set_option maxRecDepth 100000
set_option maxHeartbeats 6400000
theorem rprins_spec {W : World} {v0 v1 v2 v3 : Value} {p : Pol} {P : Nat → Prop} (h : PolX W v0 v1 v2 v3 p P) (hl : FewR p) :
 Calls Tryz.prog 49 #[.agg #[v0, v1, v2, v3]] W fun e W' => ∃ ao cap, e = .returned (.slice ao (tabL (prinsA p)).length cap) ∧ Hid (KF W W') := by
 have HRO : Hid (∀ w, KF W w → Calls Tryz.prog 92 #[.agg #[v0, v1, v2, v3]] w fun e W' => ∃ v', e = .returned v' ∧ Hid (KF w W' ∧ RdK rolE W' v' (rolesL p))) := fun w hk => rroles_spec (h.into hk (fun _ _ _ x => x) (fun _ _ x => x)) hl
 have HRN := Lib.hid (roles_len hl)
 obtain ⟨l0, l1, l2, l3⟩ := p
 obtain ⟨hl0, hl1, hl2, hl3, hlw⟩ := hl
 simp only at hl0 hl1 hl2 hl3 hlw
 obtain ⟨h0, h1, h2, h3⟩ := h
 simp only at h0 h1 h2 h3
 obtain ⟨lv, hlv, h3r, h3q⟩ := id h3
 obtain ⟨ao0, cp0, hv0, hle0, hr0⟩ := id h0.1.1
 obtain ⟨ao1, cp1, hv1, hle1, hr1⟩ := id h1.1.1
 obtain ⟨ao2, cp2, hv2, hle2, hr2⟩ := id h2.1.1
 obtain ⟨ao3, cp3, hv3, hle3, hr3⟩ := id h3r.1.1
 subst hv0 hv1 hv2 hv3
 clear hr0 hr1 hr2 hr3
 obtain ⟨n0, hn0⟩ : ∃ n, l0.length = n := ⟨_, rfl⟩
 obtain ⟨n1, hn1⟩ : ∃ n, l1.length = n := ⟨_, rfl⟩
 obtain ⟨n2, hn2⟩ : ∃ n, l2.length = n := ⟨_, rfl⟩
 obtain ⟨n3, hn3⟩ : ∃ n, l3.length = n := ⟨_, rfl⟩
 rw [hn0] at h0 hle0 hl0 ⊢
 rw [hn1] at h1 hle1 hl1 ⊢
 rw [hn2] at h2 hle2 hl2 ⊢
 rw [hn3] at hlv hl3
 rw [hlv] at h3 h3r hle3 ⊢
 rw [hn0, hn1, hn2, hlv] at HRO
 have HN0 := Lib.hid hn0
 have HN1 := Lib.hid hn1
 have HN2 := Lib.hid hn2
 have HN3 := Lib.hid hn3
 have HLV := Lib.hid hlv
 have HLW := Lib.hid hlw
 have ha := (MapKept.heap_alloc W (bP ao0 n0 cp0 ao1 n1 cp1 ao2 n2 cp2 ao3 n3 cp3)).1
 obtain ⟨WB, hWB⟩ : ∃ q, W.alloc (bP ao0 n0 cp0 ao1 n1 cp1 ao2 n2 cp2 ao3 n3 cp3) = q := ⟨_, rfl⟩
 have hkA : KF W WB := by rw [← hWB]; exact (Keeps.refl _ _).alloc _
 rw [hWB] at ha
 have HS := Lib.hid ha
 have HK0 := Lib.hid hkA
 have HV0 : Hid (RdK stmE WB (.slice ao0 n0 cp0) l0) := h0.1.1.keeps hkA
 have HV1 : Hid (RdK rolE WB (.slice ao1 n1 cp1) l1) := h1.1.1.keeps hkA
 have HV2 : Hid (RdK rolE WB (.slice ao2 n2 cp2) l2) := h2.1.1.keeps hkA
 have HV3 : Hid (RdK qE WB (.slice ao3 n3 cp3) lv) := h3r.1.1.keeps hkA
 have HQ : Hid (∀ (j : Nat) (q : Qry) (qv : QV), l3[j]? = some q → lv[j]? = some qv → RelX W qv q P) := h3q
 obtain ⟨LB, hLB⟩ : ∃ q, WB.heap.size = q := ⟨_, rfl⟩
 have HLB := Lib.hid hLB
 clear ha hkA h0 h1 h2 h3 h3r h3q hlv hn0 hn1 hn2 hn3 hlw hLB
 have HRL : Hid (tabL (prinsA (l0, l1, l2, l3)) = ((rolesL (l0, l1, l2, l3)).map (·.1) ++ l0.flatMap prinsS ++ l3.flatMap (fun q => q.2.2.2)).foldl putS []) := (puts_tab _).symm
 generalize tabL (prinsA (l0, l1, l2, l3)) = res at *
 generalize rolesL (l0, l1, l2, l3) = L at *
 have HM1 : Hid (∀ i, ((l0.take i).flatMap prinsS).length ≤ 1 * i) := fun i => by have := flat_len_le prinsS_len (l0.take i); rw [List.length_take] at this; omega
 have HM2 : Hid (∀ i, ((l3.take i).flatMap (fun q => q.2.2.2)).length ≤ 20 * i) := fun i => by
  have := flat_len_mem (f := fun q : Qry => q.2.2.2) (m := 20) (l3.take i) (fun q hq => HLW.out q (List.mem_of_mem_take hq))
  have e : (l3.take i).length ≤ i := by rw [List.length_take]; omega
  omega
 clear HV1 HV2
 go_enter Tryz.func49, Tryz.ntmps49
 go_upto_region 1 with fail
 clear hWB
 obtain ⟨Sc0, Sf0, Sc1, Sf1, Sc2, Sf2, Sc3, Sf3⟩ := cf4 HS.out
 go_wp2_with fail
 refine (HRO.out _ HK0.out).mono ?_
 rintro e WC ⟨v', rfl, hk⟩
 obtain ⟨aoR, cpR, hvr, hleR, hrr⟩ := id hk.out.2
 obtain ⟨nR, hnR⟩ : ∃ n, L.length = n := ⟨_, rfl⟩
 rw [hnR] at hvr hleR HRN
 subst hvr
 have hnr := HRN.out
 have HNR := Lib.hid hnR
 have HVR : Hid (RdK rolE WC (.slice aoR nR cpR) L) := hk.out.2
 replace HV0 := Lib.hid (HV0.out.keeps hk.out.1)
 replace HV3 := Lib.hid (HV3.out.keeps hk.out.1)
 replace HS := Lib.hid ((hk.out.1.block _ (lt_of_heap HS.out) (fun x => x)).trans HS.out)
 replace HK0 := Lib.hid (HK0.out.trans hk.out.1)
 clear hk hrr hnR HRO Sc0 Sf0 Sc1 Sf1 Sc2 Sf2 Sc3 Sf3
 have HST : Hid (KF WC WC ∧ ReadsS WC (.slice none 0 0) (((L.take 0).map (·.1)).foldl putS [])) := ⟨Keeps.refl _ _, none, 0, rfl, Nat.le_refl _, fun h => absurd h (by simp)⟩
 go_wp2_with fail
 go_loopg [3, 15] nR (fun g ov t wx => ∃ i : Nat, i ≤ nR ∧ g = nR - i ∧ t = .int .i64 i ∧ Hid (KF WC wx ∧ ReadsS wx ov (((L.take i).map (·.1)).foldl putS [])))
 case atStart => exact ⟨0, Nat.zero_le _, rfl, rfl, HST⟩
 case round =>
  obtain ⟨i, hi, rfl, rfl, HI⟩ := hrel
  clear HST 
  by_cases hlt : i < nR
  ·skip
   have hiI : (i : Int) < (nR : Int) := by omega
   have hwi : IntKind.i64.wrap ((i : Int) + 1) = (i : Int) + 1 := IntWalk.i64_in _ (by omega)
   have hrd := HVR.out.keeps HI.out.1
   obtain ⟨aoz, cpz, ez, hez, hrz⟩ := hrd
   have hll : L.length = nR := by simpa using (Value.slice.inj ez).2.1.symm
   obtain ⟨y, hy⟩ : ∃ y, L[i]? = some y := ⟨_, List.getElem?_eq_getElem (by rw [hll]; exact hlt)⟩
   obtain ⟨g, off, hao, hg, hcc⟩ := hrz (by omega)
   simp only [Value.slice.injEq] at ez
   obtain ⟨rfl, hzz, rfl⟩ := ez
   subst hao
   have hicap : i < cpR := by omega
   have hc := hcc i y hy
   have HY := Lib.hid hy
   obtain ⟨yr1, yr2⟩ := y
   clear hcc hrz hez hzz hy hll
   have c0 : wr.cell? ⟨g, off + i * 2, none⟩ = some (.string ⟨yr1.toArray⟩) := hc 0 _ rfl
   have c1 : wr.cell? ⟨g, off + i * 2 + 1, none⟩ = some (.string ⟨yr2.toArray⟩) := hc 1 _ rfl
   clear hc
   have hal := (MapKept.heap_alloc wr (bR yr1 yr2)).1
   have hka : KF wr (wr.alloc (bR yr1 yr2)) := (Keeps.refl _ _).alloc _
   obtain ⟨b, hb⟩ : ∃ b, wr.heap.size = b := ⟨_, rfl⟩
   rw [hb] at hal
   have HB := Lib.hid hal
   have hln : (((L.take i).map (·.1)).foldl putS []).length ≤ i := by
    have q := puts_len ((L.take i).map (·.1)) []
    have e : ((L.take i).map (·.1)).length ≤ i := by rw [List.length_map, List.length_take]; omega
    rw [List.length_nil] at q
    omega
   have HNX : Hid (((L.take (i + 1)).map (·.1)).foldl putS [] = putS (((L.take i).map (·.1)).foldl putS []) yr1) := by
    show _ = _
    rw [List.take_add_one, HY.out, List.map_append, List.foldl_append]
    rfl
   generalize ((L.take i).map (·.1)).foldl putS [] = acc at *
   have HO : Hid (KF WC (wr.alloc (bR yr1 yr2)) ∧ ReadsS (wr.alloc (bR yr1 yr2)) u3 acc) := ⟨HI.out.1.trans hka, HI.out.2.keeps hka⟩
   go_upto_region 5 with fail
   clear hal hka hb HI HY c0 c1
   generalize wr.alloc (bR yr1 yr2) = w1 at *
   obtain ⟨p0, f0, p1, f1⟩ := cf2 HB.out
   have HPU := Lib.hid (ref_put HO.out.2 (by omega) yr1)
   go_wp2_with fail
   refine HPU.out.mono ?_
   rintro e w2 ⟨v2, rfl, h2⟩
   clear p0 f0 p1 f1 HB
   have HN2 : Hid (KF WC w2 ∧ ReadsS w2 v2 (((L.take (i + 1)).map (·.1)).foldl putS [])) := ⟨HO.out.1.trans h2.out.1, by rw [HNX.out]; exact h2.out.2⟩
   clear h2 HPU
   clear HO HNX
   go_wp2_with fail
   go_roundg (nR - (i + 1))
   case measure => omega
   case rel => exact ⟨i + 1, by omega, rfl, by go_num, HN2⟩
  ·obtain rfl : nR = i := by omega
   have hiI : ¬ (nR : Int) < (nR : Int) := by omega
   obtain ⟨m1, hm1⟩ : ∃ q, (L.map (·.1)).foldl putS [] = q := ⟨_, rfl⟩
   have q := HI.out.2
   rw [List.take_of_length_le (l := L) (by rw [HNR.out]; exact Nat.le_refl _), hm1] at q
   have Hm1 : Hid (m1.length ≤ 700) := by
    show _ ≤ _
    rw [← hm1]
    have e := puts_len (L.map (·.1)) []
    have e2 : (L.map (·.1)).length = nR := by rw [List.length_map, HNR.out]
    rw [List.length_nil] at e
    omega
   have HST : Hid (KF WC wr ∧ ReadsS wr u3 (((l0.take 0).flatMap prinsS).foldl putS m1)) := ⟨HI.out.1, q⟩
   have HEm1 := Lib.hid hm1
   clear hm1 q
   obtain ⟨Sc0, Sf0, Sc1, Sf1, Sc2, Sf2, Sc3, Sf3⟩ := cf4 ((HI.out.1.block _ (lt_of_heap HS.out) (fun x => x)).trans HS.out)
   clear HI
   go_wp2_with fail
   go_loopg [3, 27] n0 (fun g ov t wx => ∃ i : Nat, i ≤ n0 ∧ g = n0 - i ∧ t = .int .i64 i ∧ Hid (KF WC wx ∧ ReadsS wx ov (((l0.take i).flatMap prinsS).foldl putS m1)))
   case atStart => exact ⟨0, Nat.zero_le _, rfl, rfl, HST⟩
   case round =>
    obtain ⟨i, hi, rfl, rfl, HI⟩ := hrel
    clear HST Sc0 Sf0 Sc1 Sf1 Sc2 Sf2 Sc3 Sf3
    by_cases hlt : i < n0
    ·skip
     have hiI : (i : Int) < (n0 : Int) := by omega
     have hwi : IntKind.i64.wrap ((i : Int) + 1) = (i : Int) + 1 := IntWalk.i64_in _ (by omega)
     have hrd := HV0.out.keeps HI.out.1
     obtain ⟨aoz, cpz, ez, hez, hrz⟩ := hrd
     have hll : l0.length = n0 := by simpa using (Value.slice.inj ez).2.1.symm
     obtain ⟨y, hy⟩ : ∃ y, l0[i]? = some y := ⟨_, List.getElem?_eq_getElem (by rw [hll]; exact hlt)⟩
     obtain ⟨g, off, hao, hg, hcc⟩ := hrz (by omega)
     simp only [Value.slice.injEq] at ez
     obtain ⟨rfl, hzz, rfl⟩ := ez
     subst hao
     have hicap : i < cp0 := by omega
     have hc := hcc i y hy
     have HY := Lib.hid hy
     obtain ⟨⟨yh1, yh2⟩, yk, yo, ⟨ya1, ya2⟩, ⟨yb1, yb2⟩, yi⟩ := y
     clear hcc hrz hez hzz hy hll
     obtain ⟨c0, c1, c2, c3, c4, c5, c6, c7, c8⟩ := n9 hc
     clear hc
     have hal := (MapKept.heap_alloc wr (bM yk yh1 yh2 yo ya1 ya2 yb1 yb2 yi)).1
     have hka : KF wr (wr.alloc (bM yk yh1 yh2 yo ya1 ya2 yb1 yb2 yi)) := (Keeps.refl _ _).alloc _
     obtain ⟨b, hb⟩ : ∃ b, wr.heap.size = b := ⟨_, rfl⟩
     rw [hb] at hal
     have HB := Lib.hid hal
     have hml := Hm1.out
     have hln : (((l0.take i).flatMap prinsS).foldl putS m1).length ≤ 700 + i := by
      have q := puts_len ((l0.take i).flatMap prinsS) m1
      have e := HM1.out i
      omega
     have HNX : Hid (((l0.take (i + 1)).flatMap prinsS).foldl putS m1 = (prinsS ((yh1, yh2), yk, yo, (ya1, ya2), (yb1, yb2), yi)).foldl putS (((l0.take i).flatMap prinsS).foldl putS m1)) := by
      show _ = _
      rw [flat_next prinsS HY.out, List.foldl_append]
     generalize ((l0.take i).flatMap prinsS).foldl putS m1 = acc at *
     have HO : Hid (KF WC (wr.alloc (bM yk yh1 yh2 yo ya1 ya2 yb1 yb2 yi)) ∧ ReadsS (wr.alloc (bM yk yh1 yh2 yo ya1 ya2 yb1 yb2 yi)) u3 acc) := ⟨HI.out.1.trans hka, HI.out.2.keeps hka⟩
     go_upto_region 10 with fail
     clear hal hka hb HI HY c0 c1 c2 c3 c4 c5 c6 c7 c8
     generalize wr.alloc (bM yk yh1 yh2 yo ya1 ya2 yb1 yb2 yi) = w1 at *
     obtain ⟨p0, f0, p1, f1, p2, f2, p3, f3, p4, f4, p5, f5, p6, f6, p7, f7, p8, f8⟩ := cf9 HB.out
     by_cases hk1 : yk = 1
     ·subst hk1
      have HNY : Hid (prinsS ((yh1, yh2), 1, yo, (ya1, ya2), (yb1, yb2), yi) = [yo]) := rfl
      have HPU := Lib.hid (ref_put HO.out.2 (by omega) yo)
      go_wp2_with fail
      refine HPU.out.mono ?_
      rintro e w2 ⟨v2, rfl, h2⟩
      clear p0 f0 p1 f1 p2 f2 p3 f3 p4 f4 p5 f5 p6 f6 p7 f7 p8 f8 HB
      have HN2 : Hid (KF WC w2 ∧ ReadsS w2 v2 (((l0.take (i + 1)).flatMap prinsS).foldl putS m1)) := ⟨HO.out.1.trans h2.out.1, by rw [HNX.out, HNY.out]; exact h2.out.2⟩
      clear h2 HPU HNY
      clear HO HNX
      go_wp2_with fail
      go_roundg (n0 - (i + 1))
      case measure => omega
      case rel => exact ⟨i + 1, by omega, rfl, by go_num, HN2⟩
     ·have hbk : (yk == 1) = false := beq_eq_false_iff_ne.2 hk1
      have HNY : Hid (prinsS ((yh1, yh2), yk, yo, (ya1, ya2), (yb1, yb2), yi) = []) := if_neg hk1
      have HN2 : Hid (KF WC w1 ∧ ReadsS w1 u3 (((l0.take (i + 1)).flatMap prinsS).foldl putS m1)) := ⟨HO.out.1, by rw [HNX.out, HNY.out]; exact HO.out.2⟩
      clear HNY
      clear HO HNX
      go_wp2_with fail
      go_roundg (n0 - (i + 1))
      case measure => omega
      case rel => exact ⟨i + 1, by omega, rfl, by go_num, HN2⟩
    ·obtain rfl : n0 = i := by omega
     have hiI : ¬ (n0 : Int) < (n0 : Int) := by omega
     obtain ⟨m2, hm2⟩ : ∃ q, (l0.flatMap prinsS).foldl putS m1 = q := ⟨_, rfl⟩
     have q := HI.out.2
     rw [List.take_of_length_le (l := l0) (by rw [HN0.out]; exact Nat.le_refl _), hm2] at q
     have Hm2 : Hid (m2.length ≤ 800) := by
      show _ ≤ _
      rw [← hm2]
      have e := puts_len (l0.flatMap prinsS) m1
      have e2 := HM1.out n0
      rw [List.take_of_length_le (l := l0) (by rw [HN0.out]; exact Nat.le_refl _)] at e2
      have e3 := Hm1.out
      omega
     have HST : Hid (KF WC wr ∧ ReadsS wr u3 (((l3.take 0).flatMap (fun q => q.2.2.2)).foldl putS m2)) := ⟨HI.out.1, q⟩
     have HEm2 := Lib.hid hm2
     clear hm2 q
     obtain ⟨Sc0, Sf0, Sc1, Sf1, Sc2, Sf2, Sc3, Sf3⟩ := cf4 ((HI.out.1.block _ (lt_of_heap HS.out) (fun x => x)).trans HS.out)
     clear HI
     go_wp2_with fail
     go_loopg [3, 42] n3 (fun g ov t wx => ∃ i : Nat, i ≤ n3 ∧ g = n3 - i ∧ t = .int .i64 i ∧ Hid (KF WC wx ∧ ReadsS wx ov (((l3.take i).flatMap (fun q => q.2.2.2)).foldl putS m2)))
     case atStart => exact ⟨0, Nat.zero_le _, rfl, rfl, HST⟩
     case round =>
      obtain ⟨i, hi, rfl, rfl, HI⟩ := hrel
      clear HST Sc0 Sf0 Sc1 Sf1 Sc2 Sf2 Sc3 Sf3
      by_cases hlt : i < n3
      ·skip
       have hiI : (i : Int) < (n3 : Int) := by omega
       have hwi : IntKind.i64.wrap ((i : Int) + 1) = (i : Int) + 1 := IntWalk.i64_in _ (by omega)
       have hrd := HV3.out.keeps HI.out.1
       obtain ⟨aoz, cpz, ez, hez, hrz⟩ := hrd
       have hll : lv.length = n3 := by simpa using (Value.slice.inj ez).2.1.symm
       obtain ⟨y, hy⟩ : ∃ y, lv[i]? = some y := ⟨_, List.getElem?_eq_getElem (by rw [hll]; exact hlt)⟩
       obtain ⟨g, off, hao, hg, hcc⟩ := hrz (by omega)
       simp only [Value.slice.injEq] at ez
       obtain ⟨rfl, hzz, rfl⟩ := ez
       subst hao
       have hicap : i < cp3 := by omega
       have hc := hcc i y hy
       have HY := Lib.hid hy
       obtain ⟨yk, ⟨ya1, ya2⟩, ⟨yb1, yb2⟩, yo, yn, yc⟩ := y
       clear hcc hrz hez hzz hy hll
       have c0 : wr.cell? ⟨g, off + i * 6, none⟩ = some (.int .i64 yk) := hc 0 _ rfl
       have c1 : wr.cell? ⟨g, off + i * 6 + 1, none⟩ = some (.string ⟨ya1.toArray⟩) := hc 1 _ rfl
       have c2 : wr.cell? ⟨g, off + i * 6 + 2, none⟩ = some (.string ⟨ya2.toArray⟩) := hc 2 _ rfl
       have c3 : wr.cell? ⟨g, off + i * 6 + 3, none⟩ = some (.string ⟨yb1.toArray⟩) := hc 3 _ rfl
       have c4 : wr.cell? ⟨g, off + i * 6 + 4, none⟩ = some (.string ⟨yb2.toArray⟩) := hc 4 _ rfl
       have c5 : wr.cell? ⟨g, off + i * 6 + 5, none⟩ = some (.slice yo yn yc) := hc 5 _ rfl
       clear hc
       have hal := (MapKept.heap_alloc wr (bQ yk ya1 ya2 yb1 yb2 yo yn yc)).1
       have hka : KF wr (wr.alloc (bQ yk ya1 ya2 yb1 yb2 yo yn yc)) := (Keeps.refl _ _).alloc _
       obtain ⟨b, hb⟩ : ∃ b, wr.heap.size = b := ⟨_, rfl⟩
       rw [hb] at hal
       have HB := Lib.hid hal
       have hml := Hm2.out
       obtain ⟨q, hq⟩ : ∃ q, l3[i]? = some q := ⟨_, List.getElem?_eq_getElem (by rw [HN3.out]; exact hlt)⟩
       have hrq := HQ.out i q _ hq HY.out
       have HZL := Lib.hid (HLW.out q (List.mem_of_getElem? hq))
       have HNX : Hid (((l3.take (i + 1)).flatMap (fun q => q.2.2.2)).foldl putS m2 = q.2.2.2.foldl putS (((l3.take i).flatMap (fun q => q.2.2.2)).foldl putS m2)) := by
        show _ = _
        rw [flat_next (fun q : Qry => q.2.2.2) hq, List.foldl_append]
       obtain ⟨zk, za, zb, zw⟩ := q
       simp only at HNX HZL
       obtain ⟨_, _, _, hz⟩ := hrq
       have hz1 : ReadsS W (.slice yo yn yc) zw := hz.1
       have HZ : Hid (ReadsS WC (.slice yo yn yc) zw) := hz1.keeps HK0.out
       obtain ⟨az, cz, ez, hlz, hrz⟩ := hz1
       obtain ⟨rfl, hyn, rfl⟩ := Value.slice.inj ez
       subst hyn
       have hln : (((l3.take i).flatMap (fun q => q.2.2.2)).foldl putS m2).length ≤ 800 + 20 * i := by
        have q := puts_len ((l3.take i).flatMap (fun q => q.2.2.2)) m2
        have e := HM2.out i
        omega
       generalize ((l3.take i).flatMap (fun q => q.2.2.2)).foldl putS m2 = acc at *
       clear hq hz ez hrz
       have HO : Hid (KF WC (wr.alloc (.cells #[.int .i64 yk, .string ⟨ya1.toArray⟩, .string ⟨ya2.toArray⟩, .string ⟨yb1.toArray⟩, .string ⟨yb2.toArray⟩, .slice yo zw.length yc] 31)) ∧ ReadsS (wr.alloc (.cells #[.int .i64 yk, .string ⟨ya1.toArray⟩, .string ⟨ya2.toArray⟩, .string ⟨yb1.toArray⟩, .string ⟨yb2.toArray⟩, .slice yo zw.length yc] 31)) u3 acc) := ⟨HI.out.1.trans hka, HI.out.2.keeps hka⟩
       go_upto_region 16 with fail
       clear hal hka hb HI HY c0 c1 c2 c3 c4 c5
       generalize wr.alloc (.cells #[.int .i64 yk, .string ⟨ya1.toArray⟩, .string ⟨ya2.toArray⟩, .string ⟨yb1.toArray⟩, .string ⟨yb2.toArray⟩, .slice yo zw.length yc] 31) = w1 at *
       obtain ⟨p0, f0, p1, f1, p2, f2, p3, f3, p4, f4, p5, f5⟩ := cf6 HB.out
       have hzl := HZL.out
       have HST : Hid (KF WC w1 ∧ ReadsS w1 u3 ((zw.take 0).foldl putS acc)) := HO.out
       have HZN : Hid (zw.length ≤ 20) := HZL.out
       clear HO HZL
       go_wp2_with fail
       clear p0 f0 p1 f1 p2 f2 p3 f3 p4 f4 p5 f5 HB
       go_loopg [3, 49] zw.length (fun g ov t wx => ∃ j : Nat, j ≤ zw.length ∧ g = zw.length - j ∧ t = .int .i64 j ∧ Hid (KF WC wx ∧ ReadsS wx ov ((zw.take j).foldl putS acc)))
       case atStart => exact ⟨0, Nat.zero_le _, rfl, rfl, HST⟩
       case round =>
        obtain ⟨j, hj, rfl, rfl, HI⟩ := hrel
        clear HST
        by_cases hlj : j < zw.length
        ·have hjI : (j : Int) < (zw.length : Int) := by omega
         have hwj : IntKind.i64.wrap ((j : Int) + 1) = (j : Int) + 1 := IntWalk.i64_in _ (by omega)
         have hjcap : j < yc := by omega
         obtain ⟨az, cz, ez, hlz2, hrz⟩ := HZ.out
         obtain ⟨rfl, _, rfl⟩ := Value.slice.inj ez
         obtain ⟨y, hy⟩ : ∃ y, zw[j]? = some y := ⟨_, List.getElem?_eq_getElem hlj⟩
         obtain ⟨gz, oz, rfl, hgz, hcz⟩ := hrz (by omega)
         have hc : wr.cell? ⟨gz, oz + j, none⟩ = some (.string ⟨y.toArray⟩) := (HI.out.1.cell (p := ⟨gz, oz + j, none⟩) hgz (fun x => x)).trans (hcz j y hy)
         have hlj2 : ((zw.take j).foldl putS acc).length ≤ 3000 := by
          have q := puts_len (zw.take j) acc
          have e : (zw.take j).length ≤ j := by rw [List.length_take]; omega
          omega
         have HT : Hid ((zw.take (j + 1)).foldl putS acc = putS ((zw.take j).foldl putS acc) y) := by
          show _ = _
          rw [List.take_add_one, hy, List.foldl_append]
          rfl
         have HPU := Lib.hid (ref_put HI.out.2 (by omega) y)
         clear ez hrz hcz hy
         go_wp2_with fail
         refine HPU.out.mono ?_
         rintro e w2 ⟨v2, rfl, h2⟩
         have HN2 : Hid (KF WC w2 ∧ ReadsS w2 v2 ((zw.take (j + 1)).foldl putS acc)) := ⟨HI.out.1.trans h2.out.1, by rw [HT.out]; exact h2.out.2⟩
         clear h2 HPU HI hc HT
         go_wp2_with fail
         go_roundg (zw.length - (j + 1))
         case measure => omega
         case rel => exact ⟨j + 1, by omega, rfl, by go_num, HN2⟩
        ·have hjI : ¬ (j : Int) < (zw.length : Int) := by omega
         have HN3' : Hid (KF WC wr ∧ ReadsS wr u3 (((l3.take (i + 1)).flatMap (fun q => q.2.2.2)).foldl putS m2)) := by
          have q := HI.out
          rw [List.take_of_length_le (by omega), ← HNX.out] at q
          exact q
         clear HNX HI
         go_wp2_with fail
         go_roundg (n3 - (i + 1))
         case measure => omega
         case rel => exact ⟨i + 1, by omega, rfl, by go_num, HN3'⟩
      ·obtain rfl : n3 = i := by omega
       have hiI : ¬ (n3 : Int) < (n3 : Int) := by omega
       have HE : Hid (KF W wr ∧ ReadsS wr u3 res) := ⟨HK0.out.trans HI.out.1, by
        have q := HI.out.2
        rw [List.take_of_length_le (l := l3) (by rw [HN3.out]; exact Nat.le_refl _)] at q
        rw [HRL.out]
        simp only [List.foldl_append]
        rw [HEm1.out, HEm2.out]
        exact q⟩
       obtain ⟨aoE, cpE, hvE, _⟩ := HE.out.2
       rw [hvE]
       clear HI
       go_wp2_with fail
       go_ret
       exact ⟨⟨_, _, rfl⟩, Lib.hid HE.out.1⟩
end Go.Proofs.YtededjfjbkcepaaGreat
