/-
 The document's Names of a policy.
-/
import Derived.Test.YtckikkkdabpjkaaGreatPolPrins
import Derived.Test.YtckikkkdabpjkaaGreatKitSq
import Derived.Test.YtckikkkdabpjkaaGreatPolPrinsP
import Derived.Test.YtckikkkdabpjkaaGreatMK
set_option linter.unusedVariables false
set_option linter.unusedSimpArgs false
set_option linter.unnecessarySimpa false
namespace Go.Proofs.YtckikkkdabpjkaaGreat
open Go.ChangeShapes Go.WideShapes Go.ChangeAt Go.RowKit Go.Deep

set_option maxRecDepth 100000
set_option maxHeartbeats 6400000
end Go.Proofs.YtckikkkdabpjkaaGreat
/-
 Fits of a policy: the program's and the document's.
-/
set_option linter.unusedVariables false
set_option linter.unusedSimpArgs false
set_option linter.unnecessarySimpa false
namespace Go.Proofs.YtckikkkdabpjkaaGreat
open Go.ChangeShapes Go.WideShapes Go.ChangeAt Go.RowKit Go.Deep
set_option maxRecDepth 100000
set_option maxHeartbeats 3200000
theorem prinsA_len {p : Pol} (hl : FewR p) : (prinsA p).length ≤ 10000 := by
 have h1 := roles_len hl
 have h2 := flat_len_le (f := prinsS) (m := 1) prinsS_len p.1
 have h3 := flat_len_mem (f := fun q : Qry => q.2.2.2) (m := 20) p.2.2.2 (fun q hq => hl.2.2.2.2 q hq)
 obtain ⟨q0, q1, q2, q3, _⟩ := hl
 unfold prinsA
 simp only [List.length_append, List.length_map]
 omega
theorem namesA_len {p : Pol} (hl : FewR p) : (namesA p).length ≤ 10000 := by
 have h1 := roles_len hl
 have h2 := flat_len_le (f := viasS) (m := 1) viasS_len p.1
 obtain ⟨q0, q1, q2, q3, _⟩ := hl
 unfold namesA
 simp only [List.length_append, List.length_map]
 omega
theorem pfits_spec {W : World} {v0 v1 v2 v3 : Value} {p : Pol} {P : Nat → Prop} (h : PolX W v0 v1 v2 v3 p P) (hl : FewR p) :
 Calls Tryz.prog 163 #[.agg #[v0, v1, v2, v3]] W fun e W' => e = .returned (.bool (fitsPB p)) ∧ Hid (KF W W') := by
 have HPR : Hid (∀ w, KF W w → Calls Tryz.prog 67 #[.agg #[v0, v1, v2, v3]] w fun e W' => ∃ ao cap, e = .returned (.slice ao (tabL (prinsA p)).length cap) ∧ Hid (KF w W')) := fun w hk => (pprins_spec (h.into hk (fun _ _ _ x => x) (fun _ _ x => x)) hl).mono fun e w' ⟨v, e1, hv⟩ => by
  obtain ⟨ao, cap, hv2, _⟩ := hv.out.1.reads
  exact ⟨ao, cap, by rw [e1, hv2], hv.out.2⟩
 have HNM : Hid (∀ w, KF W w → Calls Tryz.prog 189 #[.agg #[v0, v1, v2, v3]] w fun e W' => ∃ ao cap, e = .returned (.slice ao (tabL (namesA p)).length cap) ∧ Hid (KF w W')) := fun w hk => (pnames_spec (h.into hk (fun _ _ _ x => x) (fun _ _ x => x)) hl).mono fun e w' ⟨v, e1, hv⟩ => by
  obtain ⟨ao, cap, hv2, _⟩ := hv.out.1.reads
  exact ⟨ao, cap, by rw [e1, hv2], hv.out.2⟩
 obtain ⟨R, hR⟩ : ∃ R, fitsPB p = R := ⟨_, rfl⟩
 have HD : Hid (R = (decide (p.1.length ≤ 80 ∧ p.2.1.length ≤ 40 ∧ p.2.2.1.length ≤ 40 ∧ p.2.2.2.length ≤ 16) && (decide ((tabL (prinsA p)).length ≤ 16) && decide ((tabL (namesA p)).length ≤ 12)))) := hR.symm
 rw [hR]
 obtain ⟨nP, hnP⟩ : ∃ q, (tabL (prinsA p)).length = q := ⟨_, rfl⟩
 obtain ⟨nN, hnN⟩ : ∃ q, (tabL (namesA p)).length = q := ⟨_, rfl⟩
 rw [hnP] at HPR HD
 rw [hnN] at HNM HD
 have hnP2 : nP ≤ 10000 := by
  rw [← hnP]
  exact Nat.le_trans (tab_len _) (prinsA_len hl)
 have hnN2 : nN ≤ 10000 := by
  rw [← hnN]
  exact Nat.le_trans (tab_len _) (namesA_len hl)
 clear hR hnP hnN
 obtain ⟨l0, l1, l2, l3⟩ := p
 simp only at HD
 obtain ⟨hl0, hl1, hl2, hl3, hlw⟩ := hl
 simp only at hl0 hl1 hl2 hl3 hlw
 obtain ⟨h0, h1, h2, h3⟩ := h
 simp only at h0 h1 h2 h3
 obtain ⟨lv, hlv, h3r, h3q⟩ := id h3
 obtain ⟨ao0, cp0, hv0, hle0, hr0⟩ := id h0.1.1
 obtain ⟨ao1, cp1, hv1, hle1, hr1⟩ := id h1.1.1
 obtain ⟨ao2, cp2, hv2, hle2, hr2⟩ := id h2.1.1
 obtain ⟨ao3, cp3, hv3, hle3, hr3⟩ := id h3r.1.1
 subst hv0 hv1 hv2 hv3
 clear hr0 hr1 hr2 hr3
 obtain ⟨n0, hn0⟩ : ∃ n, l0.length = n := ⟨_, rfl⟩
 obtain ⟨n1, hn1⟩ : ∃ n, l1.length = n := ⟨_, rfl⟩
 obtain ⟨n2, hn2⟩ : ∃ n, l2.length = n := ⟨_, rfl⟩
 obtain ⟨n3, hn3⟩ : ∃ n, l3.length = n := ⟨_, rfl⟩
 rw [hn0] at h0 hle0 hl0 ⊢
 rw [hn1] at h1 hle1 hl1 ⊢
 rw [hn2] at h2 hle2 hl2 ⊢
 rw [hn3] at hlv hl3
 rw [hlv] at h3 h3r hle3 ⊢
 rw [hn0, hn1, hn2, hlv] at HPR HNM
 rw [hn0, hn1, hn2, hn3] at HD
 have HN0 := Lib.hid hn0
 have HN1 := Lib.hid hn1
 have HN2 := Lib.hid hn2
 have HN3 := Lib.hid hn3
 have HLV := Lib.hid hlv
 have HLW := Lib.hid hlw
 have ha := (MapKept.heap_alloc W (bP ao0 n0 cp0 ao1 n1 cp1 ao2 n2 cp2 ao3 n3 cp3)).1
 obtain ⟨WB, hWB⟩ : ∃ q, W.alloc (bP ao0 n0 cp0 ao1 n1 cp1 ao2 n2 cp2 ao3 n3 cp3) = q := ⟨_, rfl⟩
 have hkA : KF W WB := by rw [← hWB]; exact (Keeps.refl _ _).alloc _
 rw [hWB] at ha
 have HS := Lib.hid ha
 have HK0 := Lib.hid hkA
 have HV0 : Hid (RdK stmE WB (.slice ao0 n0 cp0) l0) := h0.1.1.keeps hkA
 have HV1 : Hid (RdK rolE WB (.slice ao1 n1 cp1) l1) := h1.1.1.keeps hkA
 have HV2 : Hid (RdK rolE WB (.slice ao2 n2 cp2) l2) := h2.1.1.keeps hkA
 have HV3 : Hid (RdK qE WB (.slice ao3 n3 cp3) lv) := h3r.1.1.keeps hkA
 have HQ : Hid (∀ (j : Nat) (q : Qry) (qv : QV), l3[j]? = some q → lv[j]? = some qv → RelX W qv q P) := h3q
 obtain ⟨LB, hLB⟩ : ∃ q, WB.heap.size = q := ⟨_, rfl⟩
 have HLB := Lib.hid hLB
 clear ha hkA h0 h1 h2 h3 h3r h3q hlv hn0 hn1 hn2 hn3 hlw hLB
 clear HV0 HV1 HV2 HV3 HQ HN0 HN1 HN2 HN3 HLV HLW
 by_cases hc0 : n0 ≤ 80
 case neg =>
  have hz0 : ¬ (n0 : Int) ≤ 80 := by omega
  have hy0 : (80 : Int) < (n0 : Int) := by omega
  have e : Hid (R = false) := show R = false by rw [HD.out, decide_eq_false (show ¬ (n0 ≤ 80 ∧ n1 ≤ 40 ∧ n2 ≤ 40 ∧ n3 ≤ 16) by omega)]; rfl
  go_enter Tryz.func163, Tryz.ntmps163
  go_upto_region 1 with fail
  clear hWB
  obtain ⟨Sc0, Sf0, Sc1, Sf1, Sc2, Sf2, Sc3, Sf3⟩ := cf4 HS.out
  go_wp2_with fail
  go_ret
  exact ⟨by rw [e.out]; rfl, HK0⟩
 have hz0 : (n0 : Int) ≤ 80 := by omega
 have hy0 : ¬ (80 : Int) < (n0 : Int) := by omega
 by_cases hc1 : n1 ≤ 40
 case neg =>
  have hz1 : ¬ (n1 : Int) ≤ 40 := by omega
  have hy1 : (40 : Int) < (n1 : Int) := by omega
  have e : Hid (R = false) := show R = false by rw [HD.out, decide_eq_false (show ¬ (n0 ≤ 80 ∧ n1 ≤ 40 ∧ n2 ≤ 40 ∧ n3 ≤ 16) by omega)]; rfl
  go_enter Tryz.func163, Tryz.ntmps163
  go_upto_region 1 with fail
  clear hWB
  obtain ⟨Sc0, Sf0, Sc1, Sf1, Sc2, Sf2, Sc3, Sf3⟩ := cf4 HS.out
  go_wp2_with fail
  go_ret
  exact ⟨by rw [e.out]; rfl, HK0⟩
 have hz1 : (n1 : Int) ≤ 40 := by omega
 have hy1 : ¬ (40 : Int) < (n1 : Int) := by omega
 by_cases hc2 : n2 ≤ 40
 case neg =>
  have hz2 : ¬ (n2 : Int) ≤ 40 := by omega
  have hy2 : (40 : Int) < (n2 : Int) := by omega
  have e : Hid (R = false) := show R = false by rw [HD.out, decide_eq_false (show ¬ (n0 ≤ 80 ∧ n1 ≤ 40 ∧ n2 ≤ 40 ∧ n3 ≤ 16) by omega)]; rfl
  go_enter Tryz.func163, Tryz.ntmps163
  go_upto_region 1 with fail
  clear hWB
  obtain ⟨Sc0, Sf0, Sc1, Sf1, Sc2, Sf2, Sc3, Sf3⟩ := cf4 HS.out
  go_wp2_with fail
  go_ret
  exact ⟨by rw [e.out]; rfl, HK0⟩
 have hz2 : (n2 : Int) ≤ 40 := by omega
 have hy2 : ¬ (40 : Int) < (n2 : Int) := by omega
 by_cases hc3 : n3 ≤ 16
 case neg =>
  have hz3 : ¬ (n3 : Int) ≤ 16 := by omega
  have hy3 : (16 : Int) < (n3 : Int) := by omega
  have e : Hid (R = false) := show R = false by rw [HD.out, decide_eq_false (show ¬ (n0 ≤ 80 ∧ n1 ≤ 40 ∧ n2 ≤ 40 ∧ n3 ≤ 16) by omega)]; rfl
  go_enter Tryz.func163, Tryz.ntmps163
  go_upto_region 1 with fail
  clear hWB
  obtain ⟨Sc0, Sf0, Sc1, Sf1, Sc2, Sf2, Sc3, Sf3⟩ := cf4 HS.out
  go_wp2_with fail
  go_ret
  exact ⟨by rw [e.out]; rfl, HK0⟩
 have hz3 : (n3 : Int) ≤ 16 := by omega
 have hy3 : ¬ (16 : Int) < (n3 : Int) := by omega
 have HD1 : Hid (R = (decide (nP ≤ 16) && decide (nN ≤ 12))) := show R = _ by rw [HD.out, decide_eq_true (show n0 ≤ 80 ∧ n1 ≤ 40 ∧ n2 ≤ 40 ∧ n3 ≤ 16 from ⟨hc0, hc1, hc2, hc3⟩), Bool.true_and]
 clear HD
 go_enter Tryz.func163, Tryz.ntmps163
 go_upto_region 1 with fail
 clear hWB
 obtain ⟨Sc0, Sf0, Sc1, Sf1, Sc2, Sf2, Sc3, Sf3⟩ := cf4 HS.out
 go_wp2_with fail
 refine (HPR.out _ HK0.out).mono ?_
 rintro e w1 ⟨aoP, cpP, rfl, hk⟩
 have HK1 : Hid (KF W w1) := HK0.out.trans hk.out
 have hb := (hk.out.block _ (lt_of_heap HS.out) (fun x => x)).trans HS.out
 clear HPR hk Sc0 Sf0 Sc1 Sf1 Sc2 Sf2 Sc3 Sf3
 obtain ⟨Sc0, Sf0, Sc1, Sf1, Sc2, Sf2, Sc3, Sf3⟩ := cf4 hb
 clear hb
 by_cases hp : nP ≤ 16
 case neg =>
  have hpI : ¬ (nP : Int) ≤ 16 := by omega
  have e : Hid (R = false) := show R = false by rw [HD1.out, decide_eq_false hp]; rfl
  go_wp2_with fail
  go_ret
  exact ⟨by rw [e.out]; rfl, HK1⟩
 have hpI : (nP : Int) ≤ 16 := by omega
 go_wp2_with fail
 refine (HNM.out _ HK1.out).mono ?_
 rintro e w2 ⟨aoN, cpN, rfl, hk⟩
 have HK2 : Hid (KF W w2) := HK1.out.trans hk.out
 clear HNM hk Sc0 Sf0 Sc1 Sf1 Sc2 Sf2 Sc3 Sf3
 by_cases hn : nN ≤ 12
 case neg =>
  have hnI : ¬ (nN : Int) ≤ 12 := by omega
  have e : Hid (R = false) := show R = false by rw [HD1.out, decide_eq_false hn, Bool.and_false]
  go_wp2_with fail
  go_ret
  exact ⟨by rw [e.out]; first | rfl | (show Ending.returned (Value.bool (decide ((nN : Int) ≤ 12))) = _; rw [decide_eq_false (show ¬ (nN : Int) ≤ 12 by omega)]), HK2⟩
 have hnI : (nN : Int) ≤ 12 := by omega
 have e : Hid (R = true) := show R = true by rw [HD1.out, decide_eq_true hp, decide_eq_true hn]; rfl
 go_wp2_with fail
 go_ret
 exact ⟨by rw [e.out]; first | rfl | (show Ending.returned (Value.bool (decide ((nN : Int) ≤ 12))) = _; rw [decide_eq_true hnI]), HK2⟩
end Go.Proofs.YtckikkkdabpjkaaGreat
