/-
 The document's Fits and Right of a policy that may be.
-/
import Derived.Test.YtcdfpnlaklaafaaGreatPolNames
import Derived.Test.YtcdfpnlaklaafaaGreatQryRight
set_option linter.unusedVariables false
set_option linter.unusedSimpArgs false
set_option linter.unnecessarySimpa false
namespace Go.Proofs.YtcdfpnlaklaafaaGreat
open Go.ChangeShapes Go.WideShapes Go.ChangeAt Go.RowKit Go.Deep
theorem few_b {s : Shp} {p : Pol} (h : PolB s p) : FewR p := by
 have hf := fits_parts h.fits
 have h0 := h.n0
 have h1 := h.n1
 have h2 := h.n2
 have h3 := h.n3
 exact ⟨by omega, by omega, by omega, by omega, fun q hq => by have := (h.asks q hq).2.2.2.1; omega⟩
set_option maxRecDepth 100000
set_option maxHeartbeats 6400000
theorem rfitsp_yes {W : World} {v0 v1 v2 v3 : Value} {p : Pol} {P : Nat → Prop} {s : Shp} (h : PolX W v0 v1 v2 v3 p P) (hb : PolB s p) :
 Calls Tryz.prog 45 #[.agg #[v0, v1, v2, v3]] W fun e W' => e = .returned (.bool true) ∧ Hid (Keeps (fun _ => False) W W') := by
 have hf := fits_parts hb.fits
 have hl0 := hb.n0
 have hl1 := hb.n1
 have hl2 := hb.n2
 have hl3 := hb.n3
 have hp1 := prins_few hb
 have hp2 := names_few hb
 have HPR : Hid (∀ w, Keeps (fun _ => False) W w → Calls Tryz.prog 23 #[.agg #[v0, v1, v2, v3]] w fun e W' => ∃ ao cap, e = .returned (.slice ao (tabL (prinsA p)).length cap) ∧ Hid (Keeps (fun _ => False) w W')) := fun w hk => rprins_spec (h.into hk (fun _ _ _ x => x) (fun _ _ x => x)) (few_b hb)
 have HNM : Hid (∀ w, Keeps (fun _ => False) W w → Calls Tryz.prog 24 #[.agg #[v0, v1, v2, v3]] w fun e W' => ∃ ao cap, e = .returned (.slice ao (tabL (namesA p)).length cap) ∧ Hid (Keeps (fun _ => False) w W')) := fun w hk => rnames_spec (h.into hk (fun _ _ _ x => x) (fun _ _ x => x)) (few_b hb)
 obtain ⟨nP, hnP⟩ : ∃ q, (tabL (prinsA p)).length = q := ⟨_, rfl⟩
 obtain ⟨nN, hnN⟩ : ∃ q, (tabL (namesA p)).length = q := ⟨_, rfl⟩
 rw [hnP] at hp1 HPR
 rw [hnN] at hp2 HNM
 obtain ⟨lv, hlv, h3r, h3q⟩ := h.2.2.2
 obtain ⟨ao0, cp0, hv0, hle0, hr0⟩ := id h.1.1.1
 obtain ⟨ao1, cp1, hv1, hle1, hr1⟩ := id h.2.1.1.1
 obtain ⟨ao2, cp2, hv2, hle2, hr2⟩ := id h.2.2.1.1.1
 obtain ⟨ao3, cp3, hv3, hle3, hr3⟩ := id h3r.1.1
 subst hv0 hv1 hv2 hv3
 clear hr0 hr1 hr2 hr3 h h3r h3q hb hnP hnN hle0 hle1 hle2 hle3
 rw [hlv] at HPR HNM ⊢
 obtain ⟨n0, hn0⟩ : ∃ n, p.1.length = n := ⟨_, rfl⟩
 obtain ⟨n1, hn1⟩ : ∃ n, p.2.1.length = n := ⟨_, rfl⟩
 obtain ⟨n2, hn2⟩ : ∃ n, p.2.2.1.length = n := ⟨_, rfl⟩
 obtain ⟨n3, hn3⟩ : ∃ n, p.2.2.2.length = n := ⟨_, rfl⟩
 rw [hn0, hn1, hn2, hn3] at HPR HNM ⊢
 rw [hn0] at hl0
 rw [hn1] at hl1
 rw [hn2] at hl2
 rw [hn3] at hl3
 clear hn0 hn1 hn2 hn3 hlv
 have k0 : ¬ (80 : Int) < (n0 : Int) := by omega
 have k1 : ¬ (40 : Int) < (n1 : Int) := by omega
 have k2 : ¬ (40 : Int) < (n2 : Int) := by omega
 have k3 : ¬ (16 : Int) < (n3 : Int) := by omega
 have kp : (nP : Int) ≤ 16 := by omega
 have kn : (nN : Int) ≤ 12 := by omega
 clear hf hl0 hl1 hl2 hl3 hp1 hp2
 have ha := (MapKept.heap_alloc W (.cells #[.slice ao0 n0 cp0, .slice ao1 n1 cp1, .slice ao2 n2 cp2, .slice ao3 n3 cp3] 57)).1
 obtain ⟨WB, hWB⟩ : ∃ q, W.alloc (.cells #[.slice ao0 n0 cp0, .slice ao1 n1 cp1, .slice ao2 n2 cp2, .slice ao3 n3 cp3] 57) = q := ⟨_, rfl⟩
 have hkA : Keeps (fun _ => False) W WB := by rw [← hWB]; exact (Keeps.refl _ _).alloc _
 rw [hWB] at ha
 have HS := Lib.hid ha
 have HK := Lib.hid hkA
 obtain ⟨Sc0, Sf0, Sc1, Sf1, Sc2, Sf2, Sc3, Sf3⟩ := cf4 HS.out
 clear ha hkA
 go_enter Tryz.func45, Tryz.ntmps45
 go_upto_region 1 with fail
 clear hWB
 go_wp2_with fail
 refine (HPR.out _ HK.out).mono ?_
 rintro e w1 ⟨ao, cp, rfl, hk⟩
 clear Sc0 Sf0 Sc1 Sf1 Sc2 Sf2 Sc3 Sf3
 obtain ⟨Sc0, Sf0, Sc1, Sf1, Sc2, Sf2, Sc3, Sf3⟩ := cf4 ((hk.out.block _ (lt_of_heap HS.out) (fun x => x)).trans HS.out)
 have HK1 : Hid (Keeps (fun _ => False) W w1) := HK.out.trans hk.out
 clear HPR hk HK HS
 go_wp2_with fail
 refine (HNM.out _ HK1.out).mono ?_
 rintro e w2 ⟨ao', cp', rfl, hk⟩
 have HE : Hid (Keeps (fun _ => False) W w2) := HK1.out.trans hk.out
 clear HNM hk HK1
 go_wp2_with fail
 go_ret
 exact ⟨rfl, HE⟩
theorem rpolright_yes {W : World} {v0 v1 v2 v3 : Value} {p : Pol} {P : Nat → Prop} {s : Shp} (h : PolX W v0 v1 v2 v3 p P) (hb : PolB s p) :
 Calls Tryz.prog 22 #[.agg #[v0, v1, v2, v3]] W fun e W' => e = .returned (.bool true) ∧ Hid (Keeps (fun _ => False) W W') := by
 have hl := few_b hb
 have HFI : Hid (∀ w, Keeps (fun _ => False) W w → Calls Tryz.prog 45 #[.agg #[v0, v1, v2, v3]] w fun e W' => e = .returned (.bool true) ∧ Hid (Keeps (fun _ => False) w W')) := fun w hk => rfitsp_yes (h.into hk (fun _ _ _ x => x) (fun _ _ x => x)) hb
 have HSR : Hid (∀ y ∈ p.1, ∀ w, Calls Tryz.prog 40 #[stmV y] w fun e W' => e = .returned (.bool true) ∧ Hid (Keeps (fun _ => False) w W')) := fun y hy w => stmright_yes (hb.stm y hy) hb.fits
 have HRR : Hid (∀ r ∈ p.2.1 ++ p.2.2.1, ∀ w, Calls Tryz.prog 41 #[.agg #[.string ⟨r.1.toArray⟩, .string ⟨r.2.toArray⟩]] w fun e W' => e = .returned (.bool true) ∧ Hid (Keeps (fun _ => False) w W')) := fun r hr w => isrole_b ((List.mem_append.1 hr).elim (hb.grow r) (hb.shrink r)) hb.fits
 have HQR : Hid (∀ q ∈ p.2.2.2, ∀ v w, ReadsS w v q.2.2.2 → Calls Tryz.prog 42 #[qryV q v] w fun e W' => e = .returned (.bool true) ∧ Hid (Keeps (fun _ => False) w W')) := fun q hq v w hv => qryright_yes (hb.asks q hq) hb.fits hv
 have HO0 := Lib.hid hb.o0
 have HO1 := Lib.hid hb.o1
 have HO2 := Lib.hid hb.o2
 have hX0 := h.1.1
 have hX1 := h.2.1.1
 have hX2 := h.2.2.1.1
 clear hb
 obtain ⟨l0, l1, l2, l3⟩ := p
 simp only at HSR HRR HQR HO0 HO1 HO2 hX0 hX1 hX2
 obtain ⟨hl0, hl1, hl2, hl3, hlw⟩ := hl
 simp only at hl0 hl1 hl2 hl3 hlw
 obtain ⟨h0, h1, h2, h3⟩ := h
 simp only at h0 h1 h2 h3
 obtain ⟨lv, hlv, h3r, h3q⟩ := id h3
 obtain ⟨ao0, cp0, hv0, hle0, hr0⟩ := id h0.1.1
 obtain ⟨ao1, cp1, hv1, hle1, hr1⟩ := id h1.1.1
 obtain ⟨ao2, cp2, hv2, hle2, hr2⟩ := id h2.1.1
 obtain ⟨ao3, cp3, hv3, hle3, hr3⟩ := id h3r.1.1
 subst hv0 hv1 hv2 hv3
 clear hr0 hr1 hr2 hr3
 obtain ⟨n0, hn0⟩ : ∃ n, l0.length = n := ⟨_, rfl⟩
 obtain ⟨n1, hn1⟩ : ∃ n, l1.length = n := ⟨_, rfl⟩
 obtain ⟨n2, hn2⟩ : ∃ n, l2.length = n := ⟨_, rfl⟩
 obtain ⟨n3, hn3⟩ : ∃ n, l3.length = n := ⟨_, rfl⟩
 rw [hn0] at h0 hle0 hl0 ⊢
 rw [hn1] at h1 hle1 hl1 ⊢
 rw [hn2] at h2 hle2 hl2 ⊢
 rw [hn3] at hlv hl3
 rw [hlv] at h3 h3r hle3 ⊢
 rw [hn0, hn1, hn2, hlv] at HFI
 rw [hn0] at hX0
 rw [hn1] at hX1
 rw [hn2] at hX2
 have HN0 := Lib.hid hn0
 have HN1 := Lib.hid hn1
 have HN2 := Lib.hid hn2
 have HN3 := Lib.hid hn3
 have HLV := Lib.hid hlv
 have HLW := Lib.hid hlw
 have ha := (MapKept.heap_alloc W (.cells #[.slice ao0 n0 cp0, .slice ao1 n1 cp1, .slice ao2 n2 cp2, .slice ao3 n3 cp3] 57)).1
 obtain ⟨WB, hWB⟩ : ∃ q, W.alloc (.cells #[.slice ao0 n0 cp0, .slice ao1 n1 cp1, .slice ao2 n2 cp2, .slice ao3 n3 cp3] 57) = q := ⟨_, rfl⟩
 have hkA : Keeps (fun _ => False) W WB := by rw [← hWB]; exact (Keeps.refl _ _).alloc _
 rw [hWB] at ha
 have HS := Lib.hid ha
 have HK0 := Lib.hid hkA
 have HV0 : Hid (RdK stmE WB (.slice ao0 n0 cp0) l0) := h0.1.1.keeps hkA
 have HV1 : Hid (RdK rolE WB (.slice ao1 n1 cp1) l1) := h1.1.1.keeps hkA
 have HV2 : Hid (RdK rolE WB (.slice ao2 n2 cp2) l2) := h2.1.1.keeps hkA
 have HV3 : Hid (RdK qE WB (.slice ao3 n3 cp3) lv) := h3r.1.1.keeps hkA
 have HQ : Hid (∀ (j : Nat) (q : Qry) (qv : QV), l3[j]? = some q → lv[j]? = some qv → RelX W qv q P) := h3q
 obtain ⟨LB, hLB⟩ : ∃ q, WB.heap.size = q := ⟨_, rfl⟩
 have HLB := Lib.hid hLB
 have HX0 : Hid (SrcK stmE WB (.slice ao0 n0 cp0) l0) := hX0.keeps hkA
 have HX1 : Hid (SrcK rolE WB (.slice ao1 n1 cp1) l1) := hX1.keeps hkA
 have HX2 : Hid (SrcK rolE WB (.slice ao2 n2 cp2) l2) := hX2.keeps hkA
 clear ha hkA hX0 hX1 hX2 h0 h1 h2 h3 h3r h3q hlv hn0 hn1 hn2 hn3 hlw hLB
 go_enter Tryz.func22, Tryz.ntmps22
 go_upto_region 1 with fail
 clear hWB
 obtain ⟨Sc0, Sf0, Sc1, Sf1, Sc2, Sf2, Sc3, Sf3⟩ := cf4 HS.out
 have HST : Hid (Keeps (fun _ => False) WB WB) := Keeps.refl _ _
 go_wp2_with fail
 go_loopg [12] n0 (fun g t wx => ∃ i : Nat, i ≤ n0 ∧ g = n0 - i ∧ t = .int .i64 i ∧ Hid (Keeps (fun _ => False) WB wx))
 case atStart => exact ⟨0, Nat.zero_le _, rfl, rfl, HST⟩
 case round =>
  obtain ⟨i, hi, rfl, rfl, HI0⟩ := hrel
  have HI : Hid (Keeps (fun _ => False) WB wr ∧ True) := ⟨HI0.out, trivial⟩
  clear HST HI0 Sc0 Sf0 Sc1 Sf1 Sc2 Sf2 Sc3 Sf3
  by_cases hlt : i < n0
  · skip
    have hiI : (i : Int) < (n0 : Int) := by omega
    have hwi : IntKind.i64.wrap ((i : Int) + 1) = (i : Int) + 1 := IntWalk.i64_in _ (by omega)
    have hrd := HV0.out.keeps HI.out.1
    obtain ⟨aoz, cpz, ez, hez, hrz⟩ := hrd
    have hll : l0.length = n0 := by simpa using (Value.slice.inj ez).2.1.symm
    obtain ⟨y, hy⟩ : ∃ y, l0[i]? = some y := ⟨_, List.getElem?_eq_getElem (by rw [hll]; exact hlt)⟩
    obtain ⟨g, off, hao, hg, hcc⟩ := hrz (by omega)
    simp only [Value.slice.injEq] at ez
    obtain ⟨rfl, hzz, rfl⟩ := ez
    subst hao
    have hicap : i < cp0 := by omega
    have hc := hcc i y hy
    have HY := Lib.hid hy
    obtain ⟨⟨yh1, yh2⟩, yk, yo, ⟨ya1, ya2⟩, ⟨yb1, yb2⟩, yi⟩ := y
    clear hcc hrz hez hzz hy hll
    have c0 : wr.cell? ⟨g, off + i * 9, none⟩ = some (.int .i64 yk) := hc 0 _ rfl
    have c1 : wr.cell? ⟨g, off + i * 9 + 1, none⟩ = some (.string ⟨yh1.toArray⟩) := hc 1 _ rfl
    have c2 : wr.cell? ⟨g, off + i * 9 + 2, none⟩ = some (.string ⟨yh2.toArray⟩) := hc 2 _ rfl
    have c3 : wr.cell? ⟨g, off + i * 9 + 3, none⟩ = some (.string ⟨yo.toArray⟩) := hc 3 _ rfl
    have c4 : wr.cell? ⟨g, off + i * 9 + 4, none⟩ = some (.string ⟨ya1.toArray⟩) := hc 4 _ rfl
    have c5 : wr.cell? ⟨g, off + i * 9 + 5, none⟩ = some (.string ⟨ya2.toArray⟩) := hc 5 _ rfl
    have c6 : wr.cell? ⟨g, off + i * 9 + 6, none⟩ = some (.string ⟨yb1.toArray⟩) := hc 6 _ rfl
    have c7 : wr.cell? ⟨g, off + i * 9 + 7, none⟩ = some (.string ⟨yb2.toArray⟩) := hc 7 _ rfl
    have c8 : wr.cell? ⟨g, off + i * 9 + 8, none⟩ = some (.string ⟨yi.toArray⟩) := hc 8 _ rfl
    clear hc
    have hal := (MapKept.heap_alloc wr (.cells #[.int .i64 yk, .string ⟨yh1.toArray⟩, .string ⟨yh2.toArray⟩, .string ⟨yo.toArray⟩, .string ⟨ya1.toArray⟩, .string ⟨ya2.toArray⟩, .string ⟨yb1.toArray⟩, .string ⟨yb2.toArray⟩, .string ⟨yi.toArray⟩] 44)).1
    have hka : Keeps (fun _ => False) wr (wr.alloc (.cells #[.int .i64 yk, .string ⟨yh1.toArray⟩, .string ⟨yh2.toArray⟩, .string ⟨yo.toArray⟩, .string ⟨ya1.toArray⟩, .string ⟨ya2.toArray⟩, .string ⟨yb1.toArray⟩, .string ⟨yb2.toArray⟩, .string ⟨yi.toArray⟩] 44)) := (Keeps.refl _ _).alloc _
    obtain ⟨b, hb⟩ : ∃ b, wr.heap.size = b := ⟨_, rfl⟩
    rw [hb] at hal
    have HB := Lib.hid hal
    have HC := Lib.hid (HSR.out ((yh1, yh2), yk, yo, (ya1, ya2), (yb1, yb2), yi) (List.mem_of_getElem? HY.out))
    unfold stmV at HC
    simp only at HC
    have HO : Hid (Keeps (fun _ => False) WB (wr.alloc (.cells #[.int .i64 yk, .string ⟨yh1.toArray⟩, .string ⟨yh2.toArray⟩, .string ⟨yo.toArray⟩, .string ⟨ya1.toArray⟩, .string ⟨ya2.toArray⟩, .string ⟨yb1.toArray⟩, .string ⟨yb2.toArray⟩, .string ⟨yi.toArray⟩] 44))) := HI.out.1.trans hka
    go_upto_region 4 with fail
    clear hal hka hb HI HY c0 c1 c2 c3 c4 c5 c6 c7 c8
    generalize wr.alloc (.cells #[.int .i64 yk, .string ⟨yh1.toArray⟩, .string ⟨yh2.toArray⟩, .string ⟨yo.toArray⟩, .string ⟨ya1.toArray⟩, .string ⟨ya2.toArray⟩, .string ⟨yb1.toArray⟩, .string ⟨yb2.toArray⟩, .string ⟨yi.toArray⟩] 44) = w1 at *
    obtain ⟨p0, f0, p1, f1, p2, f2, p3, f3, p4, f4, p5, f5, p6, f6, p7, f7, p8, f8⟩ := cf9 HB.out
    go_wp2_with fail
    refine (HC.out _).mono ?_
    rintro e w2 ⟨rfl, hk⟩
    have HN2 : Hid (Keeps (fun _ => False) WB w2) := HO.out.trans hk.out
    clear HO hk HB HC p0 f0 p1 f1 p2 f2 p3 f3 p4 f4 p5 f5 p6 f6 p7 f7 p8 f8
    go_wp2_with fail
    go_roundg (n0 - (i + 1))
    case measure => omega
    case rel => exact ⟨i + 1, by omega, rfl, by go_num, HN2⟩
  · obtain rfl : n0 = i := by omega
    have hiI : ¬ (n0 : Int) < (n0 : Int) := by omega
    have HZ : Hid (Keeps (fun _ => False) WB wr) := HI.out.1
    clear HI
    have HS1 := Lib.hid ((HZ.out.block _ (lt_of_heap HS.out) (fun x => x)).trans HS.out)
    have HKW : Hid (Keeps (fun _ => False) W wr) := HK0.out.trans HZ.out
    have HLZ : Hid (LB ≤ wr.heap.size) := by have := HZ.out.size; have := HLB.out; show _ ≤ _; omega
    have HAB : Hid (W.heap.size < LB) := by have := lt_of_heap HS.out; have := HLB.out; show _ < _; omega
    clear HS HK0
    have HN : Hid (W.heap.size < LB) := HAB.out
    go_upto_region 7 with fail
    have HMK1 : Hid (∀ w' : World, w'.heap[W.heap.size]? = some (.cells #[.slice ao0 n0 cp0, .slice ao1 n1 cp1, .slice ao2 n2 cp2, .slice ao3 n3 cp3] 57) → w'.cell? ⟨W.heap.size, 0, none⟩ = some (.slice ao0 n0 cp0) ∧ w'.cell? ⟨W.heap.size, 1, none⟩ = some (.slice ao1 n1 cp1) ∧ w'.cell? ⟨W.heap.size, 2, none⟩ = some (.slice ao2 n2 cp2) ∧ w'.cell? ⟨W.heap.size, 3, none⟩ = some (.slice ao3 n3 cp3) ∧ Hid (w'.heap[W.heap.size]? = some (.cells #[.slice ao0 n0 cp0, .slice ao1 n1 cp1, .slice ao2 n2 cp2, .slice ao3 n3 cp3] 57))) := fun w' h0 => ⟨(by rw [cell_of_heap h0]; rfl), (by rw [cell_of_heap h0]; rfl), (by rw [cell_of_heap h0]; rfl), (by rw [cell_of_heap h0]; rfl), Lib.hid h0⟩
    have hkd : Keeps (fun _ => False) wr wr.drew := (Keeps.refl _ _).drew
    have HS2 := Lib.hid (((hkd).block _ (lt_of_heap HS1.out) (fun x => x)).trans HS1.out)
    have HE3 := Lib.hid (HZ.out.trans (hkd))
    have HK4 := Lib.hid (HKW.out.drew)
    have hS0 := HMK1.out wr.drew HS2.out
    clear hkd HS1 HZ HKW
    refine wp_region_noPanic ?_
    refine wp_region_held_drew (S := (fun w' => w'.cell? ⟨W.heap.size, 0, none⟩ = some (.slice ao0 n0 cp0) ∧ w'.cell? ⟨W.heap.size, 1, none⟩ = some (.slice ao1 n1 cp1) ∧ w'.cell? ⟨W.heap.size, 2, none⟩ = some (.slice ao2 n2 cp2) ∧ w'.cell? ⟨W.heap.size, 3, none⟩ = some (.slice ao3 n3 cp3) ∧ Hid (w'.heap[W.heap.size]? = some (.cells #[.slice ao0 n0 cp0, .slice ao1 n1 cp1, .slice ao2 n2 cp2, .slice ao3 n3 cp3] 57)))) (by kernel_rfl) hS0 (fun hHeld => ?_)
    clear hS0
    generalize wr.drew = w5 at *
    refine wpAnyH_take_at (i := 1) (v := ?v1_6) rfl (by kernel_rfl) (by kernel_rfl) (by kernel_rfl) (fun _ _ _ h => h) (Or.inl ⟨by rfl, ?y1_6⟩) hHeld ?r1_6
    case y1_6 => (intro w hSw; (try dsimp only at hSw); go_simp; first | done | with_reducible rfl)
    (try simp only [Act.put, nm1, nm2, nm3])
    refine wpAnyH_take_at (i := 4) (v := ?v4_7) rfl (by kernel_rfl) (by kernel_rfl) (by kernel_rfl) (fun _ _ _ h => h) (Or.inl ⟨by rfl, ?y4_7⟩) hHeld ?r4_7
    case y4_7 => (intro w hSw; (try dsimp only at hSw); go_simp; first | done | with_reducible rfl)
    (try simp only [Act.put, nm1, nm2, nm3])
    refine wpAnyH_take_at (i := 8) (v := ?v8_8) rfl (by kernel_rfl) (by kernel_rfl) (by kernel_rfl) (fun _ _ _ h => h) (Or.inl ⟨by rfl, ?y8_8⟩) hHeld ?r8_8
    case y8_8 => (intro w hSw; (try dsimp only at hSw); go_simp; first | done | with_reducible rfl)
    (try simp only [Act.put, nm1, nm2, nm3])
    refine wpAnyH_take_at (i := 2) (v := ?v2_9) rfl (by kernel_rfl) (by kernel_rfl) (by kernel_rfl) (fun _ _ _ h => h) (Or.inl ⟨by rfl, ?y2_9⟩) hHeld ?r2_9
    case y2_9 => (intro w hSw; (try dsimp only at hSw); go_simp; first | done | with_reducible rfl)
    (try simp only [Act.put, nm1, nm2, nm3])
    refine wpAnyH_take_at (i := 5) (v := ?v5_10) rfl (by kernel_rfl) (by kernel_rfl) (by kernel_rfl) (fun _ _ _ h => h) (Or.inl ⟨by rfl, ?y5_10⟩) hHeld ?r5_10
    case y5_10 => (intro w hSw; (try dsimp only at hSw); go_simp; first | done | with_reducible rfl)
    (try simp only [Act.put, nm1, nm2, nm3])
    refine wpAnyH_one (i := 0) (by kernel_rfl) rfl (fun KK hK => ?_)
    have hkE : Keeps (fun _ => False) w5 (w5.alloc (.cells #[] 40)) := (Keeps.refl _ _).alloc _
    have hlew5 : LB ≤ w5.heap.size := by have := HE3.out.size; have := HLB.out; omega
    have HRW : Hid (OwnK rolE LB (w5.alloc (.cells #[] 40)) (.slice (some ⟨w5.heap.size, 0, none⟩) 0 0) ([] : List Rol)) := ownK_lit rolE hlew5
    have HS11 := Lib.hid (((hkE).block _ (lt_of_heap HS2.out) (fun x => x)).trans HS2.out)
    have HE12 := Lib.hid (HE3.out.trans (hkE))
    have HK13 := Lib.hid (HK4.out.trans hkE)
    go_simp
    refine hK.out _ _ ?s_14 (fun hHeld => ?_)
    case s_14 => exact HMK1.out _ HS11.out
    clear hK KK
    (try simp only [Act.put, nm1, nm2, nm3])
    clear hkE hlew5 HS2 HE3 HK4
    generalize Value.slice (some ⟨w5.heap.size, 0, none⟩) 0 0 = rv at *
    generalize (w5.alloc (.cells #[] 40)) = w15 at *
    refine wpAnyH_one (i := 3) (by kernel_rfl) rfl (fun KK hK => ?_)
    have hlo16 : LB ≤ w15.heap.size := by have := HE12.out.size; have := HLB.out; omega
    have hsrc16 : SrcK rolE w15 _ l1 := HX1.out.keeps HE12.out
    refine step_app_k (E := rolE) rfl (.tmp 20) (.tmp 22) rfl LB rv [] (by simp [Act.eval, Act.put] <;> rfl) HRW.out _ l1 (by simp [Act.eval, Act.put] <;> rfl) hsrc16 (by have := HN1.out; have := HN2.out; simp; omega) hlo16 ?_
    intro v16 w16 ho hk
    have kG : Keeps (fun q => LB ≤ q) w15 w16 := hk.mono (fun q _ e => own_block HRW.out q e)
    have HS17 := Lib.hid (((kG).block _ (lt_of_heap HS11.out) (by have := HN.out; show ¬ _ ≤ _; omega)).trans HS11.out)
    have HE18 := Lib.hid (HE12.out.trans_new (kG) (fun q hq hx => by have hx : _ ≤ q := hx; have := HLB.out; omega))
    have HK19 := Lib.hid (HK13.out.trans_new kG (fun q hq hx => by have hx : LB ≤ q := hx; have := HAB.out; omega))
    replace HRW := Lib.hid ho
    (try go_simp)
    refine hK.out _ _ ?s_20 (fun hHeld => ?_)
    case s_20 => exact HMK1.out _ HS17.out
    clear hK KK
    (try simp only [Act.put, nm1, nm2, nm3])
    clear kG ho hk hlo16 hsrc16 HS11 HE12 HK13
    refine wpAnyH_one (i := 6) (by kernel_rfl) rfl (fun KK hK => ?_)
    have hlo21 : LB ≤ w16.heap.size := by have := HE18.out.size; have := HLB.out; omega
    have hsrc21 : SrcK rolE w16 _ l2 := HX2.out.keeps HE18.out
    refine step_app_k (E := rolE) rfl (.tmp 23) (.tmp 25) rfl LB v16 ([] ++ l1) (by simp [Act.eval, Act.put] <;> rfl) HRW.out _ l2 (by simp [Act.eval, Act.put] <;> rfl) hsrc21 (by have := HN1.out; have := HN2.out; simp; omega) hlo21 ?_
    intro v21 w21 ho hk
    have kG : Keeps (fun q => LB ≤ q) w16 w21 := hk.mono (fun q _ e => own_block HRW.out q e)
    have HS22 := Lib.hid (((kG).block _ (lt_of_heap HS17.out) (by have := HN.out; show ¬ _ ≤ _; omega)).trans HS17.out)
    have HE23 := Lib.hid (HE18.out.trans_new (kG) (fun q hq hx => by have hx : _ ≤ q := hx; have := HLB.out; omega))
    have HK24 := Lib.hid (HK19.out.trans_new kG (fun q hq hx => by have hx : LB ≤ q := hx; have := HAB.out; omega))
    replace HRW := Lib.hid ho
    (try go_simp)
    refine hK.out _ _ ?s_25 (fun hHeld => ?_)
    case s_25 => exact HMK1.out _ HS22.out
    clear hK KK
    (try simp only [Act.put, nm1, nm2, nm3])
    clear kG ho hk hlo21 hsrc21 HS17 HE18 HK19
    obtain ⟨aoR, cpR, hvR, hleR, hrR⟩ := id HRW.out.reads
    have hlm : ([] ++ l1 ++ l2).length = n1 + n2 := by have := HN1.out; have := HN2.out; simp; omega
    rw [hlm] at hvR
    obtain ⟨nR, hnR⟩ : ∃ q, n1 + n2 = q := ⟨_, rfl⟩
    rw [hnR] at hvR
    have hnR2 : nR ≤ 200 := by omega
    subst hvR
    clear hrR hleR
    refine wpAnyH_one (i := 7) (by kernel_rfl) rfl (fun KK hK => ?_)
    go_simp
    refine hK.out _ _ ?s_26 (fun hHeld => ?_)
    case s_26 => exact HMK1.out _ HS22.out
    clear hK KK
    (try simp only [Act.put, nm1, nm2, nm3])
    refine wpAnyH_done (by kernel_rfl) ?_ _
    refine NoPanic.normal ?_
    clear hHeld HMK1
    have HVR : Hid (RdK rolE w21 (.slice aoR nR cpR) ([] ++ l1 ++ l2)) := HRW.out.reads
    have HV3Z := Lib.hid (HV3.out.keeps HE23.out)
    generalize w21 = WZ at *
    have HKZ := Lib.hid HE23.out
    have HKY := Lib.hid HK24.out
    have HSZ := Lib.hid HS22.out
    have HST : Hid (Keeps (fun _ => False) WZ WZ) := Keeps.refl _ _
    clear HRW HE23 HK24 HS22 HV0 HV1 HV2 HV3 HN HLZ
    go_wp2_with fail
    go_loopg [28] nR (fun g t wx => ∃ i : Nat, i ≤ nR ∧ g = nR - i ∧ t = .int .i64 i ∧ Hid (Keeps (fun _ => False) WZ wx))
    case atStart => exact ⟨0, Nat.zero_le _, rfl, rfl, HST⟩
    case round =>
     obtain ⟨i, hi, rfl, rfl, HI0⟩ := hrel
     have HI : Hid (Keeps (fun _ => False) WZ wr ∧ True) := ⟨HI0.out, trivial⟩
     clear HST HI0 
     by_cases hlt : i < nR
     · skip
       have hiI : (i : Int) < (nR : Int) := by omega
       have hwi : IntKind.i64.wrap ((i : Int) + 1) = (i : Int) + 1 := IntWalk.i64_in _ (by omega)
       have hrd := HVR.out.keeps HI.out.1
       obtain ⟨aoz, cpz, ez, hez, hrz⟩ := hrd
       have hll : ([] ++ l1 ++ l2).length = nR := by simpa using (Value.slice.inj ez).2.1.symm
       obtain ⟨y, hy⟩ : ∃ y, ([] ++ l1 ++ l2)[i]? = some y := ⟨_, List.getElem?_eq_getElem (by rw [hll]; exact hlt)⟩
       obtain ⟨g, off, hao, hg, hcc⟩ := hrz (by omega)
       simp only [Value.slice.injEq] at ez
       obtain ⟨rfl, hzz, rfl⟩ := ez
       subst hao
       have hicap : i < cpR := by omega
       have hc := hcc i y hy
       have HY := Lib.hid hy
       obtain ⟨yr1, yr2⟩ := y
       clear hcc hrz hez hzz hy hll
       have c0 : wr.cell? ⟨g, off + i * 2, none⟩ = some (.string ⟨yr1.toArray⟩) := hc 0 _ rfl
       have c1 : wr.cell? ⟨g, off + i * 2 + 1, none⟩ = some (.string ⟨yr2.toArray⟩) := hc 1 _ rfl
       clear hc
       have hal := (MapKept.heap_alloc wr (.cells #[.string ⟨yr1.toArray⟩, .string ⟨yr2.toArray⟩] 40)).1
       have hka : Keeps (fun _ => False) wr (wr.alloc (.cells #[.string ⟨yr1.toArray⟩, .string ⟨yr2.toArray⟩] 40)) := (Keeps.refl _ _).alloc _
       obtain ⟨b, hb⟩ : ∃ b, wr.heap.size = b := ⟨_, rfl⟩
       rw [hb] at hal
       have HB := Lib.hid hal
       have HC := Lib.hid (HRR.out (yr1, yr2) (List.mem_of_getElem? HY.out))
       have HO : Hid (Keeps (fun _ => False) WZ (wr.alloc (.cells #[.string ⟨yr1.toArray⟩, .string ⟨yr2.toArray⟩] 40))) := HI.out.1.trans hka
       go_upto_region 10 with fail
       clear hal hka hb HI HY c0 c1
       generalize wr.alloc (.cells #[.string ⟨yr1.toArray⟩, .string ⟨yr2.toArray⟩] 40) = w1 at *
       obtain ⟨p0, f0, p1, f1⟩ := cf2 HB.out
       go_wp2_with fail
       refine (HC.out _).mono ?_
       rintro e w2 ⟨rfl, hk⟩
       have HN2 : Hid (Keeps (fun _ => False) WZ w2) := HO.out.trans hk.out
       clear HO hk HB HC p0 f0 p1 f1
       go_wp2_with fail
       go_roundg (nR - (i + 1))
       case measure => omega
       case rel => exact ⟨i + 1, by omega, rfl, by go_num, HN2⟩
     · obtain rfl : nR = i := by omega
       have hiI : ¬ (nR : Int) < (nR : Int) := by omega
       have HZ : Hid (Keeps (fun _ => False) WZ wr) := HI.out.1
       clear HI
       obtain ⟨Sc0, Sf0, Sc1, Sf1, Sc2, Sf2, Sc3, Sf3⟩ := cf4 ((HZ.out.block _ (lt_of_heap HSZ.out) (fun x => x)).trans HSZ.out)
       have HST := HZ
       clear HZ
       go_wp2_with fail
       go_loopg [39] n3 (fun g t wx => ∃ i : Nat, i ≤ n3 ∧ g = n3 - i ∧ t = .int .i64 i ∧ Hid (Keeps (fun _ => False) WZ wx))
       case atStart => exact ⟨0, Nat.zero_le _, rfl, rfl, HST⟩
       case round =>
        obtain ⟨i, hi, rfl, rfl, HI0⟩ := hrel
        have HI : Hid (Keeps (fun _ => False) WZ wr ∧ True) := ⟨HI0.out, trivial⟩
        clear HST HI0 Sc0 Sf0 Sc1 Sf1 Sc2 Sf2 Sc3 Sf3
        by_cases hlt : i < n3
        · skip
          have hiI : (i : Int) < (n3 : Int) := by omega
          have hwi : IntKind.i64.wrap ((i : Int) + 1) = (i : Int) + 1 := IntWalk.i64_in _ (by omega)
          have hrd := HV3Z.out.keeps HI.out.1
          obtain ⟨aoz, cpz, ez, hez, hrz⟩ := hrd
          have hll : lv.length = n3 := by simpa using (Value.slice.inj ez).2.1.symm
          obtain ⟨y, hy⟩ : ∃ y, lv[i]? = some y := ⟨_, List.getElem?_eq_getElem (by rw [hll]; exact hlt)⟩
          obtain ⟨g, off, hao, hg, hcc⟩ := hrz (by omega)
          simp only [Value.slice.injEq] at ez
          obtain ⟨rfl, hzz, rfl⟩ := ez
          subst hao
          have hicap : i < cp3 := by omega
          have hc := hcc i y hy
          have HY := Lib.hid hy
          obtain ⟨yk, ⟨ya1, ya2⟩, ⟨yb1, yb2⟩, yo, yn, yc⟩ := y
          clear hcc hrz hez hzz hy hll
          have c0 : wr.cell? ⟨g, off + i * 6, none⟩ = some (.int .i64 yk) := hc 0 _ rfl
          have c1 : wr.cell? ⟨g, off + i * 6 + 1, none⟩ = some (.string ⟨ya1.toArray⟩) := hc 1 _ rfl
          have c2 : wr.cell? ⟨g, off + i * 6 + 2, none⟩ = some (.string ⟨ya2.toArray⟩) := hc 2 _ rfl
          have c3 : wr.cell? ⟨g, off + i * 6 + 3, none⟩ = some (.string ⟨yb1.toArray⟩) := hc 3 _ rfl
          have c4 : wr.cell? ⟨g, off + i * 6 + 4, none⟩ = some (.string ⟨yb2.toArray⟩) := hc 4 _ rfl
          have c5 : wr.cell? ⟨g, off + i * 6 + 5, none⟩ = some (.slice yo yn yc) := hc 5 _ rfl
          clear hc
          have hal := (MapKept.heap_alloc wr (.cells #[.int .i64 yk, .string ⟨ya1.toArray⟩, .string ⟨ya2.toArray⟩, .string ⟨yb1.toArray⟩, .string ⟨yb2.toArray⟩, .slice yo yn yc] 49)).1
          have hka : Keeps (fun _ => False) wr (wr.alloc (.cells #[.int .i64 yk, .string ⟨ya1.toArray⟩, .string ⟨ya2.toArray⟩, .string ⟨yb1.toArray⟩, .string ⟨yb2.toArray⟩, .slice yo yn yc] 49)) := (Keeps.refl _ _).alloc _
          obtain ⟨b, hb⟩ : ∃ b, wr.heap.size = b := ⟨_, rfl⟩
          rw [hb] at hal
          have HB := Lib.hid hal
          obtain ⟨q, hq⟩ : ∃ q, l3[i]? = some q := ⟨_, List.getElem?_eq_getElem (by rw [HN3.out]; exact hlt)⟩
          have hrq := HQ.out i q _ hq HY.out
          have HC0 := Lib.hid (HQR.out q (List.mem_of_getElem? hq))
          obtain ⟨zk, ⟨za1, za2⟩, ⟨zb1, zb2⟩, zw⟩ := q
          obtain ⟨rfl, e1, e2, hz⟩ := hrq
          simp only [Prod.mk.injEq] at e1 e2
          obtain ⟨rfl, rfl⟩ := e1
          obtain ⟨rfl, rfl⟩ := e2
          have hz1 : ReadsS W (.slice yo yn yc) zw := hz.1
          have HC : Hid (∀ w, Keeps (fun _ => False) W w → Calls Tryz.prog 42 #[.agg #[.int .i64 yk, .string ⟨ya1.toArray⟩, .string ⟨ya2.toArray⟩, .string ⟨yb1.toArray⟩, .string ⟨yb2.toArray⟩, .slice yo yn yc]] w fun e W' => e = .returned (.bool true) ∧ Hid (Keeps (fun _ => False) w W')) := fun w hk => HC0.out _ w (hz1.keeps hk)
          clear hz hz1 hq HC0
          have HO : Hid (Keeps (fun _ => False) WZ (wr.alloc (.cells #[.int .i64 yk, .string ⟨ya1.toArray⟩, .string ⟨ya2.toArray⟩, .string ⟨yb1.toArray⟩, .string ⟨yb2.toArray⟩, .slice yo yn yc] 49))) := HI.out.1.trans hka
          go_upto_region 16 with fail
          clear hal hka hb HI HY c0 c1 c2 c3 c4 c5
          generalize wr.alloc (.cells #[.int .i64 yk, .string ⟨ya1.toArray⟩, .string ⟨ya2.toArray⟩, .string ⟨yb1.toArray⟩, .string ⟨yb2.toArray⟩, .slice yo yn yc] 49) = w1 at *
          obtain ⟨p0, f0, p1, f1, p2, f2, p3, f3, p4, f4, p5, f5⟩ := cf6 HB.out
          go_wp2_with fail
          refine (HC.out _ (HKY.out.trans HO.out)).mono ?_
          rintro e w2 ⟨rfl, hk⟩
          have HN2 : Hid (Keeps (fun _ => False) WZ w2) := HO.out.trans hk.out
          clear HO hk HB HC p0 f0 p1 f1 p2 f2 p3 f3 p4 f4 p5 f5
          go_wp2_with fail
          go_roundg (n3 - (i + 1))
          case measure => omega
          case rel => exact ⟨i + 1, by omega, rfl, by go_num, HN2⟩
        · obtain rfl : n3 = i := by omega
          have hiI : ¬ (n3 : Int) < (n3 : Int) := by omega
          have HZ : Hid (Keeps (fun _ => False) WZ wr) := HI.out.1
          clear HI
          have HS9 := Lib.hid ((HZ.out.block _ (lt_of_heap HSZ.out) (fun x => x)).trans HSZ.out)
          have HK9 : Hid (Keeps (fun _ => False) W wr) := HKY.out.trans HZ.out
          have HZ9 : Hid (Keeps (fun _ => False) WB wr) := HKZ.out.trans HZ.out
          have HC1 : Hid (∀ w, Keeps (fun _ => False) WB w → Calls Tryz.prog 43 #[.slice ao0 n0 cp0] w fun e W' => ∃ v', e = .returned v' ∧ Hid (Keeps (fun _ => False) w W' ∧ (Calls Tryz.prog 36 #[.slice ao0 n0 cp0, v'] W' fun e W2 => e = .returned (.bool true) ∧ Hid (Keeps (fun _ => False) W' W2)))) := fun w hk => (rsortm_spec (rdk_m.1 (HX0.out.1.keeps hk)) (by have := HN0.out; omega)).mono fun _ W' ⟨v', q1, q2⟩ => ⟨v', q1, q2.out.1, (msame_spec (rdk_m.1 ((HX0.out.1.keeps hk).keeps q2.out.1)) (rdk_m.1 q2.out.2.reads) (by have := HN0.out; omega) HO0.out).mono fun _ _ ⟨e, nq, r⟩ => ⟨e, by rw [r]; exact Lib.hid ((Keeps.refl _ _).drewN nq)⟩⟩
          have HC2 : Hid (∀ w, Keeps (fun _ => False) WB w → Calls Tryz.prog 44 #[.slice ao1 n1 cp1] w fun e W' => ∃ v', e = .returned v' ∧ Hid (Keeps (fun _ => False) w W' ∧ (Calls Tryz.prog 37 #[.slice ao1 n1 cp1, v'] W' fun e W2 => e = .returned (.bool true) ∧ Hid (Keeps (fun _ => False) W' W2)))) := fun w hk => (rsortr_spec (rdk_r.1 (HX1.out.1.keeps hk)) (by have := HN1.out; omega)).mono fun _ W' ⟨v', q1, q2⟩ => ⟨v', q1, q2.out.1, (rsame_spec (rdk_r.1 ((HX1.out.1.keeps hk).keeps q2.out.1)) (rdk_r.1 q2.out.2.reads) (by have := HN1.out; omega) HO1.out).mono fun _ _ ⟨e, nq, r⟩ => ⟨e, by rw [r]; exact Lib.hid ((Keeps.refl _ _).drewN nq)⟩⟩
          have HC3 : Hid (∀ w, Keeps (fun _ => False) WB w → Calls Tryz.prog 44 #[.slice ao2 n2 cp2] w fun e W' => ∃ v', e = .returned v' ∧ Hid (Keeps (fun _ => False) w W' ∧ (Calls Tryz.prog 37 #[.slice ao2 n2 cp2, v'] W' fun e W2 => e = .returned (.bool true) ∧ Hid (Keeps (fun _ => False) W' W2)))) := fun w hk => (rsortr_spec (rdk_r.1 (HX2.out.1.keeps hk)) (by have := HN2.out; omega)).mono fun _ W' ⟨v', q1, q2⟩ => ⟨v', q1, q2.out.1, (rsame_spec (rdk_r.1 ((HX2.out.1.keeps hk).keeps q2.out.1)) (rdk_r.1 q2.out.2.reads) (by have := HN2.out; omega) HO2.out).mono fun _ _ ⟨e, nq, r⟩ => ⟨e, by rw [r]; exact Lib.hid ((Keeps.refl _ _).drewN nq)⟩⟩
          clear HSZ HKY HKZ HZ HX0 HX1 HX2 HVR HV3Z HLB HAB HO0 HO1 HO2 HSR HRR HQR HQ
          go_upto_region 19 with fail
          have HMK27 : Hid (∀ w' : World, w'.heap[W.heap.size]? = some (.cells #[.slice ao0 n0 cp0, .slice ao1 n1 cp1, .slice ao2 n2 cp2, .slice ao3 n3 cp3] 57) → w'.cell? ⟨W.heap.size, 0, none⟩ = some (.slice ao0 n0 cp0) ∧ w'.cell? ⟨W.heap.size, 1, none⟩ = some (.slice ao1 n1 cp1) ∧ w'.cell? ⟨W.heap.size, 2, none⟩ = some (.slice ao2 n2 cp2) ∧ w'.cell? ⟨W.heap.size, 3, none⟩ = some (.slice ao3 n3 cp3) ∧ Hid (w'.heap[W.heap.size]? = some (.cells #[.slice ao0 n0 cp0, .slice ao1 n1 cp1, .slice ao2 n2 cp2, .slice ao3 n3 cp3] 57))) := fun w' h0 => ⟨(by rw [cell_of_heap h0]; rfl), (by rw [cell_of_heap h0]; rfl), (by rw [cell_of_heap h0]; rfl), (by rw [cell_of_heap h0]; rfl), Lib.hid h0⟩
          have hkd : Keeps (fun _ => False) wr wr.drew := (Keeps.refl _ _).drew
          have HS28 := Lib.hid (((hkd).block _ (lt_of_heap HS9.out) (fun x => x)).trans HS9.out)
          have HE29 := Lib.hid (HZ9.out.trans (hkd))
          have HK30 := Lib.hid (HK9.out.drew)
          have hS0 := HMK27.out wr.drew HS28.out
          clear hkd HS9 HZ9 HK9
          refine wp_region_noPanic ?_
          refine wp_region_held_drew (S := (fun w' => w'.cell? ⟨W.heap.size, 0, none⟩ = some (.slice ao0 n0 cp0) ∧ w'.cell? ⟨W.heap.size, 1, none⟩ = some (.slice ao1 n1 cp1) ∧ w'.cell? ⟨W.heap.size, 2, none⟩ = some (.slice ao2 n2 cp2) ∧ w'.cell? ⟨W.heap.size, 3, none⟩ = some (.slice ao3 n3 cp3) ∧ Hid (w'.heap[W.heap.size]? = some (.cells #[.slice ao0 n0 cp0, .slice ao1 n1 cp1, .slice ao2 n2 cp2, .slice ao3 n3 cp3] 57)))) (by kernel_rfl) hS0 (fun hHeld => ?_)
          clear hS0
          generalize wr.drew = w31 at *
          refine wpAnyH_take_at (i := 0) (v := ?v0_32) rfl (by kernel_rfl) (by kernel_rfl) (by kernel_rfl) (fun _ _ _ h => h) (Or.inl ⟨by rfl, ?y0_32⟩) hHeld ?r0_32
          case y0_32 => (intro w hSw; (try dsimp only at hSw); go_simp; first | done | with_reducible rfl)
          (try simp only [Act.put, nm1, nm2, nm3])
          refine wpAnyH_take_at (i := 2) (v := ?v2_33) rfl (by kernel_rfl) (by kernel_rfl) (by kernel_rfl) (fun _ _ _ h => h) (Or.inl ⟨by rfl, ?y2_33⟩) hHeld ?r2_33
          case y2_33 => (intro w hSw; (try dsimp only at hSw); go_simp; first | done | with_reducible rfl)
          (try simp only [Act.put, nm1, nm2, nm3])
          refine wpAnyH_take_at (i := 1) (v := ?v1_34) rfl (by kernel_rfl) (by kernel_rfl) (by kernel_rfl) (fun _ _ _ h => h) (Or.inl ⟨by rfl, ?y1_34⟩) hHeld ?r1_34
          case y1_34 => (intro w hSw; (try dsimp only at hSw); go_simp; first | done | with_reducible rfl)
          (try simp only [Act.put, nm1, nm2, nm3])
          refine wpAnyH_take_at (i := 3) (v := ?v3_35) rfl (by kernel_rfl) (by kernel_rfl) (by kernel_rfl) (fun _ _ _ h => h) (Or.inl ⟨by rfl, ?y3_35⟩) hHeld ?r3_35
          case y3_35 => (intro w hSw; (try dsimp only at hSw); go_simp; first | done | with_reducible rfl)
          (try simp only [Act.put, nm1, nm2, nm3])
          refine wpAnyH_one (i := 4) (by kernel_rfl) rfl (fun KK hK => ?_)
          go_simp
          refine (HC1.out _ HE29.out).mono ?_
          rintro e w37 ⟨sv36, rfl, hk⟩
          have HSA36 := Lib.hid hk.out.2
          have HS38 := Lib.hid (((hk.out.1).block _ (lt_of_heap HS28.out) (fun x => x)).trans HS28.out)
          have HE39 := Lib.hid (HE29.out.trans (hk.out.1))
          have HK40 := Lib.hid (HK30.out.trans hk.out.1)
          clear hk HC1 HS28 HE29 HK30
          go_simp
          refine hK.out _ _ ?s_41 (fun hHeld => ?_)
          case s_41 => exact HMK27.out _ HS38.out
          clear hK KK
          (try simp only [Act.put, nm1, nm2, nm3])
          refine wpAnyH_one (i := 5) (by kernel_rfl) rfl (fun KK hK => ?_)
          go_simp
          refine (HSA36.out).mono ?_
          rintro e w42 ⟨rfl, hk⟩
          have HS43 := Lib.hid (((hk.out).block _ (lt_of_heap HS38.out) (fun x => x)).trans HS38.out)
          have HE44 := Lib.hid (HE39.out.trans (hk.out))
          have HK45 := Lib.hid (HK40.out.trans hk.out)
          clear hk HSA36 HS38 HE39 HK40
          go_simp
          refine hK.out _ _ ?s_46 (fun hHeld => ?_)
          case s_46 => exact HMK27.out _ HS43.out
          clear hK KK
          (try simp only [Act.put, nm1, nm2, nm3])
          refine wpAnyH_one (i := 6) (by kernel_rfl) rfl (fun KK hK => ?_)
          go_simp
          refine hK.out _ _ ?s_47 (fun hHeld => ?_)
          case s_47 => exact HMK27.out _ HS43.out
          clear hK KK
          (try simp only [Act.put, nm1, nm2, nm3])
          refine wpAnyH_take_at (i := 7) (v := ?v7_48) rfl (by kernel_rfl) (by kernel_rfl) (by kernel_rfl) (fun _ _ _ h => h) (Or.inl ⟨by rfl, ?y7_48⟩) hHeld ?r7_48
          case y7_48 => (intro w hSw; (try dsimp only at hSw); go_simp; first | done | with_reducible rfl)
          (try simp only [Act.put, nm1, nm2, nm3])
          refine wpAnyH_take_at (i := 9) (v := ?v9_49) rfl (by kernel_rfl) (by kernel_rfl) (by kernel_rfl) (fun _ _ _ h => h) (Or.inl ⟨by rfl, ?y9_49⟩) hHeld ?r9_49
          case y9_49 => (intro w hSw; (try dsimp only at hSw); go_simp; first | done | with_reducible rfl)
          (try simp only [Act.put, nm1, nm2, nm3])
          refine wpAnyH_take_at (i := 8) (v := ?v8_50) rfl (by kernel_rfl) (by kernel_rfl) (by kernel_rfl) (fun _ _ _ h => h) (Or.inl ⟨by rfl, ?y8_50⟩) hHeld ?r8_50
          case y8_50 => (intro w hSw; (try dsimp only at hSw); go_simp; first | done | with_reducible rfl)
          (try simp only [Act.put, nm1, nm2, nm3])
          refine wpAnyH_take_at (i := 10) (v := ?v10_51) rfl (by kernel_rfl) (by kernel_rfl) (by kernel_rfl) (fun _ _ _ h => h) (Or.inl ⟨by rfl, ?y10_51⟩) hHeld ?r10_51
          case y10_51 => (intro w hSw; (try dsimp only at hSw); go_simp; first | done | with_reducible rfl)
          (try simp only [Act.put, nm1, nm2, nm3])
          refine wpAnyH_one (i := 11) (by kernel_rfl) rfl (fun KK hK => ?_)
          go_simp
          refine (HC2.out _ HE44.out).mono ?_
          rintro e w53 ⟨sv52, rfl, hk⟩
          have HSA52 := Lib.hid hk.out.2
          have HS54 := Lib.hid (((hk.out.1).block _ (lt_of_heap HS43.out) (fun x => x)).trans HS43.out)
          have HE55 := Lib.hid (HE44.out.trans (hk.out.1))
          have HK56 := Lib.hid (HK45.out.trans hk.out.1)
          clear hk HC2 HS43 HE44 HK45
          go_simp
          refine hK.out _ _ ?s_57 (fun hHeld => ?_)
          case s_57 => exact HMK27.out _ HS54.out
          clear hK KK
          (try simp only [Act.put, nm1, nm2, nm3])
          refine wpAnyH_one (i := 12) (by kernel_rfl) rfl (fun KK hK => ?_)
          go_simp
          refine (HSA52.out).mono ?_
          rintro e w58 ⟨rfl, hk⟩
          have HS59 := Lib.hid (((hk.out).block _ (lt_of_heap HS54.out) (fun x => x)).trans HS54.out)
          have HE60 := Lib.hid (HE55.out.trans (hk.out))
          have HK61 := Lib.hid (HK56.out.trans hk.out)
          clear hk HSA52 HS54 HE55 HK56
          go_simp
          refine hK.out _ _ ?s_62 (fun hHeld => ?_)
          case s_62 => exact HMK27.out _ HS59.out
          clear hK KK
          (try simp only [Act.put, nm1, nm2, nm3])
          refine wpAnyH_one (i := 13) (by kernel_rfl) rfl (fun KK hK => ?_)
          go_simp
          refine hK.out _ _ ?s_63 (fun hHeld => ?_)
          case s_63 => exact HMK27.out _ HS59.out
          clear hK KK
          (try simp only [Act.put, nm1, nm2, nm3])
          refine wpAnyH_one (i := 14) (by kernel_rfl) rfl (fun KK hK => ?_)
          go_simp
          refine hK.out _ _ ?s_64 (fun hHeld => ?_)
          case s_64 => exact HMK27.out _ HS59.out
          clear hK KK
          (try simp only [Act.put, nm1, nm2, nm3])
          refine wpAnyH_take_at (i := 15) (v := ?v15_65) rfl (by kernel_rfl) (by kernel_rfl) (by kernel_rfl) (fun _ _ _ h => h) (Or.inl ⟨by rfl, ?y15_65⟩) hHeld ?r15_65
          case y15_65 => (intro w hSw; (try dsimp only at hSw); go_simp; first | done | with_reducible rfl)
          (try simp only [Act.put, nm1, nm2, nm3])
          refine wpAnyH_take_at (i := 17) (v := ?v17_66) rfl (by kernel_rfl) (by kernel_rfl) (by kernel_rfl) (fun _ _ _ h => h) (Or.inl ⟨by rfl, ?y17_66⟩) hHeld ?r17_66
          case y17_66 => (intro w hSw; (try dsimp only at hSw); go_simp; first | done | with_reducible rfl)
          (try simp only [Act.put, nm1, nm2, nm3])
          refine wpAnyH_take_at (i := 16) (v := ?v16_67) rfl (by kernel_rfl) (by kernel_rfl) (by kernel_rfl) (fun _ _ _ h => h) (Or.inl ⟨by rfl, ?y16_67⟩) hHeld ?r16_67
          case y16_67 => (intro w hSw; (try dsimp only at hSw); go_simp; first | done | with_reducible rfl)
          (try simp only [Act.put, nm1, nm2, nm3])
          refine wpAnyH_take_at (i := 18) (v := ?v18_68) rfl (by kernel_rfl) (by kernel_rfl) (by kernel_rfl) (fun _ _ _ h => h) (Or.inl ⟨by rfl, ?y18_68⟩) hHeld ?r18_68
          case y18_68 => (intro w hSw; (try dsimp only at hSw); go_simp; first | done | with_reducible rfl)
          (try simp only [Act.put, nm1, nm2, nm3])
          refine wpAnyH_one (i := 19) (by kernel_rfl) rfl (fun KK hK => ?_)
          go_simp
          refine (HC3.out _ HE60.out).mono ?_
          rintro e w70 ⟨sv69, rfl, hk⟩
          have HSA69 := Lib.hid hk.out.2
          have HS71 := Lib.hid (((hk.out.1).block _ (lt_of_heap HS59.out) (fun x => x)).trans HS59.out)
          have HE72 := Lib.hid (HE60.out.trans (hk.out.1))
          have HK73 := Lib.hid (HK61.out.trans hk.out.1)
          clear hk HC3 HS59 HE60 HK61
          go_simp
          refine hK.out _ _ ?s_74 (fun hHeld => ?_)
          case s_74 => exact HMK27.out _ HS71.out
          clear hK KK
          (try simp only [Act.put, nm1, nm2, nm3])
          refine wpAnyH_one (i := 20) (by kernel_rfl) rfl (fun KK hK => ?_)
          go_simp
          refine (HSA69.out).mono ?_
          rintro e w75 ⟨rfl, hk⟩
          have HS76 := Lib.hid (((hk.out).block _ (lt_of_heap HS71.out) (fun x => x)).trans HS71.out)
          have HE77 := Lib.hid (HE72.out.trans (hk.out))
          have HK78 := Lib.hid (HK73.out.trans hk.out)
          clear hk HSA69 HS71 HE72 HK73
          go_simp
          refine hK.out _ _ ?s_79 (fun hHeld => ?_)
          case s_79 => exact HMK27.out _ HS76.out
          clear hK KK
          (try simp only [Act.put, nm1, nm2, nm3])
          refine wpAnyH_one (i := 21) (by kernel_rfl) rfl (fun KK hK => ?_)
          go_simp
          refine hK.out _ _ ?s_80 (fun hHeld => ?_)
          case s_80 => exact HMK27.out _ HS76.out
          clear hK KK
          (try simp only [Act.put, nm1, nm2, nm3])
          refine wpAnyH_one (i := 22) (by kernel_rfl) rfl (fun KK hK => ?_)
          go_simp
          refine hK.out _ _ ?s_81 (fun hHeld => ?_)
          case s_81 => exact HMK27.out _ HS76.out
          clear hK KK
          (try simp only [Act.put, nm1, nm2, nm3])
          refine wpAnyH_take_at (i := 23) (v := ?v23_82) rfl (by kernel_rfl) (by kernel_rfl) (by kernel_rfl) (fun _ _ _ h => h) (Or.inl ⟨by rfl, ?y23_82⟩) hHeld ?r23_82
          case y23_82 => (intro w hSw; (try dsimp only at hSw); go_simp; first | done | with_reducible rfl)
          (try simp only [Act.put, nm1, nm2, nm3])
          refine wpAnyH_one (i := 24) (by kernel_rfl) rfl (fun KK hK => ?_)
          go_simp
          refine (HFI.out _ HK78.out).mono ?_
          rintro e w83 ⟨rfl, hk⟩
          have HS84 := Lib.hid (((hk.out).block _ (lt_of_heap HS76.out) (fun x => x)).trans HS76.out)
          have HE85 := Lib.hid (HE77.out.trans (hk.out))
          have HK86 := Lib.hid (HK78.out.trans hk.out)
          clear hk HFI HS76 HE77 HK78
          go_simp
          refine hK.out _ _ ?s_87 (fun hHeld => ?_)
          case s_87 => exact HMK27.out _ HS84.out
          clear hK KK
          (try simp only [Act.put, nm1, nm2, nm3])
          refine wpAnyH_one (i := 25) (by kernel_rfl) rfl (fun KK hK => ?_)
          go_simp
          refine hK.out _ _ ?s_88 (fun hHeld => ?_)
          case s_88 => exact HMK27.out _ HS84.out
          clear hK KK
          (try simp only [Act.put, nm1, nm2, nm3])
          refine wpAnyH_one (i := 26) (by kernel_rfl) rfl (fun KK hK => ?_)
          go_simp
          refine hK.out _ _ ?s_89 (fun hHeld => ?_)
          case s_89 => exact HMK27.out _ HS84.out
          clear hK KK
          (try simp only [Act.put, nm1, nm2, nm3])
          refine wpAnyH_done (by kernel_rfl) ?_ _
          refine NoPanic.normal ?_
          clear hHeld HMK27
          have HE := Lib.hid HK86.out
          clear HK86 HE85 HS84
          go_wp2_with fail
          go_ret
          exact ⟨rfl, HE⟩
end Go.Proofs.YtcdfpnlaklaafaaGreat
