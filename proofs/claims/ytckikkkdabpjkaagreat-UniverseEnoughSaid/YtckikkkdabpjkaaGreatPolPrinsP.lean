/-
 The program's Prins and Names of a policy.
-/
import Derived.Test.YtckikkkdabpjkaaGreatMC
import Derived.Test.YtckikkkdabpjkaaGreatMZ
import Derived.Test.YtckikkkdabpjkaaGreatPolPrins
import Derived.Test.YtckikkkdabpjkaaGreatMJ
set_option linter.unusedVariables false
set_option linter.unusedSimpArgs false
set_option linter.unnecessarySimpa false
namespace Go.Proofs.YtckikkkdabpjkaaGreat
open Go.ChangeShapes Go.WideShapes Go.ChangeAt Go.RowKit Go.Deep
theorem one_srcS (W : World) (x : Str) : SrcS (W.alloc (.cells #[.string ⟨x.toArray⟩] 9)) (.slice (some ⟨W.heap.size, 0, none⟩) 1 1) [x] := by
 have ha := (MapKept.heap_alloc W (.cells #[.string ⟨x.toArray⟩] 9)).1
 refine ⟨⟨_, 1, rfl, Nat.le_refl _, fun _ => ⟨W.heap.size, 0, rfl, lt_of_heap ha, fun j y hj => ?_⟩⟩, fun n cap e => by simp at e⟩
 match j, hj with
 | 0, hj =>
  obtain rfl : x = y := by simpa using hj
  rw [cell_of_heap ha]
  rfl
 | j + 1, hj => simp at hj
theorem OwnS.srcS {base : Nat} {W : World} {v : Value} {l : List Str} (h : OwnS base W v l) : SrcS W v l := by
 refine ⟨h.reads, fun n cap e => ?_⟩
 obtain ⟨ao, cap2, rfl, hle, _, hn, _⟩ := own_form h
 simp only [Value.slice.injEq] at e
 obtain ⟨rfl, _, rfl⟩ := e
 exact (hn rfl).2
/-- All that a policy names, as the program has it. -/
def prinsP (p : Pol) : List Str := (rolesP p).map (·.1) ++ p.1.flatMap prinsS ++ p.2.2.2.flatMap (fun q => q.2.2.2)
def namesP (p : Pol) : List Str := (rolesP p).map (·.2) ++ p.1.flatMap viasS
theorem prinsP_tab (p : Pol) : tabL (prinsP p) = tabL (prinsA p) := tab_eq (tab_rises _) (fun x => by
 rw [tab_mem]
 unfold prinsP prinsA
 simp only [List.mem_append, List.mem_map]
 constructor
 ·rintro ((⟨r, h1, h2⟩ | h) | h)
  ·exact .inl (.inl ⟨r, (rolesP_mem p r).2 h1, h2⟩)
  ·exact .inl (.inr h)
  ·exact .inr h
 ·rintro ((⟨r, h1, h2⟩ | h) | h)
  ·exact .inl (.inl ⟨r, (rolesP_mem p r).1 h1, h2⟩)
  ·exact .inl (.inr h)
  ·exact .inr h)
theorem namesP_tab (p : Pol) : tabL (namesP p) = tabL (namesA p) := tab_eq (tab_rises _) (fun x => by
 rw [tab_mem]
 unfold namesP namesA
 simp only [List.mem_append, List.mem_map]
 constructor
 ·rintro (⟨r, h1, h2⟩ | h)
  ·exact .inl ⟨r, (rolesP_mem p r).2 h1, h2⟩
  ·exact .inr h
 ·rintro (⟨r, h1, h2⟩ | h)
  ·exact .inl ⟨r, (rolesP_mem p r).1 h1, h2⟩
  ·exact .inr h)
theorem rolesP_len {p : Pol} (h : FewR p) : (rolesP p).length ≤ 700 := by
 unfold rolesP
 have h1 := flat_len_le (f := rolesS) (m := 3) rolesS_len p.1
 have h2 := flat_len_le (f := rolesQ) (m := 2) rolesQ_len p.2.2.2
 obtain ⟨q0, q1, q2, q3, _⟩ := h
 simp only [List.length_append]
 omega
theorem map_next {α β : Type} (f : α → β) {l : List α} {i : Nat} {y : α} (h : l[i]? = some y) : (l.map f).take (i + 1) = (l.map f).take i ++ [f y] := by
 rw [List.take_add_one, List.getElem?_map, h]
 rfl
set_option maxRecDepth 100000
set_option maxHeartbeats 3200000
theorem qprins_spec {W : World} (q : Qry) {v : Value} (hv : ReadsS W v q.2.2.2) (hl : q.2.2.2.length ≤ 1000) : Calls Tryz.prog 119 #[qryV q v] W fun e W' => ∃ u, e = .returned u ∧ Hid (SrcS W' u q.2.2.2 ∧ KF W W') := by
 obtain ⟨k, ⟨a1, a2⟩, ⟨b1, b2⟩, wl⟩ := q
 simp only at hv hl
 unfold qryV
 simp only
 obtain ⟨ao, cap, rfl, hle, hrd⟩ := id hv
 have hal := (MapKept.heap_alloc W (.cells #[.int .i64 k, .string ⟨a1.toArray⟩, .string ⟨a2.toArray⟩, .string ⟨b1.toArray⟩, .string ⟨b2.toArray⟩, .slice ao wl.length cap] 31)).1
 obtain ⟨WA, hWA⟩ : ∃ q, W.alloc (.cells #[.int .i64 k, .string ⟨a1.toArray⟩, .string ⟨a2.toArray⟩, .string ⟨b1.toArray⟩, .string ⟨b2.toArray⟩, .slice ao wl.length cap] 31) = q := ⟨_, rfl⟩
 have hk : KF W WA := by rw [← hWA]; exact (Keeps.refl _ _).alloc _
 rw [hWA] at hal
 obtain ⟨c0, f0, c1, f1, c2, f2, c3, f3, c4, f4, c5, f5⟩ := cf6 hal
 have HK := Lib.hid hk
 have HC := Lib.hid (sclone_spec (hv.keeps hk) (by omega))
 clear hal hk hrd
 go_enter Tryz.func119, Tryz.ntmps119
 go_upto_region 1 with fail
 clear hWA
 go_wp2_with fail
 refine HC.out.mono ?_
 rintro e w2 ⟨u, rfl, hu⟩
 have HP : Hid (SrcS w2 u wl ∧ KF W w2) := ⟨hu.out.2.srcS, HK.out.trans hu.out.1⟩
 clear HC hu HK
 go_wp2_with fail
 go_ret
 exact ⟨_, rfl, HP⟩
theorem pprins_spec {W : World} {v0 v1 v2 v3 : Value} {p : Pol} {P : Nat → Prop} (h : PolX W v0 v1 v2 v3 p P) (hl : FewR p) :
 Calls Tryz.prog 67 #[.agg #[v0, v1, v2, v3]] W fun e W' => ∃ v, e = .returned v ∧ Hid (OwnS W.heap.size W' v (tabL (prinsA p)) ∧ KF W W') := by
 have HRO : Hid (∀ w, KF W w → Calls Tryz.prog 118 #[.agg #[v0, v1, v2, v3]] w fun e W' => ∃ v, e = .returned v ∧ Hid (OwnK rolE w.heap.size W' v (rolesP p) ∧ KF w W')) := fun w hk => proles_spec (h.into hk (fun _ _ _ x => x) (fun _ _ x => x)) hl
 have hrl := rolesP_len hl
 have hpt := prinsP_tab p
 rw [← hpt]
 have hdef : Hid (prinsP p = (rolesP p).map (·.1) ++ p.1.flatMap prinsS ++ p.2.2.2.flatMap (fun q => q.2.2.2)) := rfl
 obtain ⟨rl, hrle⟩ : ∃ q, rolesP p = q := ⟨_, rfl⟩
 rw [hrle] at HRO hrl hdef
 obtain ⟨fin, hfin⟩ : ∃ q, prinsP p = q := ⟨_, rfl⟩
 rw [hfin] at hdef ⊢
 clear hpt hrle hfin
 obtain ⟨l0, l1, l2, l3⟩ := p
 simp only at hdef
 obtain ⟨hl0, hl1, hl2, hl3, hlw⟩ := hl
 simp only at hl0 hl1 hl2 hl3 hlw
 obtain ⟨h0, h1, h2, h3⟩ := h
 simp only at h0 h1 h2 h3
 obtain ⟨lv, hlv, h3r, h3q⟩ := id h3
 obtain ⟨ao0, cp0, hv0, hle0, hr0⟩ := id h0.1.1
 obtain ⟨ao1, cp1, hv1, hle1, hr1⟩ := id h1.1.1
 obtain ⟨ao2, cp2, hv2, hle2, hr2⟩ := id h2.1.1
 obtain ⟨ao3, cp3, hv3, hle3, hr3⟩ := id h3r.1.1
 subst hv0 hv1 hv2 hv3
 clear hr0 hr1 hr2 hr3
 obtain ⟨n0, hn0⟩ : ∃ n, l0.length = n := ⟨_, rfl⟩
 obtain ⟨n1, hn1⟩ : ∃ n, l1.length = n := ⟨_, rfl⟩
 obtain ⟨n2, hn2⟩ : ∃ n, l2.length = n := ⟨_, rfl⟩
 obtain ⟨n3, hn3⟩ : ∃ n, l3.length = n := ⟨_, rfl⟩
 rw [hn0] at h0 hle0 hl0 ⊢
 rw [hn1] at h1 hle1 hl1 ⊢
 rw [hn2] at h2 hle2 hl2 ⊢
 rw [hn3] at hlv hl3
 rw [hlv] at h3 h3r hle3 ⊢
 rw [hn0, hn1, hn2, hlv] at HRO
 have HN0 := Lib.hid hn0
 have HN1 := Lib.hid hn1
 have HN2 := Lib.hid hn2
 have HN3 := Lib.hid hn3
 have HLV := Lib.hid hlv
 have HLW := Lib.hid hlw
 have ha := (MapKept.heap_alloc W (bP ao0 n0 cp0 ao1 n1 cp1 ao2 n2 cp2 ao3 n3 cp3)).1
 obtain ⟨WB, hWB⟩ : ∃ q, W.alloc (bP ao0 n0 cp0 ao1 n1 cp1 ao2 n2 cp2 ao3 n3 cp3) = q := ⟨_, rfl⟩
 have hkA : KF W WB := by rw [← hWB]; exact (Keeps.refl _ _).alloc _
 rw [hWB] at ha
 have HS := Lib.hid ha
 have HK0 := Lib.hid hkA
 have HV0 : Hid (RdK stmE WB (.slice ao0 n0 cp0) l0) := h0.1.1.keeps hkA
 have HV1 : Hid (RdK rolE WB (.slice ao1 n1 cp1) l1) := h1.1.1.keeps hkA
 have HV2 : Hid (RdK rolE WB (.slice ao2 n2 cp2) l2) := h2.1.1.keeps hkA
 have HV3 : Hid (RdK qE WB (.slice ao3 n3 cp3) lv) := h3r.1.1.keeps hkA
 have HQ : Hid (∀ (j : Nat) (q : Qry) (qv : QV), l3[j]? = some q → lv[j]? = some qv → RelX W qv q P) := h3q
 obtain ⟨LB, hLB⟩ : ∃ q, WB.heap.size = q := ⟨_, rfl⟩
 have HLB := Lib.hid hLB
 clear ha hkA h0 h1 h2 h3 h3r h3q hlv hn0 hn1 hn2 hn3 hlw hLB
 have HSZ : Hid (W.heap.size ≤ LB) := by have := HK0.out.size; have := HLB.out; show _ ≤ _; omega
 have HRK := Lib.hid (HRO.out _ HK0.out)
 clear HRO
 go_enter Tryz.func67, Tryz.ntmps67
 go_upto_region 1 with fail
 clear hWB
 obtain ⟨Sc0, Sf0, Sc1, Sf1, Sc2, Sf2, Sc3, Sf3⟩ := cf4 HS.out
 go_wp2_with fail
 refine HRK.out.mono ?_
 rintro e w1 ⟨u, rfl, hu⟩
 clear HRK Sc0 Sf0 Sc1 Sf1 Sc2 Sf2 Sc3 Sf3
 obtain ⟨aoR, cpR, hvR, hleR, hrR⟩ := id hu.out.1.reads
 obtain ⟨nR, hnR⟩ : ∃ q, rl.length = q := ⟨_, rfl⟩
 have HVR0 := hu.out.1.reads
 rw [hvR, hnR] at HVR0
 rw [hnR] at hvR hleR hrl
 have HNR := Lib.hid hnR
 have HVR : Hid (RdK rolE w1 (.slice aoR nR cpR) rl) := HVR0
 have HK1 := Lib.hid hu.out.2
 subst hvR
 clear hu hrR HVR0 hnR
 obtain ⟨LC, hLC⟩ : ∃ q, w1.heap.size = q := ⟨_, rfl⟩
 have HLC := Lib.hid hLC
 have HLL : Hid (LB ≤ LC) := by have := HK1.out.size; have := HLB.out; show _ ≤ _; omega
 clear hLC
 have HST : Hid (OwnS LC w1 (.slice none 0 0) [] ∧ KF w1 w1) := ⟨World.ownsRow_nil _ _ _ _, Keeps.refl _ _⟩
 go_wp2_with fail
 go_loopg [3, 13] nR (fun g s t wx => ∃ (i : Nat) (sv : Value), i ≤ nR ∧ g = nR - i ∧ t = .int .i64 i ∧ sv = s ∧ Hid (OwnS LC wx sv ((rl.map (·.1)).take i) ∧ KF w1 wx))
 case atStart => exact ⟨0, _, Nat.zero_le _, rfl, rfl, rfl, HST.out⟩
 case round =>
  clear HST
  obtain ⟨i, sv, hi, rfl, rfl, rfl, HI0⟩ := hrel
  by_cases hlt : i < nR
  ·skip
   have hiI : (i : Int) < (nR : Int) := by omega
   have hwi : IntKind.i64.wrap ((i : Int) + 1) = (i : Int) + 1 := IntWalk.i64_in _ (by omega)
   have hrd := HVR.out.keeps (HI0.out.2)
   obtain ⟨aoz, cpz, ez, hez, hrz⟩ := hrd
   have hll : rl.length = nR := by simpa using (Value.slice.inj ez).2.1.symm
   obtain ⟨y, hy⟩ : ∃ y, rl[i]? = some y := ⟨_, List.getElem?_eq_getElem (by rw [hll]; exact hlt)⟩
   obtain ⟨g, off, hao, hg, hcc⟩ := hrz (by omega)
   simp only [Value.slice.injEq] at ez
   obtain ⟨rfl, hzz, rfl⟩ := ez
   subst hao
   have hicap : i < cpR := by omega
   have hc := hcc i y hy
   have HY := Lib.hid hy
   obtain ⟨yr1, yr2⟩ := y
   clear hcc hrz hez hzz hy hll
   have c0 : wr.cell? ⟨g, off + i * 2, none⟩ = some (.string ⟨yr1.toArray⟩) := hc 0 _ rfl
   have c1 : wr.cell? ⟨g, off + i * 2 + 1, none⟩ = some (.string ⟨yr2.toArray⟩) := hc 1 _ rfl
   have hal := (MapKept.heap_alloc wr (bR yr1 yr2)).1
   have hka : KF wr (wr.alloc (bR yr1 yr2)) := (Keeps.refl _ _).alloc _
   obtain ⟨b, hb⟩ : ∃ b, wr.heap.size = b := ⟨_, rfl⟩
   rw [hb] at hal
   have HB := Lib.hid hal
   have HO : Hid (OwnS LC (wr.alloc (bR yr1 yr2)) sv ((rl.map (·.1)).take i) ∧ KF w1 (wr.alloc (bR yr1 yr2))) := ⟨HI0.out.1.keeps hka, HI0.out.2.trans hka⟩
   have HLE : Hid (((rl.map (·.1)).take i).length ≤ 9000) := by have h7 := List.length_take_le' i (rl.map (·.1)); rw [List.length_map] at h7; have := HNR.out; show _ ≤ _; omega
   go_upto_region 5 with fail
   clear hal hka hb HI0 hc c0 c1
   generalize wr.alloc (bR yr1 yr2) = w2 at *
   obtain ⟨p0, f0, p1, f1⟩ := cf2 HB.out
   have HNX : Hid ((rl.map (·.1)).take (i + 1) = (rl.map (·.1)).take i ++ [yr1]) := map_next _ HY.out
   have HW2 : Hid (LC ≤ (w2.alloc (.cells #[.string ⟨yr1.toArray⟩] 9)).heap.size) := by have h1 := HO.out.2.size; have h2 : w2.heap.size ≤ (w2.alloc (.cells #[.string ⟨yr1.toArray⟩] 9)).heap.size := ((Keeps.refl (fun _ => False) w2).alloc _).size; have := HLC.out; show _ ≤ _; omega
   go_wp2_with (at_builtin; refine app_src rfl _ _ rfl LC sv ((rl.map (·.1)).take i) rfl (HO.out.1.keeps ((Keeps.refl (fun _ => False) _).alloc _)) _ [yr1] rfl (one_srcS w2 yr1) (by have := HLE.out; (try simp only [List.length_cons, List.length_nil]); omega) HW2.out ?_)
   intro v3 w6 ho hk
   have HN : Hid (OwnS LC w6 v3 ((rl.map (·.1)).take (i + 1)) ∧ KF w1 w6) := ⟨by rw [HNX.out]; have ho2 := ho; (try simp only [List.append_assoc] at ho2); (try simp only [List.append_assoc]); exact ho2, (HO.out.2.trans ((Keeps.refl _ _).alloc _)).trans_new hk (fun x hx e => by have e : LC ≤ x := e; have := HLC.out; omega)⟩
   clear HO HW2 HLE HNX HB ho hk p0 f0 p1 f1
   go_wp2_with fail
   go_roundg (nR - (i + 1))
   case measure => omega
   case rel => exact ⟨i + 1, v3, by omega, rfl, by go_num, rfl, HN⟩
  ·obtain rfl : nR = i := by omega
   have hiI : ¬ (nR : Int) < (nR : Int) := by omega
   have HU2 : Hid (OwnS LC wr sv (rl.map (·.1)) ∧ KF w1 wr) := by
    have q := HI0.out
    rw [List.take_of_length_le (by rw [List.length_map, HNR.out]; exact Nat.le_refl _)] at q
    exact q
   clear HI0 HVR
   obtain ⟨Sc0, Sf0, Sc1, Sf1, Sc2, Sf2, Sc3, Sf3⟩ := cf4 (((HK1.out.trans HU2.out.2).block _ (lt_of_heap HS.out) (fun x => x)).trans HS.out)
   generalize wr = w7 at *
   generalize sv = s7 at *
   go_wp2_with fail
   go_loopg [3, 26] n0 (fun g s t wx => ∃ (i : Nat) (sv : Value), i ≤ n0 ∧ g = n0 - i ∧ t = .int .i64 i ∧ sv = s ∧ Hid (OwnS LC wx sv (rl.map (·.1) ++ (l0.take i).flatMap prinsS) ∧ KF w1 wx))
   case atStart => exact ⟨0, _, Nat.zero_le _, rfl, rfl, rfl, by rw [List.take_zero, List.flatMap_nil, List.append_nil]; exact HU2.out⟩
   case round =>
    clear HU2 Sc0 Sf0 Sc1 Sf1 Sc2 Sf2 Sc3 Sf3
    obtain ⟨i, sv, hi, rfl, rfl, rfl, HI0⟩ := hrel
    by_cases hlt : i < n0
    ·skip
     have hiI : (i : Int) < (n0 : Int) := by omega
     have hwi : IntKind.i64.wrap ((i : Int) + 1) = (i : Int) + 1 := IntWalk.i64_in _ (by omega)
     have hrd := HV0.out.keeps ((HK1.out.trans HI0.out.2))
     obtain ⟨aoz, cpz, ez, hez, hrz⟩ := hrd
     have hll : l0.length = n0 := by simpa using (Value.slice.inj ez).2.1.symm
     obtain ⟨y, hy⟩ : ∃ y, l0[i]? = some y := ⟨_, List.getElem?_eq_getElem (by rw [hll]; exact hlt)⟩
     obtain ⟨g, off, hao, hg, hcc⟩ := hrz (by omega)
     simp only [Value.slice.injEq] at ez
     obtain ⟨rfl, hzz, rfl⟩ := ez
     subst hao
     have hicap : i < cp0 := by omega
     have hc := hcc i y hy
     have HY := Lib.hid hy
     obtain ⟨⟨yh1, yh2⟩, yk, yo, ⟨ya1, ya2⟩, ⟨yb1, yb2⟩, yi⟩ := y
     clear hcc hrz hez hzz hy hll
     obtain ⟨c0, c1, c2, c3, c4, c5, c6, c7, c8⟩ := n9 hc
     have hal := (MapKept.heap_alloc wr (bM yk yh1 yh2 yo ya1 ya2 yb1 yb2 yi)).1
     have hka : KF wr (wr.alloc (bM yk yh1 yh2 yo ya1 ya2 yb1 yb2 yi)) := (Keeps.refl _ _).alloc _
     obtain ⟨b, hb⟩ : ∃ b, wr.heap.size = b := ⟨_, rfl⟩
     rw [hb] at hal
     have HB := Lib.hid hal
     have HO : Hid (OwnS LC (wr.alloc (bM yk yh1 yh2 yo ya1 ya2 yb1 yb2 yi)) sv (rl.map (·.1) ++ (l0.take i).flatMap prinsS) ∧ KF w1 (wr.alloc (bM yk yh1 yh2 yo ya1 ya2 yb1 yb2 yi))) := ⟨HI0.out.1.keeps hka, HI0.out.2.trans hka⟩
     have HLE : Hid ((rl.map (·.1) ++ (l0.take i).flatMap prinsS).length ≤ 9000) := by have h9 := flat_len_le (f := prinsS) (m := 1) prinsS_len (l0.take i); have h8 := List.length_take_le i l0; have := HN0.out; have := HNR.out; show _ ≤ _; simp only [List.length_append, List.length_map]; omega
     go_upto_region 10 with fail
     clear hal hka hb HI0 hc c0 c1 c2 c3 c4 c5 c6 c7 c8
     generalize wr.alloc (bM yk yh1 yh2 yo ya1 ya2 yb1 yb2 yi) = w2 at *
     obtain ⟨p0, f0, p1, f1, p2, f2, p3, f3, p4, f4, p5, f5, p6, f6, p7, f7, p8, f8⟩ := cf9 HB.out
     by_cases hk : yk = 1
     case pos =>
      have HNX : Hid ((l0.take (i + 1)).flatMap prinsS = (l0.take i).flatMap prinsS ++ [yo]) := by
       show _ = _
       rw [flat_next prinsS HY.out]
       congr 1
       show (if yk = 1 then _ else _) = _
       rw [if_pos hk]
      subst hk
      have HW2 : Hid (LC ≤ (w2.alloc (.cells #[.string ⟨yo.toArray⟩] 9)).heap.size) := by have h1 := HO.out.2.size; have h2 : w2.heap.size ≤ (w2.alloc (.cells #[.string ⟨yo.toArray⟩] 9)).heap.size := ((Keeps.refl (fun _ => False) w2).alloc _).size; have := HLC.out; show _ ≤ _; omega
      go_wp2_with (at_builtin; refine app_src rfl _ _ rfl LC sv (rl.map (·.1) ++ (l0.take i).flatMap prinsS) rfl (HO.out.1.keeps ((Keeps.refl (fun _ => False) _).alloc _)) _ [yo] rfl (one_srcS w2 yo) (by have := HLE.out; (try simp only [List.length_cons, List.length_nil]); omega) HW2.out ?_)
      intro v3 w6 ho hk
      have HN : Hid (OwnS LC w6 v3 (rl.map (·.1) ++ (l0.take (i + 1)).flatMap prinsS) ∧ KF w1 w6) := ⟨by rw [HNX.out]; have ho2 := ho; (try simp only [List.append_assoc] at ho2); (try simp only [List.append_assoc]); exact ho2, (HO.out.2.trans ((Keeps.refl _ _).alloc _)).trans_new hk (fun x hx e => by have e : LC ≤ x := e; have := HLC.out; omega)⟩
      clear HO HW2 HLE HNX HB ho hk p0 f0 p1 f1 p2 f2 p3 f3 p4 f4 p5 f5 p6 f6 p7 f7 p8 f8
      go_wp2_with fail
      go_roundg (n0 - (i + 1))
      case measure => omega
      case rel => exact ⟨i + 1, v3, by omega, rfl, by go_num, rfl, HN⟩
     case neg =>
      have hkb : (yk == 1) = false := beq_eq_false_iff_ne.2 hk
      have HN : Hid (OwnS LC w2 sv (rl.map (·.1) ++ (l0.take (i + 1)).flatMap prinsS) ∧ KF w1 w2) := by
       rw [flat_next prinsS HY.out, show prinsS ((yh1, yh2), yk, yo, (ya1, ya2), (yb1, yb2), yi) = [] from by show (if yk = 1 then _ else _) = _; rw [if_neg hk], List.append_nil]
       exact HO.out
      clear HO HLE
      go_wp2_with fail
      go_roundg (n0 - (i + 1))
      case measure => omega
      case rel => exact ⟨i + 1, sv, by omega, rfl, by go_num, rfl, HN⟩
    ·obtain rfl : n0 = i := by omega
     have hiI : ¬ (n0 : Int) < (n0 : Int) := by omega
     have HU3 : Hid (OwnS LC wr sv (rl.map (·.1) ++ l0.flatMap prinsS) ∧ KF w1 wr) := by
      have q := HI0.out
      rw [List.take_of_length_le (by rw [HN0.out]; exact Nat.le_refl _)] at q
      exact q
     clear HI0
     obtain ⟨Sc0, Sf0, Sc1, Sf1, Sc2, Sf2, Sc3, Sf3⟩ := cf4 (((HK1.out.trans HU3.out.2).block _ (lt_of_heap HS.out) (fun x => x)).trans HS.out)
     generalize wr = w8 at *
     generalize sv = s8 at *
     go_wp2_with fail
     go_loopg [3, 42] n3 (fun g s t wx => ∃ (i : Nat) (sv : Value), i ≤ n3 ∧ g = n3 - i ∧ t = .int .i64 i ∧ sv = s ∧ Hid (OwnS LC wx sv (rl.map (·.1) ++ l0.flatMap prinsS ++ (l3.take i).flatMap (fun q => q.2.2.2)) ∧ KF w1 wx))
     case atStart => exact ⟨0, _, Nat.zero_le _, rfl, rfl, rfl, by rw [List.take_zero, List.flatMap_nil, List.append_nil]; exact HU3.out⟩
     case round =>
      clear HU3 Sc0 Sf0 Sc1 Sf1 Sc2 Sf2 Sc3 Sf3
      obtain ⟨i, sv, hi, rfl, rfl, rfl, HI0⟩ := hrel
      by_cases hlt : i < n3
      ·skip
       have hiI : (i : Int) < (n3 : Int) := by omega
       have hwi : IntKind.i64.wrap ((i : Int) + 1) = (i : Int) + 1 := IntWalk.i64_in _ (by omega)
       have hrd := HV3.out.keeps ((HK1.out.trans HI0.out.2))
       obtain ⟨aoz, cpz, ez, hez, hrz⟩ := hrd
       have hll : lv.length = n3 := by simpa using (Value.slice.inj ez).2.1.symm
       obtain ⟨y, hy⟩ : ∃ y, lv[i]? = some y := ⟨_, List.getElem?_eq_getElem (by rw [hll]; exact hlt)⟩
       obtain ⟨g, off, hao, hg, hcc⟩ := hrz (by omega)
       simp only [Value.slice.injEq] at ez
       obtain ⟨rfl, hzz, rfl⟩ := ez
       subst hao
       have hicap : i < cp3 := by omega
       have hc := hcc i y hy
       have HY := Lib.hid hy
       obtain ⟨yk, ⟨ya1, ya2⟩, ⟨yb1, yb2⟩, yo, yn, yc⟩ := y
       clear hcc hrz hez hzz hy hll
       have c0 : wr.cell? ⟨g, off + i * 6, none⟩ = some (.int .i64 yk) := hc 0 _ rfl
       have c1 : wr.cell? ⟨g, off + i * 6 + 1, none⟩ = some (.string ⟨ya1.toArray⟩) := hc 1 _ rfl
       have c2 : wr.cell? ⟨g, off + i * 6 + 2, none⟩ = some (.string ⟨ya2.toArray⟩) := hc 2 _ rfl
       have c3 : wr.cell? ⟨g, off + i * 6 + 3, none⟩ = some (.string ⟨yb1.toArray⟩) := hc 3 _ rfl
       have c4 : wr.cell? ⟨g, off + i * 6 + 4, none⟩ = some (.string ⟨yb2.toArray⟩) := hc 4 _ rfl
       have c5 : wr.cell? ⟨g, off + i * 6 + 5, none⟩ = some (.slice yo yn yc) := hc 5 _ rfl
       obtain ⟨q, hq⟩ : ∃ q, l3[i]? = some q := ⟨_, List.getElem?_eq_getElem (by rw [HN3.out]; exact hlt)⟩
       have hrq := HQ.out i q _ hq HY.out
       have HRL : Hid (q.2.2.2.length ≤ 20) := HLW.out q (List.mem_of_getElem? hq)
       have HNX : Hid ((l3.take (i + 1)).flatMap (fun q => q.2.2.2) = (l3.take i).flatMap (fun q => q.2.2.2) ++ q.2.2.2) := flat_next (fun q : Qry => q.2.2.2) hq
       obtain ⟨e0, e1, e2, hz⟩ := hrq
       have HRS : Hid (ReadsS W (.slice yo yn yc) q.2.2.2) := hz.1
       have HC : Hid (∀ w, KF w1 w → Calls Tryz.prog 119 #[.agg #[.int .i64 yk, .string ⟨ya1.toArray⟩, .string ⟨ya2.toArray⟩, .string ⟨yb1.toArray⟩, .string ⟨yb2.toArray⟩, .slice yo yn yc]] w fun e W' => ∃ v, e = .returned v ∧ Hid (SrcS W' v q.2.2.2 ∧ KF w W')) := fun w hk => by
        have z := qprins_spec (W := w) q (v := .slice yo yn yc) (HRS.out.keeps ((HK0.out.trans HK1.out).trans hk)) (by have := HRL.out; omega)
        unfold qryV at z
        rw [← e0, ← e1, ← e2] at z
        exact z
       clear e0 e1 e2 hz hq HRS
       have hal := (MapKept.heap_alloc wr (bQ yk ya1 ya2 yb1 yb2 yo yn yc)).1
       have hka : KF wr (wr.alloc (bQ yk ya1 ya2 yb1 yb2 yo yn yc)) := (Keeps.refl _ _).alloc _
       obtain ⟨b, hb⟩ : ∃ b, wr.heap.size = b := ⟨_, rfl⟩
       rw [hb] at hal
       have HB := Lib.hid hal
       have HO : Hid (OwnS LC (wr.alloc (bQ yk ya1 ya2 yb1 yb2 yo yn yc)) sv (rl.map (·.1) ++ l0.flatMap prinsS ++ (l3.take i).flatMap (fun q => q.2.2.2)) ∧ KF w1 (wr.alloc (bQ yk ya1 ya2 yb1 yb2 yo yn yc))) := ⟨HI0.out.1.keeps hka, HI0.out.2.trans hka⟩
       have HLE : Hid ((rl.map (·.1) ++ l0.flatMap prinsS ++ (l3.take i).flatMap (fun q => q.2.2.2)).length ≤ 9000) := by have h9 := flat_len_mem (f := fun q : Qry => q.2.2.2) (m := 20) (l3.take i) (fun q hq => HLW.out q (List.mem_of_mem_take hq)); have h8 := List.length_take_le i l3; have h7 := flat_len_le (f := prinsS) (m := 1) prinsS_len l0; have := HN0.out; have := HN3.out; have := HNR.out; show _ ≤ _; simp only [List.length_append, List.length_map]; omega
       go_upto_region 16 with fail
       clear hal hka hb HI0 hc c0 c1 c2 c3 c4 c5
       generalize wr.alloc (bQ yk ya1 ya2 yb1 yb2 yo yn yc) = w2 at *
       obtain ⟨p0, f0, p1, f1, p2, f2, p3, f3, p4, f4, p5, f5⟩ := cf6 HB.out
       go_wp2_with fail
       refine (HC.out _ HO.out.2).mono ?_
       rintro e w3 ⟨rv, rfl, hk⟩
       clear HB HC p0 f0 p1 f1 p2 f2 p3 f3 p4 f4 p5 f5
       have HR2 := Lib.hid hk.out.1
       have HOW := Lib.hid (HO.out.1.keeps hk.out.2)
       have HKP := Lib.hid (HO.out.2.trans hk.out.2)
       have HZW : Hid (LC ≤ w3.heap.size) := by have := HKP.out.size; have := HLC.out; show _ ≤ _; omega
       clear hk HO
       go_wp2_with (at_builtin; refine app_src rfl _ _ rfl LC sv (rl.map (·.1) ++ l0.flatMap prinsS ++ (l3.take i).flatMap (fun q => q.2.2.2)) rfl HOW.out _ _ rfl HR2.out (by have := HLE.out; have := HRL.out; omega) HZW.out ?_)
       intro v3 w6 ho hk
       have HN : Hid (OwnS LC w6 v3 (rl.map (·.1) ++ l0.flatMap prinsS ++ (l3.take (i + 1)).flatMap (fun q => q.2.2.2)) ∧ KF w1 w6) := ⟨by rw [HNX.out]; have ho2 := ho; (try simp only [List.append_assoc] at ho2); (try simp only [List.append_assoc]); exact ho2, HKP.out.trans_new hk (fun x hx e => by have e : LC ≤ x := e; have := HLC.out; omega)⟩
       clear HOW HKP HR2 HZW HLE HNX ho hk
       go_wp2_with fail
       go_roundg (n3 - (i + 1))
       case measure => omega
       case rel => exact ⟨i + 1, v3, by omega, rfl, by go_num, rfl, HN⟩
      ·obtain rfl : n3 = i := by omega
       have hiI : ¬ (n3 : Int) < (n3 : Int) := by omega
       have HU4 : Hid (OwnS LC wr sv fin ∧ KF w1 wr) := by
        have q := HI0.out
        rw [List.take_of_length_le (by rw [HN3.out]; exact Nat.le_refl _), ← hdef.out] at q
        exact q
       have hfl : fin.length ≤ 9000 := by
        have h9 := flat_len_mem (f := fun q : Qry => q.2.2.2) (m := 20) l3 (fun q hq => HLW.out q hq)
        have h7 := flat_len_le (f := prinsS) (m := 1) prinsS_len l0
        have := HN0.out
        have := HN3.out
        have := HNR.out
        rw [hdef.out]
        simp only [List.length_append, List.length_map]
        omega
       clear HI0
       have HNE := Lib.hid (names_new (W := wr) HU4.out.1.reads (by omega))
       have HKZ : Hid (KF W wr) := (HK0.out.trans HK1.out).trans HU4.out.2
       have htl := tab_len fin
       clear HU4
       go_wp2_with fail
       refine HNE.out.mono ?_
       rintro e w9 ⟨tp, rfl, ht⟩
       have HAL := Lib.hid (names_all (W := w9) ht.out.2 (by omega))
       have HK9 := Lib.hid (HKZ.out.trans ht.out.1)
       clear HNE ht HKZ
       go_wp2_with fail
       refine HAL.out.mono ?_
       rintro e w10 ⟨fv, rfl, hf⟩
       have HP : Hid (OwnS W.heap.size w10 fv (tabL fin) ∧ KF W w10) := ⟨ownsRow_base hf.out.2 HK9.out.size, HK9.out.trans hf.out.1⟩
       clear HAL hf HK9
       go_wp2_with fail
       go_ret
       exact ⟨_, rfl, HP⟩
theorem pnames_spec {W : World} {v0 v1 v2 v3 : Value} {p : Pol} {P : Nat → Prop} (h : PolX W v0 v1 v2 v3 p P) (hl : FewR p) :
 Calls Tryz.prog 189 #[.agg #[v0, v1, v2, v3]] W fun e W' => ∃ v, e = .returned v ∧ Hid (OwnS W.heap.size W' v (tabL (namesA p)) ∧ KF W W') := by
 have HRO : Hid (∀ w, KF W w → Calls Tryz.prog 118 #[.agg #[v0, v1, v2, v3]] w fun e W' => ∃ v, e = .returned v ∧ Hid (OwnK rolE w.heap.size W' v (rolesP p) ∧ KF w W')) := fun w hk => proles_spec (h.into hk (fun _ _ _ x => x) (fun _ _ x => x)) hl
 have hrl := rolesP_len hl
 have hpt := namesP_tab p
 rw [← hpt]
 have hdef : Hid (namesP p = (rolesP p).map (·.2) ++ p.1.flatMap viasS) := rfl
 obtain ⟨rl, hrle⟩ : ∃ q, rolesP p = q := ⟨_, rfl⟩
 rw [hrle] at HRO hrl hdef
 obtain ⟨fin, hfin⟩ : ∃ q, namesP p = q := ⟨_, rfl⟩
 rw [hfin] at hdef ⊢
 clear hpt hrle hfin
 obtain ⟨l0, l1, l2, l3⟩ := p
 simp only at hdef
 obtain ⟨hl0, hl1, hl2, hl3, hlw⟩ := hl
 simp only at hl0 hl1 hl2 hl3 hlw
 obtain ⟨h0, h1, h2, h3⟩ := h
 simp only at h0 h1 h2 h3
 obtain ⟨lv, hlv, h3r, h3q⟩ := id h3
 obtain ⟨ao0, cp0, hv0, hle0, hr0⟩ := id h0.1.1
 obtain ⟨ao1, cp1, hv1, hle1, hr1⟩ := id h1.1.1
 obtain ⟨ao2, cp2, hv2, hle2, hr2⟩ := id h2.1.1
 obtain ⟨ao3, cp3, hv3, hle3, hr3⟩ := id h3r.1.1
 subst hv0 hv1 hv2 hv3
 clear hr0 hr1 hr2 hr3
 obtain ⟨n0, hn0⟩ : ∃ n, l0.length = n := ⟨_, rfl⟩
 obtain ⟨n1, hn1⟩ : ∃ n, l1.length = n := ⟨_, rfl⟩
 obtain ⟨n2, hn2⟩ : ∃ n, l2.length = n := ⟨_, rfl⟩
 obtain ⟨n3, hn3⟩ : ∃ n, l3.length = n := ⟨_, rfl⟩
 rw [hn0] at h0 hle0 hl0 ⊢
 rw [hn1] at h1 hle1 hl1 ⊢
 rw [hn2] at h2 hle2 hl2 ⊢
 rw [hn3] at hlv hl3
 rw [hlv] at h3 h3r hle3 ⊢
 rw [hn0, hn1, hn2, hlv] at HRO
 have HN0 := Lib.hid hn0
 have HN1 := Lib.hid hn1
 have HN2 := Lib.hid hn2
 have HN3 := Lib.hid hn3
 have HLV := Lib.hid hlv
 have HLW := Lib.hid hlw
 have ha := (MapKept.heap_alloc W (bP ao0 n0 cp0 ao1 n1 cp1 ao2 n2 cp2 ao3 n3 cp3)).1
 obtain ⟨WB, hWB⟩ : ∃ q, W.alloc (bP ao0 n0 cp0 ao1 n1 cp1 ao2 n2 cp2 ao3 n3 cp3) = q := ⟨_, rfl⟩
 have hkA : KF W WB := by rw [← hWB]; exact (Keeps.refl _ _).alloc _
 rw [hWB] at ha
 have HS := Lib.hid ha
 have HK0 := Lib.hid hkA
 have HV0 : Hid (RdK stmE WB (.slice ao0 n0 cp0) l0) := h0.1.1.keeps hkA
 have HV1 : Hid (RdK rolE WB (.slice ao1 n1 cp1) l1) := h1.1.1.keeps hkA
 have HV2 : Hid (RdK rolE WB (.slice ao2 n2 cp2) l2) := h2.1.1.keeps hkA
 have HV3 : Hid (RdK qE WB (.slice ao3 n3 cp3) lv) := h3r.1.1.keeps hkA
 have HQ : Hid (∀ (j : Nat) (q : Qry) (qv : QV), l3[j]? = some q → lv[j]? = some qv → RelX W qv q P) := h3q
 obtain ⟨LB, hLB⟩ : ∃ q, WB.heap.size = q := ⟨_, rfl⟩
 have HLB := Lib.hid hLB
 clear ha hkA h0 h1 h2 h3 h3r h3q hlv hn0 hn1 hn2 hn3 hlw hLB
 have HSZ : Hid (W.heap.size ≤ LB) := by have := HK0.out.size; have := HLB.out; show _ ≤ _; omega
 have HRK := Lib.hid (HRO.out _ HK0.out)
 clear HRO
 go_enter Tryz.func189, Tryz.ntmps189
 go_upto_region 1 with fail
 clear hWB
 obtain ⟨Sc0, Sf0, Sc1, Sf1, Sc2, Sf2, Sc3, Sf3⟩ := cf4 HS.out
 go_wp2_with fail
 refine HRK.out.mono ?_
 rintro e w1 ⟨u, rfl, hu⟩
 clear HRK Sc0 Sf0 Sc1 Sf1 Sc2 Sf2 Sc3 Sf3
 obtain ⟨aoR, cpR, hvR, hleR, hrR⟩ := id hu.out.1.reads
 obtain ⟨nR, hnR⟩ : ∃ q, rl.length = q := ⟨_, rfl⟩
 have HVR0 := hu.out.1.reads
 rw [hvR, hnR] at HVR0
 rw [hnR] at hvR hleR hrl
 have HNR := Lib.hid hnR
 have HVR : Hid (RdK rolE w1 (.slice aoR nR cpR) rl) := HVR0
 have HK1 := Lib.hid hu.out.2
 subst hvR
 clear hu hrR HVR0 hnR
 obtain ⟨LC, hLC⟩ : ∃ q, w1.heap.size = q := ⟨_, rfl⟩
 have HLC := Lib.hid hLC
 have HLL : Hid (LB ≤ LC) := by have := HK1.out.size; have := HLB.out; show _ ≤ _; omega
 clear hLC
 have HST : Hid (OwnS LC w1 (.slice none 0 0) [] ∧ KF w1 w1) := ⟨World.ownsRow_nil _ _ _ _, Keeps.refl _ _⟩
 go_wp2_with fail
 go_loopg [3, 11] nR (fun g s t wx => ∃ (i : Nat) (sv : Value), i ≤ nR ∧ g = nR - i ∧ t = .int .i64 i ∧ sv = s ∧ Hid (OwnS LC wx sv ((rl.map (·.2)).take i) ∧ KF w1 wx))
 case atStart => exact ⟨0, _, Nat.zero_le _, rfl, rfl, rfl, HST.out⟩
 case round =>
  clear HST
  obtain ⟨i, sv, hi, rfl, rfl, rfl, HI0⟩ := hrel
  by_cases hlt : i < nR
  ·skip
   have hiI : (i : Int) < (nR : Int) := by omega
   have hwi : IntKind.i64.wrap ((i : Int) + 1) = (i : Int) + 1 := IntWalk.i64_in _ (by omega)
   have hrd := HVR.out.keeps (HI0.out.2)
   obtain ⟨aoz, cpz, ez, hez, hrz⟩ := hrd
   have hll : rl.length = nR := by simpa using (Value.slice.inj ez).2.1.symm
   obtain ⟨y, hy⟩ : ∃ y, rl[i]? = some y := ⟨_, List.getElem?_eq_getElem (by rw [hll]; exact hlt)⟩
   obtain ⟨g, off, hao, hg, hcc⟩ := hrz (by omega)
   simp only [Value.slice.injEq] at ez
   obtain ⟨rfl, hzz, rfl⟩ := ez
   subst hao
   have hicap : i < cpR := by omega
   have hc := hcc i y hy
   have HY := Lib.hid hy
   obtain ⟨yr1, yr2⟩ := y
   clear hcc hrz hez hzz hy hll
   have c0 : wr.cell? ⟨g, off + i * 2, none⟩ = some (.string ⟨yr1.toArray⟩) := hc 0 _ rfl
   have c1 : wr.cell? ⟨g, off + i * 2 + 1, none⟩ = some (.string ⟨yr2.toArray⟩) := hc 1 _ rfl
   have hal := (MapKept.heap_alloc wr (bR yr1 yr2)).1
   have hka : KF wr (wr.alloc (bR yr1 yr2)) := (Keeps.refl _ _).alloc _
   obtain ⟨b, hb⟩ : ∃ b, wr.heap.size = b := ⟨_, rfl⟩
   rw [hb] at hal
   have HB := Lib.hid hal
   have HO : Hid (OwnS LC (wr.alloc (bR yr1 yr2)) sv ((rl.map (·.2)).take i) ∧ KF w1 (wr.alloc (bR yr1 yr2))) := ⟨HI0.out.1.keeps hka, HI0.out.2.trans hka⟩
   have HLE : Hid (((rl.map (·.2)).take i).length ≤ 9000) := by have h7 := List.length_take_le' i (rl.map (·.2)); rw [List.length_map] at h7; have := HNR.out; show _ ≤ _; omega
   go_upto_region 5 with fail
   clear hal hka hb HI0 hc c0 c1
   generalize wr.alloc (bR yr1 yr2) = w2 at *
   obtain ⟨p0, f0, p1, f1⟩ := cf2 HB.out
   have HNX : Hid ((rl.map (·.2)).take (i + 1) = (rl.map (·.2)).take i ++ [yr2]) := map_next _ HY.out
   have HW2 : Hid (LC ≤ (w2.alloc (.cells #[.string ⟨yr2.toArray⟩] 9)).heap.size) := by have h1 := HO.out.2.size; have h2 : w2.heap.size ≤ (w2.alloc (.cells #[.string ⟨yr2.toArray⟩] 9)).heap.size := ((Keeps.refl (fun _ => False) w2).alloc _).size; have := HLC.out; show _ ≤ _; omega
   go_wp2_with (at_builtin; refine app_src rfl _ _ rfl LC sv ((rl.map (·.2)).take i) rfl (HO.out.1.keeps ((Keeps.refl (fun _ => False) _).alloc _)) _ [yr2] rfl (one_srcS w2 yr2) (by have := HLE.out; (try simp only [List.length_cons, List.length_nil]); omega) HW2.out ?_)
   intro v3 w6 ho hk
   have HN : Hid (OwnS LC w6 v3 ((rl.map (·.2)).take (i + 1)) ∧ KF w1 w6) := ⟨by rw [HNX.out]; have ho2 := ho; (try simp only [List.append_assoc] at ho2); (try simp only [List.append_assoc]); exact ho2, (HO.out.2.trans ((Keeps.refl _ _).alloc _)).trans_new hk (fun x hx e => by have e : LC ≤ x := e; have := HLC.out; omega)⟩
   clear HO HW2 HLE HNX HB ho hk p0 f0 p1 f1
   go_wp2_with fail
   go_roundg (nR - (i + 1))
   case measure => omega
   case rel => exact ⟨i + 1, v3, by omega, rfl, by go_num, rfl, HN⟩
  ·obtain rfl : nR = i := by omega
   have hiI : ¬ (nR : Int) < (nR : Int) := by omega
   have HU2 : Hid (OwnS LC wr sv (rl.map (·.2)) ∧ KF w1 wr) := by
    have q := HI0.out
    rw [List.take_of_length_le (by rw [List.length_map, HNR.out]; exact Nat.le_refl _)] at q
    exact q
   clear HI0 HVR
   obtain ⟨Sc0, Sf0, Sc1, Sf1, Sc2, Sf2, Sc3, Sf3⟩ := cf4 (((HK1.out.trans HU2.out.2).block _ (lt_of_heap HS.out) (fun x => x)).trans HS.out)
   generalize wr = w7 at *
   generalize sv = s7 at *
   go_wp2_with fail
   go_loopg [3, 24] n0 (fun g s t wx => ∃ (i : Nat) (sv : Value), i ≤ n0 ∧ g = n0 - i ∧ t = .int .i64 i ∧ sv = s ∧ Hid (OwnS LC wx sv (rl.map (·.2) ++ (l0.take i).flatMap viasS) ∧ KF w1 wx))
   case atStart => exact ⟨0, _, Nat.zero_le _, rfl, rfl, rfl, by rw [List.take_zero, List.flatMap_nil, List.append_nil]; exact HU2.out⟩
   case round =>
    clear HU2 Sc0 Sf0 Sc1 Sf1 Sc2 Sf2 Sc3 Sf3
    obtain ⟨i, sv, hi, rfl, rfl, rfl, HI0⟩ := hrel
    by_cases hlt : i < n0
    ·skip
     have hiI : (i : Int) < (n0 : Int) := by omega
     have hwi : IntKind.i64.wrap ((i : Int) + 1) = (i : Int) + 1 := IntWalk.i64_in _ (by omega)
     have hrd := HV0.out.keeps ((HK1.out.trans HI0.out.2))
     obtain ⟨aoz, cpz, ez, hez, hrz⟩ := hrd
     have hll : l0.length = n0 := by simpa using (Value.slice.inj ez).2.1.symm
     obtain ⟨y, hy⟩ : ∃ y, l0[i]? = some y := ⟨_, List.getElem?_eq_getElem (by rw [hll]; exact hlt)⟩
     obtain ⟨g, off, hao, hg, hcc⟩ := hrz (by omega)
     simp only [Value.slice.injEq] at ez
     obtain ⟨rfl, hzz, rfl⟩ := ez
     subst hao
     have hicap : i < cp0 := by omega
     have hc := hcc i y hy
     have HY := Lib.hid hy
     obtain ⟨⟨yh1, yh2⟩, yk, yo, ⟨ya1, ya2⟩, ⟨yb1, yb2⟩, yi⟩ := y
     clear hcc hrz hez hzz hy hll
     obtain ⟨c0, c1, c2, c3, c4, c5, c6, c7, c8⟩ := n9 hc
     have hal := (MapKept.heap_alloc wr (bM yk yh1 yh2 yo ya1 ya2 yb1 yb2 yi)).1
     have hka : KF wr (wr.alloc (bM yk yh1 yh2 yo ya1 ya2 yb1 yb2 yi)) := (Keeps.refl _ _).alloc _
     obtain ⟨b, hb⟩ : ∃ b, wr.heap.size = b := ⟨_, rfl⟩
     rw [hb] at hal
     have HB := Lib.hid hal
     have HO : Hid (OwnS LC (wr.alloc (bM yk yh1 yh2 yo ya1 ya2 yb1 yb2 yi)) sv (rl.map (·.2) ++ (l0.take i).flatMap viasS) ∧ KF w1 (wr.alloc (bM yk yh1 yh2 yo ya1 ya2 yb1 yb2 yi))) := ⟨HI0.out.1.keeps hka, HI0.out.2.trans hka⟩
     have HLE : Hid ((rl.map (·.2) ++ (l0.take i).flatMap viasS).length ≤ 9000) := by have h9 := flat_len_le (f := viasS) (m := 1) viasS_len (l0.take i); have h8 := List.length_take_le i l0; have := HN0.out; have := HNR.out; show _ ≤ _; simp only [List.length_append, List.length_map]; omega
     go_upto_region 10 with fail
     clear hal hka hb HI0 hc c0 c1 c2 c3 c4 c5 c6 c7 c8
     generalize wr.alloc (bM yk yh1 yh2 yo ya1 ya2 yb1 yb2 yi) = w2 at *
     obtain ⟨p0, f0, p1, f1, p2, f2, p3, f3, p4, f4, p5, f5, p6, f6, p7, f7, p8, f8⟩ := cf9 HB.out
     by_cases hk : yk = 3
     case pos =>
      have HNX : Hid ((l0.take (i + 1)).flatMap viasS = (l0.take i).flatMap viasS ++ [yi]) := by
       show _ = _
       rw [flat_next viasS HY.out]
       congr 1
       show (if yk = 3 then _ else _) = _
       rw [if_pos hk]
      subst hk
      have HW2 : Hid (LC ≤ (w2.alloc (.cells #[.string ⟨yi.toArray⟩] 9)).heap.size) := by have h1 := HO.out.2.size; have h2 : w2.heap.size ≤ (w2.alloc (.cells #[.string ⟨yi.toArray⟩] 9)).heap.size := ((Keeps.refl (fun _ => False) w2).alloc _).size; have := HLC.out; show _ ≤ _; omega
      go_wp2_with (at_builtin; refine app_src rfl _ _ rfl LC sv (rl.map (·.2) ++ (l0.take i).flatMap viasS) rfl (HO.out.1.keeps ((Keeps.refl (fun _ => False) _).alloc _)) _ [yi] rfl (one_srcS w2 yi) (by have := HLE.out; (try simp only [List.length_cons, List.length_nil]); omega) HW2.out ?_)
      intro v3 w6 ho hk
      have HN : Hid (OwnS LC w6 v3 (rl.map (·.2) ++ (l0.take (i + 1)).flatMap viasS) ∧ KF w1 w6) := ⟨by rw [HNX.out]; have ho2 := ho; (try simp only [List.append_assoc] at ho2); (try simp only [List.append_assoc]); exact ho2, (HO.out.2.trans ((Keeps.refl _ _).alloc _)).trans_new hk (fun x hx e => by have e : LC ≤ x := e; have := HLC.out; omega)⟩
      clear HO HW2 HLE HNX HB ho hk p0 f0 p1 f1 p2 f2 p3 f3 p4 f4 p5 f5 p6 f6 p7 f7 p8 f8
      go_wp2_with fail
      go_roundg (n0 - (i + 1))
      case measure => omega
      case rel => exact ⟨i + 1, v3, by omega, rfl, by go_num, rfl, HN⟩
     case neg =>
      have hkb : (yk == 3) = false := beq_eq_false_iff_ne.2 hk
      have HN : Hid (OwnS LC w2 sv (rl.map (·.2) ++ (l0.take (i + 1)).flatMap viasS) ∧ KF w1 w2) := by
       rw [flat_next viasS HY.out, show viasS ((yh1, yh2), yk, yo, (ya1, ya2), (yb1, yb2), yi) = [] from by show (if yk = 3 then _ else _) = _; rw [if_neg hk], List.append_nil]
       exact HO.out
      clear HO HLE
      go_wp2_with fail
      go_roundg (n0 - (i + 1))
      case measure => omega
      case rel => exact ⟨i + 1, sv, by omega, rfl, by go_num, rfl, HN⟩
    ·obtain rfl : n0 = i := by omega
     have hiI : ¬ (n0 : Int) < (n0 : Int) := by omega
     have HU3 : Hid (OwnS LC wr sv (rl.map (·.2) ++ l0.flatMap viasS) ∧ KF w1 wr) := by
      have q := HI0.out
      rw [List.take_of_length_le (by rw [HN0.out]; exact Nat.le_refl _)] at q
      exact q
     clear HI0
     have HU4 : Hid (OwnS LC wr sv fin ∧ KF w1 wr) := by
      have q := HU3.out
      rw [← hdef.out] at q
      exact q
     have hfl : fin.length ≤ 9000 := by
      have h7 := flat_len_le (f := viasS) (m := 1) viasS_len l0
      have := HN0.out
      have := HNR.out
      rw [hdef.out]
      simp only [List.length_append, List.length_map]
      omega
     clear HU3
     have HNE := Lib.hid (names_new (W := wr) HU4.out.1.reads (by omega))
     have HKZ : Hid (KF W wr) := (HK0.out.trans HK1.out).trans HU4.out.2
     have htl := tab_len fin
     clear HU4
     go_wp2_with fail
     refine HNE.out.mono ?_
     rintro e w9 ⟨tp, rfl, ht⟩
     have HAL := Lib.hid (names_all (W := w9) ht.out.2 (by omega))
     have HK9 := Lib.hid (HKZ.out.trans ht.out.1)
     clear HNE ht HKZ
     go_wp2_with fail
     refine HAL.out.mono ?_
     rintro e w10 ⟨fv, rfl, hf⟩
     have HP : Hid (OwnS W.heap.size w10 fv (tabL fin) ∧ KF W w10) := ⟨ownsRow_base hf.out.2 HK9.out.size, HK9.out.trans hf.out.1⟩
     clear HAL hf HK9
     go_wp2_with fail
     go_ret
     exact ⟨_, rfl, HP⟩
end Go.Proofs.YtckikkkdabpjkaaGreat
