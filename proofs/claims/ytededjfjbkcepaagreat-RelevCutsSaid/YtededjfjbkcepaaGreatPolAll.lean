/-
 The document's Right of any policy.
-/
import Derived.Test.YtededjfjbkcepaaGreatMC
import Derived.Test.YtededjfjbkcepaaGreatML
import Derived.Test.YtededjfjbkcepaaGreatMP
import Derived.Test.YtededjfjbkcepaaGreatRowSame
import Derived.Test.YtededjfjbkcepaaGreatRefSortM
import Derived.Test.YtededjfjbkcepaaGreatRefSortR
import Derived.Test.YtededjfjbkcepaaGreatMO
import Derived.Test.YtededjfjbkcepaaGreatMG
set_option linter.unusedVariables false
set_option linter.unusedSimpArgs false
set_option linter.unnecessarySimpa false
namespace Go.Proofs.YtededjfjbkcepaaGreat
open Go.ChangeShapes Go.WideShapes Go.ChangeAt Go.RowKit Go.Deep
theorem all_no {α : Type} {p : α → Bool} {l : List α} {i : Nat} {y : α} (hy : l[i]? = some y) (h : p y = false) : l.all p = false := by
 rw [Bool.eq_false_iff]
 intro q
 have := List.all_eq_true.1 q y (List.mem_of_getElem? hy)
 rw [h] at this
 cases this
theorem all_yes {α : Type} {p : α → Bool} {l : List α} (h : ∀ (j : Nat) (y : α), j < l.length → l[j]? = some y → p y = true) : l.all p = true :=
 List.all_eq_true.2 fun y hy => by
  obtain ⟨i, hi⟩ := List.getElem?_of_mem hy
  exact h i y (List.getElem?_eq_some_iff.1 hi).1 hi
theorem all_more {α : Type} {p : α → Bool} {l : List α} {i : Nat} {y : α} (h : ∀ (j : Nat) (z : α), j < i → l[j]? = some z → p z = true) (hy : l[i]? = some y) (hp : p y = true) : ∀ (j : Nat) (z : α), j < i + 1 → l[j]? = some z → p z = true := fun j z hj hz => by
 rcases Nat.lt_or_ge j i with k | k
 ·exact h j z k hz
 ·obtain rfl : j = i := by omega
  rw [hy] at hz
  rw [← Option.some.inj hz]
  exact hp
set_option maxRecDepth 100000
set_option maxHeartbeats 6400000
theorem rpolright_all {W : World} {v0 v1 v2 v3 : Value} {p : Pol} {P : Nat → Prop} (h : PolX W v0 v1 v2 v3 p P) (hl : FewR p) :
 Calls Tryz.prog 48 #[.agg #[v0, v1, v2, v3]] W fun e W' => e = .returned (.bool (polRB p)) ∧ Hid (KF W W') := by
 have HFI : Hid (∀ w, KF W w → Calls Tryz.prog 91 #[.agg #[v0, v1, v2, v3]] w fun e W' => e = .returned (.bool (fitsPB p)) ∧ Hid (KF w W')) := fun w hk => rfits_spec2 (h.into hk (fun _ _ _ x => x) (fun _ _ x => x)) hl
 have HSR : Hid (∀ (y : Stm) w, Calls Tryz.prog 46 #[stmV y] w fun e W' => e = .returned (.bool (stmRB y)) ∧ Hid (KF w W')) := fun y w => rstmright_all y
 have HRR : Hid (∀ (r : Rol) w, Calls Tryz.prog 87 #[.agg #[.string ⟨r.1.toArray⟩, .string ⟨r.2.toArray⟩]] w fun e W' => e = .returned (.bool (roleB r)) ∧ Hid (KF w W')) := fun r w => risrole_all r
 have HQR : Hid (∀ q ∈ p.2.2.2, ∀ v w, ReadsS w v q.2.2.2 → Calls Tryz.prog 84 #[qryV q v] w fun e W' => e = .returned (.bool (qryRB q)) ∧ Hid (KF w W')) := fun q hq v w hv => rqryright_all hv (by have := hl.2.2.2.2 q hq; omega)
 have hX0 := h.1.1
 have hX1 := h.2.1.1
 have hX2 := h.2.2.1.1
 obtain ⟨R, hR⟩ : ∃ R, polRB p = R := ⟨_, rfl⟩
 have HD : Hid (R = (p.1.all stmRB && ((p.2.1 ++ p.2.2.1).all roleB && (p.2.2.2.all qryRB && (decide (p.1 = sortO stmLt p.1) && (decide (p.2.1 = sortO rolLt p.2.1) && (decide (p.2.2.1 = sortO rolLt p.2.2.1) && fitsPB p))))))) := by
  show R = _
  rw [← hR]
  unfold polRB
  simp only [Bool.and_assoc]
 rw [hR]
 obtain ⟨fb, hfb⟩ : ∃ f, fitsPB p = f := ⟨_, rfl⟩
 rw [hfb] at HFI HD
 clear hR hfb
 obtain ⟨l0, l1, l2, l3⟩ := p
 simp only at HQR hX0 hX1 hX2 HD
 obtain ⟨hl0, hl1, hl2, hl3, hlw⟩ := hl
 simp only at hl0 hl1 hl2 hl3 hlw
 obtain ⟨h0, h1, h2, h3⟩ := h
 simp only at h0 h1 h2 h3
 obtain ⟨lv, hlv, h3r, h3q⟩ := id h3
 obtain ⟨ao0, cp0, hv0, hle0, hr0⟩ := id h0.1.1
 obtain ⟨ao1, cp1, hv1, hle1, hr1⟩ := id h1.1.1
 obtain ⟨ao2, cp2, hv2, hle2, hr2⟩ := id h2.1.1
 obtain ⟨ao3, cp3, hv3, hle3, hr3⟩ := id h3r.1.1
 subst hv0 hv1 hv2 hv3
 clear hr0 hr1 hr2 hr3
 obtain ⟨n0, hn0⟩ : ∃ n, l0.length = n := ⟨_, rfl⟩
 obtain ⟨n1, hn1⟩ : ∃ n, l1.length = n := ⟨_, rfl⟩
 obtain ⟨n2, hn2⟩ : ∃ n, l2.length = n := ⟨_, rfl⟩
 obtain ⟨n3, hn3⟩ : ∃ n, l3.length = n := ⟨_, rfl⟩
 rw [hn0] at h0 hle0 hl0 ⊢
 rw [hn1] at h1 hle1 hl1 ⊢
 rw [hn2] at h2 hle2 hl2 ⊢
 rw [hn3] at hlv hl3
 rw [hlv] at h3 h3r hle3 ⊢
 rw [hn0, hn1, hn2, hlv] at HFI
 rw [hn0] at hX0
 rw [hn1] at hX1
 rw [hn2] at hX2
 have HN0 := Lib.hid hn0
 have HN1 := Lib.hid hn1
 have HN2 := Lib.hid hn2
 have HN3 := Lib.hid hn3
 have HLV := Lib.hid hlv
 have HLW := Lib.hid hlw
 have ha := (MapKept.heap_alloc W (bP ao0 n0 cp0 ao1 n1 cp1 ao2 n2 cp2 ao3 n3 cp3)).1
 obtain ⟨WB, hWB⟩ : ∃ q, W.alloc (bP ao0 n0 cp0 ao1 n1 cp1 ao2 n2 cp2 ao3 n3 cp3) = q := ⟨_, rfl⟩
 have hkA : KF W WB := by rw [← hWB]; exact (Keeps.refl _ _).alloc _
 rw [hWB] at ha
 have HS := Lib.hid ha
 have HK0 := Lib.hid hkA
 have HV0 : Hid (RdK stmE WB (.slice ao0 n0 cp0) l0) := h0.1.1.keeps hkA
 have HV1 : Hid (RdK rolE WB (.slice ao1 n1 cp1) l1) := h1.1.1.keeps hkA
 have HV2 : Hid (RdK rolE WB (.slice ao2 n2 cp2) l2) := h2.1.1.keeps hkA
 have HV3 : Hid (RdK qE WB (.slice ao3 n3 cp3) lv) := h3r.1.1.keeps hkA
 have HQ : Hid (∀ (j : Nat) (q : Qry) (qv : QV), l3[j]? = some q → lv[j]? = some qv → RelX W qv q P) := h3q
 obtain ⟨LB, hLB⟩ : ∃ q, WB.heap.size = q := ⟨_, rfl⟩
 have HLB := Lib.hid hLB
 have HX0 : Hid (SrcK stmE WB (.slice ao0 n0 cp0) l0) := hX0.keeps hkA
 have HX1 : Hid (SrcK rolE WB (.slice ao1 n1 cp1) l1) := hX1.keeps hkA
 have HX2 : Hid (SrcK rolE WB (.slice ao2 n2 cp2) l2) := hX2.keeps hkA
 clear ha hkA hX0 hX1 hX2 h0 h1 h2 h3 h3r h3q hlv hn0 hn1 hn2 hn3 hlw hLB
 go_enter Tryz.func48, Tryz.ntmps48
 go_upto_region 1 with fail
 clear hWB
 obtain ⟨Sc0, Sf0, Sc1, Sf1, Sc2, Sf2, Sc3, Sf3⟩ := cf4 HS.out
 have HST : Hid (KF WB WB) := Keeps.refl _ _
 go_wp2_with fail
 go_loopg [12] n0 (fun g t wx => ∃ i : Nat, i ≤ n0 ∧ g = n0 - i ∧ t = .int .i64 i ∧ Hid (KF WB wx ∧ ∀ (j : Nat) (y : _), j < i → l0[j]? = some y → stmRB y = true))
 case atStart => exact ⟨0, Nat.zero_le _, rfl, rfl, HST.out, fun j y hj _ => absurd hj (Nat.not_lt_zero _)⟩
 case round =>
  obtain ⟨i, hi, rfl, rfl, HI⟩ := hrel
  clear HST Sc0 Sf0 Sc1 Sf1 Sc2 Sf2 Sc3 Sf3
  by_cases hlt : i < n0
  ·skip
   have hiI : (i : Int) < (n0 : Int) := by omega
   have hwi : IntKind.i64.wrap ((i : Int) + 1) = (i : Int) + 1 := IntWalk.i64_in _ (by omega)
   have hrd := HV0.out.keeps HI.out.1
   obtain ⟨aoz, cpz, ez, hez, hrz⟩ := hrd
   have hll : l0.length = n0 := by simpa using (Value.slice.inj ez).2.1.symm
   obtain ⟨y, hy⟩ : ∃ y, l0[i]? = some y := ⟨_, List.getElem?_eq_getElem (by rw [hll]; exact hlt)⟩
   obtain ⟨g, off, hao, hg, hcc⟩ := hrz (by omega)
   simp only [Value.slice.injEq] at ez
   obtain ⟨rfl, hzz, rfl⟩ := ez
   subst hao
   have hicap : i < cp0 := by omega
   have hc := hcc i y hy
   have HY := Lib.hid hy
   obtain ⟨⟨yh1, yh2⟩, yk, yo, ⟨ya1, ya2⟩, ⟨yb1, yb2⟩, yi⟩ := y
   clear hcc hrz hez hzz hy hll
   obtain ⟨c0, c1, c2, c3, c4, c5, c6, c7, c8⟩ := n9 hc
   clear hc
   have hal := (MapKept.heap_alloc wr (bM yk yh1 yh2 yo ya1 ya2 yb1 yb2 yi)).1
   have hka : KF wr (wr.alloc (bM yk yh1 yh2 yo ya1 ya2 yb1 yb2 yi)) := (Keeps.refl _ _).alloc _
   obtain ⟨b, hb⟩ : ∃ b, wr.heap.size = b := ⟨_, rfl⟩
   rw [hb] at hal
   have HB := Lib.hid hal
   obtain ⟨qb, hqb⟩ : ∃ q, stmRB ((yh1, yh2), yk, yo, (ya1, ya2), (yb1, yb2), yi) = q := ⟨_, rfl⟩
   have HQQ := Lib.hid hqb
   have HC := Lib.hid (HSR.out ((yh1, yh2), yk, yo, (ya1, ya2), (yb1, yb2), yi))
   rw [hqb] at HC
   clear hqb
   unfold stmV at HC
   simp only at HC
   have HO : Hid (KF WB (wr.alloc (bM yk yh1 yh2 yo ya1 ya2 yb1 yb2 yi))) := HI.out.1.trans hka
   have HIO := Lib.hid HI.out.2
   go_upto_region 4 with fail
   clear hal hka hb HI c0 c1 c2 c3 c4 c5 c6 c7 c8
   generalize wr.alloc (bM yk yh1 yh2 yo ya1 ya2 yb1 yb2 yi) = w1 at *
   obtain ⟨p0, f0, p1, f1, p2, f2, p3, f3, p4, f4, p5, f5, p6, f6, p7, f7, p8, f8⟩ := cf9 HB.out
   go_wp2_with fail
   refine (HC.out _).mono ?_
   rintro e w2 ⟨rfl, hk⟩
   cases qb
   case false =>
    have e : Hid (R = false) := show R = false by rw [HD.out, all_no HY.out HQQ.out, Bool.false_and]
    have HE : Hid (KF W w2) := HK0.out.trans (HO.out.trans hk.out)
    clear HO hk HB HC p0 f0 p1 f1 p2 f2 p3 f3 p4 f4 p5 f5 p6 f6 p7 f7 p8 f8
    go_wp2_with fail
    go_ret
    exact ⟨by rw [e.out]; rfl, HE⟩
   case true =>
    have HN2 : Hid (KF WB w2 ∧ ∀ (j : Nat) (y : _), j < i + 1 → l0[j]? = some y → _ = true) := ⟨HO.out.trans hk.out, all_more HIO.out HY.out HQQ.out⟩
    clear HO HIO hk HB HC p0 f0 p1 f1 p2 f2 p3 f3 p4 f4 p5 f5 p6 f6 p7 f7 p8 f8
    go_wp2_with fail
    go_roundg (n0 - (i + 1))
    case measure => omega
    case rel => exact ⟨i + 1, by omega, rfl, by go_num, HN2⟩
  ·obtain rfl : n0 = i := by omega
   have hiI : ¬ (n0 : Int) < (n0 : Int) := by omega
   have HZ : Hid (KF WB wr) := HI.out.1
   have HALL : Hid (l0.all stmRB = true) := all_yes (by rw [HN0.out]; exact HI.out.2)
   replace HD := Lib.hid HD.out
   rw [HALL.out, Bool.true_and] at HD
   clear HI HALL
   have HS1 := Lib.hid ((HZ.out.block _ (lt_of_heap HS.out) (fun x => x)).trans HS.out)
   have HKW : Hid (KF W wr) := HK0.out.trans HZ.out
   have HLZ : Hid (LB ≤ wr.heap.size) := by have := HZ.out.size; have := HLB.out; show _ ≤ _; omega
   have HAB : Hid (W.heap.size < LB) := by have := lt_of_heap HS.out; have := HLB.out; show _ < _; omega
   clear HS HK0
   have HN : Hid (W.heap.size < LB) := HAB.out
   go_upto_region 7 with fail
   have HMK1 : Hid (∀ w' : World, w'.heap[W.heap.size]? = some (bP ao0 n0 cp0 ao1 n1 cp1 ao2 n2 cp2 ao3 n3 cp3) → w'.cell? ⟨W.heap.size, 0, none⟩ = some (.slice ao0 n0 cp0) ∧ w'.cell? ⟨W.heap.size, 1, none⟩ = some (.slice ao1 n1 cp1) ∧ w'.cell? ⟨W.heap.size, 2, none⟩ = some (.slice ao2 n2 cp2) ∧ w'.cell? ⟨W.heap.size, 3, none⟩ = some (.slice ao3 n3 cp3) ∧ Hid (w'.heap[W.heap.size]? = some (bP ao0 n0 cp0 ao1 n1 cp1 ao2 n2 cp2 ao3 n3 cp3))) := fun w' h0 => ⟨(by rw [cell_of_heap h0]; rfl), (by rw [cell_of_heap h0]; rfl), (by rw [cell_of_heap h0]; rfl), (by rw [cell_of_heap h0]; rfl), Lib.hid h0⟩
   have hkd : KF wr wr.drew := (Keeps.refl _ _).drew
   have HS2 := Lib.hid (((hkd).block _ (lt_of_heap HS1.out) (fun x => x)).trans HS1.out)
   have HE3 := Lib.hid (HZ.out.trans (hkd))
   have HK4 := Lib.hid (HKW.out.drew)
   have hS0 := HMK1.out wr.drew HS2.out
   clear hkd HS1 HZ HKW
   refine wp_region_noPanic ?_
   refine wp_region_held_drew (S := (fun w' => w'.cell? ⟨W.heap.size, 0, none⟩ = some (.slice ao0 n0 cp0) ∧ w'.cell? ⟨W.heap.size, 1, none⟩ = some (.slice ao1 n1 cp1) ∧ w'.cell? ⟨W.heap.size, 2, none⟩ = some (.slice ao2 n2 cp2) ∧ w'.cell? ⟨W.heap.size, 3, none⟩ = some (.slice ao3 n3 cp3) ∧ Hid (w'.heap[W.heap.size]? = some (bP ao0 n0 cp0 ao1 n1 cp1 ao2 n2 cp2 ao3 n3 cp3)))) (by kernel_rfl) hS0 (fun hHeld => ?_)
   clear hS0
   generalize wr.drew = w5 at *
   refine tk 1 rfl hHeld ?_
   refine tk 4 rfl hHeld ?_
   refine tk 8 rfl hHeld ?_
   (try simp only [nz])
   refine tk 2 rfl hHeld ?_
   refine tk 5 rfl hHeld ?_
   (try simp only [nz])
   refine on1 0 rfl fun KK hK => ?_
   have hkE : KF w5 (w5.alloc (.cells #[] 28)) := (Keeps.refl _ _).alloc _
   have hlew5 : LB ≤ w5.heap.size := by have := HE3.out.size; have := HLB.out; omega
   have HRW : Hid (OwnK rolE LB (w5.alloc (.cells #[] 28)) (.slice (some ⟨w5.heap.size, 0, none⟩) 0 0) ([] : List Rol)) := ownK_lit rolE hlew5
   have HS11 := Lib.hid (((hkE).block _ (lt_of_heap HS2.out) (fun x => x)).trans HS2.out)
   have HE12 := Lib.hid (HE3.out.trans (hkE))
   have HK13 := Lib.hid (HK4.out.trans hkE)
   go_simp
   refine hK.out _ _ (HMK1.out _ HS11.out) fun hHeld => ?_
   clear hK KK
   (try simp only [nz])
   clear hkE hlew5 HS2 HE3 HK4
   generalize Value.slice (some ⟨w5.heap.size, 0, none⟩) 0 0 = rv at *
   generalize (w5.alloc (.cells #[] 28)) = w15 at *
   refine on1 3 rfl fun KK hK => ?_
   have hlo16 : LB ≤ w15.heap.size := by have := HE12.out.size; have := HLB.out; omega
   have hsrc16 : SrcK rolE w15 _ l1 := HX1.out.keeps HE12.out
   refine step_app_k (E := rolE) rfl (.tmp 20) (.tmp 22) rfl LB rv [] (by simp [Act.eval, Act.put] <;> rfl) HRW.out _ l1 (by simp [Act.eval, Act.put] <;> rfl) hsrc16 (by have := HN1.out; have := HN2.out; simp; omega) hlo16 ?_
   intro v16 w16 ho hk
   have kG : Keeps (fun q => LB ≤ q) w15 w16 := hk.mono (fun q _ e => own_block HRW.out q e)
   have HS17 := Lib.hid (((kG).block _ (lt_of_heap HS11.out) (by have := HN.out; show ¬ _ ≤ _; omega)).trans HS11.out)
   have HE18 := Lib.hid (HE12.out.trans_new (kG) (fun q hq hx => by have hx : _ ≤ q := hx; have := HLB.out; omega))
   have HK19 := Lib.hid (HK13.out.trans_new kG (fun q hq hx => by have hx : LB ≤ q := hx; have := HAB.out; omega))
   replace HRW := Lib.hid ho
   (try go_simp)
   refine hK.out _ _ (HMK1.out _ HS17.out) fun hHeld => ?_
   clear hK KK
   (try simp only [nz])
   clear kG ho hk hlo16 hsrc16 HS11 HE12 HK13
   refine on1 6 rfl fun KK hK => ?_
   have hlo21 : LB ≤ w16.heap.size := by have := HE18.out.size; have := HLB.out; omega
   have hsrc21 : SrcK rolE w16 _ l2 := HX2.out.keeps HE18.out
   refine step_app_k (E := rolE) rfl (.tmp 23) (.tmp 25) rfl LB v16 ([] ++ l1) (by simp [Act.eval, Act.put] <;> rfl) HRW.out _ l2 (by simp [Act.eval, Act.put] <;> rfl) hsrc21 (by have := HN1.out; have := HN2.out; simp; omega) hlo21 ?_
   intro v21 w21 ho hk
   have kG : Keeps (fun q => LB ≤ q) w16 w21 := hk.mono (fun q _ e => own_block HRW.out q e)
   have HS22 := Lib.hid (((kG).block _ (lt_of_heap HS17.out) (by have := HN.out; show ¬ _ ≤ _; omega)).trans HS17.out)
   have HE23 := Lib.hid (HE18.out.trans_new (kG) (fun q hq hx => by have hx : _ ≤ q := hx; have := HLB.out; omega))
   have HK24 := Lib.hid (HK19.out.trans_new kG (fun q hq hx => by have hx : LB ≤ q := hx; have := HAB.out; omega))
   replace HRW := Lib.hid ho
   (try go_simp)
   refine hK.out _ _ (HMK1.out _ HS22.out) fun hHeld => ?_
   clear hK KK
   (try simp only [nz])
   clear kG ho hk hlo21 hsrc21 HS17 HE18 HK19
   obtain ⟨aoR, cpR, hvR, hleR, hrR⟩ := id HRW.out.reads
   have hlm : ([] ++ l1 ++ l2).length = n1 + n2 := by have := HN1.out; have := HN2.out; simp; omega
   rw [hlm] at hvR
   obtain ⟨nR, hnR⟩ : ∃ q, n1 + n2 = q := ⟨_, rfl⟩
   have HLR : Hid ((l1 ++ l2).length = nR) := by have := HN1.out; have := HN2.out; show _ = _; rw [List.length_append]; omega
   rw [hnR] at hvR
   have hnR2 : nR ≤ 200 := by omega
   subst hvR
   clear hrR hleR
   refine on1 7 rfl fun KK hK => ?_
   go_simp
   refine hK.out _ _ (HMK1.out _ HS22.out) fun hHeld => ?_
   clear hK KK
   (try simp only [nz])
   refine wpAnyH_done (by kernel_rfl) ?_ _
   refine NoPanic.normal ?_
   clear hHeld HMK1
   have HVR : Hid (RdK rolE w21 (.slice aoR nR cpR) ([] ++ l1 ++ l2)) := HRW.out.reads
   have HV3Z := Lib.hid (HV3.out.keeps HE23.out)
   generalize w21 = WZ at *
   have HKZ := Lib.hid HE23.out
   have HKY := Lib.hid HK24.out
   have HSZ := Lib.hid HS22.out
   have HST : Hid (KF WZ WZ) := Keeps.refl _ _
   clear HRW HE23 HK24 HS22 HV0 HV1 HV2 HV3 HN HLZ
   go_wp2_with fail
   go_loopg [28] nR (fun g t wx => ∃ i : Nat, i ≤ nR ∧ g = nR - i ∧ t = .int .i64 i ∧ Hid (KF WZ wx ∧ ∀ (j : Nat) (y : _), j < i → (l1 ++ l2)[j]? = some y → roleB y = true))
   case atStart => exact ⟨0, Nat.zero_le _, rfl, rfl, HST.out, fun j y hj _ => absurd hj (Nat.not_lt_zero _)⟩
   case round =>
    obtain ⟨i, hi, rfl, rfl, HI⟩ := hrel
    clear HST 
    by_cases hlt : i < nR
    ·skip
     have hiI : (i : Int) < (nR : Int) := by omega
     have hwi : IntKind.i64.wrap ((i : Int) + 1) = (i : Int) + 1 := IntWalk.i64_in _ (by omega)
     have hrd := HVR.out.keeps HI.out.1
     obtain ⟨aoz, cpz, ez, hez, hrz⟩ := hrd
     have hll : ([] ++ l1 ++ l2).length = nR := by simpa using (Value.slice.inj ez).2.1.symm
     obtain ⟨y, hy⟩ : ∃ y, ([] ++ l1 ++ l2)[i]? = some y := ⟨_, List.getElem?_eq_getElem (by rw [hll]; exact hlt)⟩
     obtain ⟨g, off, hao, hg, hcc⟩ := hrz (by omega)
     simp only [Value.slice.injEq] at ez
     obtain ⟨rfl, hzz, rfl⟩ := ez
     subst hao
     have hicap : i < cpR := by omega
     have hc := hcc i y hy
     have HY := Lib.hid hy
     obtain ⟨yr1, yr2⟩ := y
     clear hcc hrz hez hzz hy hll
     have c0 : wr.cell? ⟨g, off + i * 2, none⟩ = some (.string ⟨yr1.toArray⟩) := hc 0 _ rfl
     have c1 : wr.cell? ⟨g, off + i * 2 + 1, none⟩ = some (.string ⟨yr2.toArray⟩) := hc 1 _ rfl
     clear hc
     have hal := (MapKept.heap_alloc wr (bR yr1 yr2)).1
     have hka : KF wr (wr.alloc (bR yr1 yr2)) := (Keeps.refl _ _).alloc _
     obtain ⟨b, hb⟩ : ∃ b, wr.heap.size = b := ⟨_, rfl⟩
     rw [hb] at hal
     have HB := Lib.hid hal
     obtain ⟨qb, hqb⟩ : ∃ q, roleB (yr1, yr2) = q := ⟨_, rfl⟩
     have HQQ := Lib.hid hqb
     have HC := Lib.hid (HRR.out (yr1, yr2))
     rw [hqb] at HC
     clear hqb
     have HO : Hid (KF WZ (wr.alloc (bR yr1 yr2))) := HI.out.1.trans hka
     have HIO := Lib.hid HI.out.2
     go_upto_region 10 with fail
     clear hal hka hb HI c0 c1
     generalize wr.alloc (bR yr1 yr2) = w1 at *
     obtain ⟨p0, f0, p1, f1⟩ := cf2 HB.out
     go_wp2_with fail
     refine (HC.out _).mono ?_
     rintro e w2 ⟨rfl, hk⟩
     cases qb
     case false =>
      have e : Hid (R = false) := show R = false by rw [HD.out, all_no (by have h := HY.out; rw [List.nil_append] at h; exact h) HQQ.out, Bool.false_and]
      have HE : Hid (KF W w2) := HKY.out.trans (HO.out.trans hk.out)
      clear HO hk HB HC p0 f0 p1 f1
      go_wp2_with fail
      go_ret
      exact ⟨by rw [e.out]; rfl, HE⟩
     case true =>
      have HN2 : Hid (KF WZ w2 ∧ ∀ (j : Nat) (y : _), j < i + 1 → (l1 ++ l2)[j]? = some y → _ = true) := ⟨HO.out.trans hk.out, all_more HIO.out (by have h := HY.out; rw [List.nil_append] at h; exact h) HQQ.out⟩
      clear HO HIO hk HB HC p0 f0 p1 f1
      go_wp2_with fail
      go_roundg (nR - (i + 1))
      case measure => omega
      case rel => exact ⟨i + 1, by omega, rfl, by go_num, HN2⟩
    ·obtain rfl : nR = i := by omega
     have hiI : ¬ (nR : Int) < (nR : Int) := by omega
     have HZ : Hid (KF WZ wr) := HI.out.1
     have HALL : Hid ((l1 ++ l2).all roleB = true) := all_yes (by rw [HLR.out]; exact HI.out.2)
     replace HD := Lib.hid HD.out
     rw [HALL.out, Bool.true_and] at HD
     clear HI HALL
     obtain ⟨Sc0, Sf0, Sc1, Sf1, Sc2, Sf2, Sc3, Sf3⟩ := cf4 ((HZ.out.block _ (lt_of_heap HSZ.out) (fun x => x)).trans HSZ.out)
     have HST := HZ
     clear HZ
     go_wp2_with fail
     go_loopg [39] n3 (fun g t wx => ∃ i : Nat, i ≤ n3 ∧ g = n3 - i ∧ t = .int .i64 i ∧ Hid (KF WZ wx ∧ ∀ (j : Nat) (y : _), j < i → l3[j]? = some y → qryRB y = true))
     case atStart => exact ⟨0, Nat.zero_le _, rfl, rfl, HST.out, fun j y hj _ => absurd hj (Nat.not_lt_zero _)⟩
     case round =>
      obtain ⟨i, hi, rfl, rfl, HI⟩ := hrel
      clear HST Sc0 Sf0 Sc1 Sf1 Sc2 Sf2 Sc3 Sf3
      by_cases hlt : i < n3
      ·skip
       have hiI : (i : Int) < (n3 : Int) := by omega
       have hwi : IntKind.i64.wrap ((i : Int) + 1) = (i : Int) + 1 := IntWalk.i64_in _ (by omega)
       have hrd := HV3Z.out.keeps HI.out.1
       obtain ⟨aoz, cpz, ez, hez, hrz⟩ := hrd
       have hll : lv.length = n3 := by simpa using (Value.slice.inj ez).2.1.symm
       obtain ⟨y, hy⟩ : ∃ y, lv[i]? = some y := ⟨_, List.getElem?_eq_getElem (by rw [hll]; exact hlt)⟩
       obtain ⟨g, off, hao, hg, hcc⟩ := hrz (by omega)
       simp only [Value.slice.injEq] at ez
       obtain ⟨rfl, hzz, rfl⟩ := ez
       subst hao
       have hicap : i < cp3 := by omega
       have hc := hcc i y hy
       have HY := Lib.hid hy
       obtain ⟨yk, ⟨ya1, ya2⟩, ⟨yb1, yb2⟩, yo, yn, yc⟩ := y
       clear hcc hrz hez hzz hy hll
       have c0 : wr.cell? ⟨g, off + i * 6, none⟩ = some (.int .i64 yk) := hc 0 _ rfl
       have c1 : wr.cell? ⟨g, off + i * 6 + 1, none⟩ = some (.string ⟨ya1.toArray⟩) := hc 1 _ rfl
       have c2 : wr.cell? ⟨g, off + i * 6 + 2, none⟩ = some (.string ⟨ya2.toArray⟩) := hc 2 _ rfl
       have c3 : wr.cell? ⟨g, off + i * 6 + 3, none⟩ = some (.string ⟨yb1.toArray⟩) := hc 3 _ rfl
       have c4 : wr.cell? ⟨g, off + i * 6 + 4, none⟩ = some (.string ⟨yb2.toArray⟩) := hc 4 _ rfl
       have c5 : wr.cell? ⟨g, off + i * 6 + 5, none⟩ = some (.slice yo yn yc) := hc 5 _ rfl
       clear hc
       have hal := (MapKept.heap_alloc wr (bQ yk ya1 ya2 yb1 yb2 yo yn yc)).1
       have hka : KF wr (wr.alloc (bQ yk ya1 ya2 yb1 yb2 yo yn yc)) := (Keeps.refl _ _).alloc _
       obtain ⟨b, hb⟩ : ∃ b, wr.heap.size = b := ⟨_, rfl⟩
       rw [hb] at hal
       have HB := Lib.hid hal
       obtain ⟨q, hq⟩ : ∃ q, l3[i]? = some q := ⟨_, List.getElem?_eq_getElem (by rw [HN3.out]; exact hlt)⟩
       have hrq := HQ.out i q _ hq HY.out
       have HC0 := Lib.hid (HQR.out q (List.mem_of_getElem? hq))
       have HY3 := Lib.hid hq
       obtain ⟨zk, ⟨za1, za2⟩, ⟨zb1, zb2⟩, zw⟩ := q
       obtain ⟨rfl, e1, e2, hz⟩ := hrq
       simp only [Prod.mk.injEq] at e1 e2
       obtain ⟨rfl, rfl⟩ := e1
       obtain ⟨rfl, rfl⟩ := e2
       have hz1 : ReadsS W (.slice yo yn yc) zw := hz.1
       obtain ⟨qb, hqb⟩ : ∃ q, qryRB (yk, (ya1, ya2), (yb1, yb2), zw) = q := ⟨_, rfl⟩
       have HQQ := Lib.hid hqb
       rw [hqb] at HC0
       have HC : Hid (∀ w, KF W w → Calls Tryz.prog 84 #[.agg #[.int .i64 yk, .string ⟨ya1.toArray⟩, .string ⟨ya2.toArray⟩, .string ⟨yb1.toArray⟩, .string ⟨yb2.toArray⟩, .slice yo yn yc]] w fun e W' => e = .returned (.bool qb) ∧ Hid (KF w W')) := fun w hk => HC0.out _ w (hz1.keeps hk)
       clear hz hz1 hq HC0 hqb
       have HO : Hid (KF WZ (wr.alloc (bQ yk ya1 ya2 yb1 yb2 yo yn yc))) := HI.out.1.trans hka
       have HIO := Lib.hid HI.out.2
       go_upto_region 16 with fail
       clear hal hka hb HI c0 c1 c2 c3 c4 c5
       generalize wr.alloc (bQ yk ya1 ya2 yb1 yb2 yo yn yc) = w1 at *
       obtain ⟨p0, f0, p1, f1, p2, f2, p3, f3, p4, f4, p5, f5⟩ := cf6 HB.out
       go_wp2_with fail
       refine (HC.out _ (HKY.out.trans HO.out)).mono ?_
       rintro e w2 ⟨rfl, hk⟩
       cases qb
       case false =>
        have e : Hid (R = false) := show R = false by rw [HD.out, all_no HY3.out HQQ.out, Bool.false_and]
        have HE : Hid (KF W w2) := HKY.out.trans (HO.out.trans hk.out)
        clear HO hk HB HC p0 f0 p1 f1 p2 f2 p3 f3 p4 f4 p5 f5
        go_wp2_with fail
        go_ret
        exact ⟨by rw [e.out]; rfl, HE⟩
       case true =>
        have HN2 : Hid (KF WZ w2 ∧ ∀ (j : Nat) (y : _), j < i + 1 → l3[j]? = some y → _ = true) := ⟨HO.out.trans hk.out, all_more HIO.out HY3.out HQQ.out⟩
        clear HO HIO hk HB HC p0 f0 p1 f1 p2 f2 p3 f3 p4 f4 p5 f5
        go_wp2_with fail
        go_roundg (n3 - (i + 1))
        case measure => omega
        case rel => exact ⟨i + 1, by omega, rfl, by go_num, HN2⟩
      ·obtain rfl : n3 = i := by omega
       have hiI : ¬ (n3 : Int) < (n3 : Int) := by omega
       have HZ : Hid (KF WZ wr) := HI.out.1
       have HALL : Hid (l3.all qryRB = true) := all_yes (by rw [HN3.out]; exact HI.out.2)
       replace HD := Lib.hid HD.out
       rw [HALL.out, Bool.true_and] at HD
       clear HI HALL
       have HK9 : Hid (KF W wr) := HKY.out.trans HZ.out
       have HZ9 : Hid (KF WB wr) := HKZ.out.trans HZ.out
       obtain ⟨p0, f0, p1, f1, p2, f2, p3, f3⟩ := cf4 ((HZ.out.block _ (lt_of_heap HSZ.out) (fun x => x)).trans HSZ.out)
       clear f0 f1 f2 f3
       obtain ⟨d0, hd0⟩ : ∃ d, decide (l0 = sortO stmLt l0) = d := ⟨_, rfl⟩
       obtain ⟨d1, hd1⟩ : ∃ d, decide (l1 = sortO rolLt l1) = d := ⟨_, rfl⟩
       obtain ⟨d2, hd2⟩ : ∃ d, decide (l2 = sortO rolLt l2) = d := ⟨_, rfl⟩
       rw [hd0, hd1, hd2] at HD
       have HC1 : Hid (∀ w, KF WB w → Calls Tryz.prog 25 #[.slice ao0 n0 cp0] w fun e W' => ∃ v', e = .returned v' ∧ Hid (KF w W' ∧ (Calls Tryz.prog 27 #[.slice ao0 n0 cp0, v'] W' fun e W2 => e = .returned (.bool d0) ∧ Hid (KF W' W2)))) := fun w hk => (rsortm_spec (rdk_m.1 (HX0.out.1.keeps hk)) (by have := HN0.out; omega)).mono fun _ W' ⟨v', q1, q2⟩ => ⟨v', q1, q2.out.1, by rw [← hd0]; exact msame_all ((HX0.out.1.keeps hk).keeps q2.out.1) q2.out.2.reads (by have := HN0.out; omega)⟩
       have HC2 : Hid (∀ w, KF WB w → Calls Tryz.prog 70 #[.slice ao1 n1 cp1] w fun e W' => ∃ v', e = .returned v' ∧ Hid (KF w W' ∧ (Calls Tryz.prog 26 #[.slice ao1 n1 cp1, v'] W' fun e W2 => e = .returned (.bool d1) ∧ Hid (KF W' W2)))) := fun w hk => (rsortr_spec (rdk_r.1 (HX1.out.1.keeps hk)) (by have := HN1.out; omega)).mono fun _ W' ⟨v', q1, q2⟩ => ⟨v', q1, q2.out.1, by rw [← hd1]; exact rsame_all ((HX1.out.1.keeps hk).keeps q2.out.1) q2.out.2.reads (by have := HN1.out; omega)⟩
       have HC3 : Hid (∀ w, KF WB w → Calls Tryz.prog 70 #[.slice ao2 n2 cp2] w fun e W' => ∃ v', e = .returned v' ∧ Hid (KF w W' ∧ (Calls Tryz.prog 26 #[.slice ao2 n2 cp2, v'] W' fun e W2 => e = .returned (.bool d2) ∧ Hid (KF W' W2)))) := fun w hk => (rsortr_spec (rdk_r.1 (HX2.out.1.keeps hk)) (by have := HN2.out; omega)).mono fun _ W' ⟨v', q1, q2⟩ => ⟨v', q1, q2.out.1, by rw [← hd2]; exact rsame_all ((HX2.out.1.keeps hk).keeps q2.out.1) q2.out.2.reads (by have := HN2.out; omega)⟩
       clear hd0 hd1 hd2 HSZ HKY HKZ HZ HX0 HX1 HX2 HVR HV3Z HLB HAB HSR HRR HQR HQ
       go_upto_region 19 with fail
       have HMK1 : Hid (∀ w' : World, KF wr w' → w'.cell? ⟨W.heap.size, 0, none⟩ = some (.slice ao0 n0 cp0) ∧ w'.cell? ⟨W.heap.size, 1, none⟩ = some (.slice ao1 n1 cp1) ∧ w'.cell? ⟨W.heap.size, 2, none⟩ = some (.slice ao2 n2 cp2) ∧ w'.cell? ⟨W.heap.size, 3, none⟩ = some (.slice ao3 n3 cp3)) := fun w' hk => ⟨kc hk p0, kc hk p1, kc hk p2, kc hk p3⟩
       have HKX1 : Hid (KF wr wr.drew) := (Keeps.refl _ _).drew
       have hS0 := HMK1.out _ HKX1.out
       clear p0 p1 p2 p3
       refine wp_region_noPanic ?_
       refine wp_region_held_drew (S := (fun w' => w'.cell? ⟨W.heap.size, 0, none⟩ = some (.slice ao0 n0 cp0) ∧ w'.cell? ⟨W.heap.size, 1, none⟩ = some (.slice ao1 n1 cp1) ∧ w'.cell? ⟨W.heap.size, 2, none⟩ = some (.slice ao2 n2 cp2) ∧ w'.cell? ⟨W.heap.size, 3, none⟩ = some (.slice ao3 n3 cp3))) (by kernel_rfl) hS0 (fun hHeld => ?_)
       clear hS0
       generalize wr.drew = wa at *
       refine tk 0 rfl hHeld ?_
       refine tk 2 rfl hHeld ?_
       refine tk 1 rfl hHeld ?_
       (try simp only [nz])
       refine tk 3 rfl hHeld ?_
       (try simp only [nz])
       refine on1 4 rfl fun KK hK => ?_
       go_simp
       refine (HC1.out _ (HZ9.out.trans HKX1.out)).mono ?_
       rintro e wb0 ⟨sv0, rfl, hk⟩
       have HSA0 := Lib.hid hk.out.2
       replace HKX1 := Lib.hid (HKX1.out.trans hk.out.1)
       clear hk HC1
       go_simp
       refine hK.out _ _ (HMK1.out _ HKX1.out) fun hHeld => ?_
       clear hK KK
       (try simp only [nz])
       refine on1 5 rfl fun KK hK => ?_
       go_simp
       refine (HSA0.out).mono ?_
       rintro e wc0 ⟨rfl, hk⟩
       replace HKX1 := Lib.hid (HKX1.out.trans hk.out)
       clear hk HSA0
       go_simp
       refine hK.out _ _ (HMK1.out _ HKX1.out) fun hHeld => ?_
       clear hK KK
       (try simp only [nz])
       cases d0
       case false =>
        refine on1 6 rfl fun KK hK => ?_
        go_simp
        refine hK.out _ _ (HMK1.out _ HKX1.out) fun hHeld => ?_
        clear hK KK
        refine tks 7 rfl hHeld ?_
        refine tks 9 rfl hHeld ?_
        (try simp only [nz])
        refine tks 8 rfl hHeld ?_
        refine tks 10 rfl hHeld ?_
        (try simp only [nz])
        refine on1 11 rfl fun KK hK => ?_
        go_simp
        refine hK.out _ _ (HMK1.out _ HKX1.out) fun hHeld => ?_
        clear hK KK
        (try simp only [nz])
        refine on1 12 rfl fun KK hK => ?_
        go_simp
        refine hK.out _ _ (HMK1.out _ HKX1.out) fun hHeld => ?_
        clear hK KK
        (try simp only [nz])
        refine on1 13 rfl fun KK hK => ?_
        go_simp
        refine hK.out _ _ (HMK1.out _ HKX1.out) fun hHeld => ?_
        clear hK KK
        (try simp only [nz])
        refine on1 14 rfl fun KK hK => ?_
        go_simp
        refine hK.out _ _ (HMK1.out _ HKX1.out) fun hHeld => ?_
        clear hK KK
        refine tks 15 rfl hHeld ?_
        refine tks 17 rfl hHeld ?_
        (try simp only [nz])
        refine tks 16 rfl hHeld ?_
        refine tks 18 rfl hHeld ?_
        (try simp only [nz])
        refine on1 19 rfl fun KK hK => ?_
        go_simp
        refine hK.out _ _ (HMK1.out _ HKX1.out) fun hHeld => ?_
        clear hK KK
        (try simp only [nz])
        refine on1 20 rfl fun KK hK => ?_
        go_simp
        refine hK.out _ _ (HMK1.out _ HKX1.out) fun hHeld => ?_
        clear hK KK
        (try simp only [nz])
        refine on1 21 rfl fun KK hK => ?_
        go_simp
        refine hK.out _ _ (HMK1.out _ HKX1.out) fun hHeld => ?_
        clear hK KK
        (try simp only [nz])
        refine on1 22 rfl fun KK hK => ?_
        go_simp
        refine hK.out _ _ (HMK1.out _ HKX1.out) fun hHeld => ?_
        clear hK KK
        refine tks 23 rfl hHeld ?_
        (try simp only [nz])
        refine on1 24 rfl fun KK hK => ?_
        go_simp
        refine hK.out _ _ (HMK1.out _ HKX1.out) fun hHeld => ?_
        clear hK KK
        (try simp only [nz])
        refine on1 25 rfl fun KK hK => ?_
        go_simp
        refine hK.out _ _ (HMK1.out _ HKX1.out) fun hHeld => ?_
        clear hK KK
        (try simp only [nz])
        refine on1 26 rfl fun KK hK => ?_
        go_simp
        refine hK.out _ _ (HMK1.out _ HKX1.out) fun hHeld => ?_
        clear hK KK
        (try simp only [nz])
        refine wpAnyH_done (by kernel_rfl) ?_ _
        refine NoPanic.normal ?_
        clear hHeld HMK1
        have e : Hid (R = false) := show R = _ by rw [HD.out]; simp
        have HE : Hid (KF W wc0) := HK9.out.trans HKX1.out
        clear HKX1 HK9 HZ9
        go_wp2_with fail
        go_ret
        exact ⟨by rw [e.out]; rfl, HE⟩
       case true =>
        refine on1 6 rfl fun KK hK => ?_
        go_simp
        refine hK.out _ _ (HMK1.out _ HKX1.out) fun hHeld => ?_
        clear hK KK
        refine tk 7 rfl hHeld ?_
        refine tk 9 rfl hHeld ?_
        (try simp only [nz])
        refine tk 8 rfl hHeld ?_
        refine tk 10 rfl hHeld ?_
        (try simp only [nz])
        refine on1 11 rfl fun KK hK => ?_
        go_simp
        refine (HC2.out _ (HZ9.out.trans HKX1.out)).mono ?_
        rintro e wb1 ⟨sv1, rfl, hk⟩
        have HSA1 := Lib.hid hk.out.2
        replace HKX1 := Lib.hid (HKX1.out.trans hk.out.1)
        clear hk HC2
        go_simp
        refine hK.out _ _ (HMK1.out _ HKX1.out) fun hHeld => ?_
        clear hK KK
        (try simp only [nz])
        refine on1 12 rfl fun KK hK => ?_
        go_simp
        refine (HSA1.out).mono ?_
        rintro e wc1 ⟨rfl, hk⟩
        replace HKX1 := Lib.hid (HKX1.out.trans hk.out)
        clear hk HSA1
        go_simp
        refine hK.out _ _ (HMK1.out _ HKX1.out) fun hHeld => ?_
        clear hK KK
        (try simp only [nz])
        cases d1
        case false =>
         refine on1 13 rfl fun KK hK => ?_
         go_simp
         refine hK.out _ _ (HMK1.out _ HKX1.out) fun hHeld => ?_
         clear hK KK
         (try simp only [nz])
         refine on1 14 rfl fun KK hK => ?_
         go_simp
         refine hK.out _ _ (HMK1.out _ HKX1.out) fun hHeld => ?_
         clear hK KK
         refine tks 15 rfl hHeld ?_
         refine tks 17 rfl hHeld ?_
         (try simp only [nz])
         refine tks 16 rfl hHeld ?_
         refine tks 18 rfl hHeld ?_
         (try simp only [nz])
         refine on1 19 rfl fun KK hK => ?_
         go_simp
         refine hK.out _ _ (HMK1.out _ HKX1.out) fun hHeld => ?_
         clear hK KK
         (try simp only [nz])
         refine on1 20 rfl fun KK hK => ?_
         go_simp
         refine hK.out _ _ (HMK1.out _ HKX1.out) fun hHeld => ?_
         clear hK KK
         (try simp only [nz])
         refine on1 21 rfl fun KK hK => ?_
         go_simp
         refine hK.out _ _ (HMK1.out _ HKX1.out) fun hHeld => ?_
         clear hK KK
         (try simp only [nz])
         refine on1 22 rfl fun KK hK => ?_
         go_simp
         refine hK.out _ _ (HMK1.out _ HKX1.out) fun hHeld => ?_
         clear hK KK
         refine tks 23 rfl hHeld ?_
         (try simp only [nz])
         refine on1 24 rfl fun KK hK => ?_
         go_simp
         refine hK.out _ _ (HMK1.out _ HKX1.out) fun hHeld => ?_
         clear hK KK
         (try simp only [nz])
         refine on1 25 rfl fun KK hK => ?_
         go_simp
         refine hK.out _ _ (HMK1.out _ HKX1.out) fun hHeld => ?_
         clear hK KK
         (try simp only [nz])
         refine on1 26 rfl fun KK hK => ?_
         go_simp
         refine hK.out _ _ (HMK1.out _ HKX1.out) fun hHeld => ?_
         clear hK KK
         (try simp only [nz])
         refine wpAnyH_done (by kernel_rfl) ?_ _
         refine NoPanic.normal ?_
         clear hHeld HMK1
         have e : Hid (R = false) := show R = _ by rw [HD.out]; simp
         have HE : Hid (KF W wc1) := HK9.out.trans HKX1.out
         clear HKX1 HK9 HZ9
         go_wp2_with fail
         go_ret
         exact ⟨by rw [e.out]; rfl, HE⟩
        case true =>
         refine on1 13 rfl fun KK hK => ?_
         go_simp
         refine hK.out _ _ (HMK1.out _ HKX1.out) fun hHeld => ?_
         clear hK KK
         (try simp only [nz])
         refine on1 14 rfl fun KK hK => ?_
         go_simp
         refine hK.out _ _ (HMK1.out _ HKX1.out) fun hHeld => ?_
         clear hK KK
         refine tk 15 rfl hHeld ?_
         refine tk 17 rfl hHeld ?_
         (try simp only [nz])
         refine tk 16 rfl hHeld ?_
         refine tk 18 rfl hHeld ?_
         (try simp only [nz])
         refine on1 19 rfl fun KK hK => ?_
         go_simp
         refine (HC3.out _ (HZ9.out.trans HKX1.out)).mono ?_
         rintro e wb2 ⟨sv2, rfl, hk⟩
         have HSA2 := Lib.hid hk.out.2
         replace HKX1 := Lib.hid (HKX1.out.trans hk.out.1)
         clear hk HC3
         go_simp
         refine hK.out _ _ (HMK1.out _ HKX1.out) fun hHeld => ?_
         clear hK KK
         (try simp only [nz])
         refine on1 20 rfl fun KK hK => ?_
         go_simp
         refine (HSA2.out).mono ?_
         rintro e wc2 ⟨rfl, hk⟩
         replace HKX1 := Lib.hid (HKX1.out.trans hk.out)
         clear hk HSA2
         go_simp
         refine hK.out _ _ (HMK1.out _ HKX1.out) fun hHeld => ?_
         clear hK KK
         (try simp only [nz])
         cases d2
         case false =>
          refine on1 21 rfl fun KK hK => ?_
          go_simp
          refine hK.out _ _ (HMK1.out _ HKX1.out) fun hHeld => ?_
          clear hK KK
          (try simp only [nz])
          refine on1 22 rfl fun KK hK => ?_
          go_simp
          refine hK.out _ _ (HMK1.out _ HKX1.out) fun hHeld => ?_
          clear hK KK
          refine tks 23 rfl hHeld ?_
          (try simp only [nz])
          refine on1 24 rfl fun KK hK => ?_
          go_simp
          refine hK.out _ _ (HMK1.out _ HKX1.out) fun hHeld => ?_
          clear hK KK
          (try simp only [nz])
          refine on1 25 rfl fun KK hK => ?_
          go_simp
          refine hK.out _ _ (HMK1.out _ HKX1.out) fun hHeld => ?_
          clear hK KK
          (try simp only [nz])
          refine on1 26 rfl fun KK hK => ?_
          go_simp
          refine hK.out _ _ (HMK1.out _ HKX1.out) fun hHeld => ?_
          clear hK KK
          (try simp only [nz])
          refine wpAnyH_done (by kernel_rfl) ?_ _
          refine NoPanic.normal ?_
          clear hHeld HMK1
          have e : Hid (R = false) := show R = _ by rw [HD.out]; simp
          have HE : Hid (KF W wc2) := HK9.out.trans HKX1.out
          clear HKX1 HK9 HZ9
          go_wp2_with fail
          go_ret
          exact ⟨by rw [e.out]; rfl, HE⟩
         case true =>
          refine on1 21 rfl fun KK hK => ?_
          go_simp
          refine hK.out _ _ (HMK1.out _ HKX1.out) fun hHeld => ?_
          clear hK KK
          (try simp only [nz])
          refine on1 22 rfl fun KK hK => ?_
          go_simp
          refine hK.out _ _ (HMK1.out _ HKX1.out) fun hHeld => ?_
          clear hK KK
          refine tk 23 rfl hHeld ?_
          (try simp only [nz])
          refine on1 24 rfl fun KK hK => ?_
          go_simp
          refine (HFI.out _ (HK9.out.trans HKX1.out)).mono ?_
          rintro e we ⟨rfl, hk⟩
          replace HKX1 := Lib.hid (HKX1.out.trans hk.out)
          clear hk HFI
          go_simp
          refine hK.out _ _ (HMK1.out _ HKX1.out) fun hHeld => ?_
          clear hK KK
          (try simp only [nz])
          refine on1 25 rfl fun KK hK => ?_
          go_simp
          refine hK.out _ _ (HMK1.out _ HKX1.out) fun hHeld => ?_
          clear hK KK
          (try simp only [nz])
          refine on1 26 rfl fun KK hK => ?_
          go_simp
          refine hK.out _ _ (HMK1.out _ HKX1.out) fun hHeld => ?_
          clear hK KK
          (try simp only [nz])
          refine wpAnyH_done (by kernel_rfl) ?_ _
          refine NoPanic.normal ?_
          clear hHeld HMK1
          have e : Hid (R = fb) := show R = _ by rw [HD.out]; simp
          have HE : Hid (KF W we) := HK9.out.trans HKX1.out
          clear HKX1 HK9 HZ9
          go_wp2_with fail
          go_ret
          exact ⟨by rw [e.out]; rfl, HE⟩
end Go.Proofs.YtededjfjbkcepaaGreat
