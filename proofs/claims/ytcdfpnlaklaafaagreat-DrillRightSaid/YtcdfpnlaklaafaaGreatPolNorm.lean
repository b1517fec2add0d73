/-
 A policy's normal form: the program's and the document's.
-/
import Derived.Test.YtcdfpnlaklaafaaGreatQryRows
import Derived.Test.YtcdfpnlaklaafaaGreatWhole
import Derived.Test.YtcdfpnlaklaafaaGreatRefSortM
import Derived.Test.YtcdfpnlaklaafaaGreatRefSortR
import Derived.Test.YtcdfpnlaklaafaaGreatKitTwo
set_option linter.unusedVariables false
set_option linter.unusedSimpArgs false
set_option linter.unnecessarySimpa false
namespace Go.Proofs.YtcdfpnlaklaafaaGreat
open Go.ChangeShapes Go.WideShapes Go.ChangeAt Go.RowKit Go.Deep
def normP (p : Pol) : Pol := (sortO stmLt (p.1.map normS), sortO rolLt p.2.1, sortO rolLt p.2.2.1, p.2.2.2)
/-- No row of a policy is long. -/
def FewP (p : Pol) : Prop := p.1.length ≤ 1000 ∧ p.2.1.length ≤ 1000 ∧ p.2.2.1.length ≤ 1000 ∧ p.2.2.2.length ≤ 1000 ∧ ∀ q ∈ p.2.2.2, q.2.2.2.length ≤ 1000
set_option maxRecDepth 100000
set_option maxHeartbeats 6400000
theorem rpnorm_spec {W : World} {v0 v1 v2 v3 : Value} {p : Pol} {P : Nat → Prop} (h : PolX W v0 v1 v2 v3 p P) (hp : ∀ k, W.heap.size ≤ k → P k) (hl : FewP p) :
  Calls Tryz.prog 35 #[.agg #[v0, v1, v2, v3]] W (PolTo W (normP p) P (fun _ => False)) := by
 obtain ⟨l0, l1, l2, l3⟩ := p
 obtain ⟨hl0, hl1, hl2, hl3, hlw⟩ := hl
 simp only at hl0 hl1 hl2 hl3 hlw
 obtain ⟨h0, h1, h2, h3⟩ := h
 simp only at h0 h1 h2 h3
 obtain ⟨lv, hlv, h3r, h3q⟩ := id h3
 obtain ⟨ao0, cp0, hv0, hle0, hr0⟩ := id h0.1.1
 obtain ⟨ao1, cp1, hv1, hz1⟩ := id h1.1.1
 obtain ⟨ao2, cp2, hv2, hz2⟩ := id h2.1.1
 obtain ⟨ao3, cp3, hv3, hle3, hr3⟩ := id h3r.1.1
 subst hv0 hv1 hv2 hv3
 clear hz1 hz2 hr0 hr3
 obtain ⟨n0, hn0⟩ : ∃ n, l0.length = n := ⟨_, rfl⟩
 obtain ⟨n1, hn1⟩ : ∃ n, l1.length = n := ⟨_, rfl⟩
 obtain ⟨n2, hn2⟩ : ∃ n, l2.length = n := ⟨_, rfl⟩
 obtain ⟨n3, hn3⟩ : ∃ n, l3.length = n := ⟨_, rfl⟩
 rw [hn0] at h0 hle0 hl0 ⊢
 rw [hn1] at h1 hl1 ⊢
 rw [hn2] at h2 hl2 ⊢
 rw [hn3] at hlv hl3
 rw [hlv] at h3 h3r hle3 ⊢
 have HN0 := Lib.hid hn0
 have HN1 := Lib.hid hn1
 have HN2 := Lib.hid hn2
 have HN3 := Lib.hid hn3
 have HLW := Lib.hid hlw
 have HPP := Lib.hid hp
 have ha := (MapKept.heap_alloc W (.cells #[.slice ao0 n0 cp0, .slice ao1 n1 cp1, .slice ao2 n2 cp2, .slice ao3 n3 cp3] 57)).1
 obtain ⟨WA, hWA⟩ : ∃ WA, W.alloc (.cells #[.slice ao0 n0 cp0, .slice ao1 n1 cp1, .slice ao2 n2 cp2, .slice ao3 n3 cp3] 57) = WA := ⟨_, rfl⟩
 have hkA : Keeps (fun _ => False) W WA := by rw [← hWA]; exact (Keeps.refl _ _).alloc _
 have hsz : WA.heap.size = W.heap.size + 1 := by rw [← hWA]; simp
 rw [hWA] at ha
 have ha2 := (MapKept.heap_alloc WA (.cells #[.slice none 0 0, .slice none 0 0, .slice none 0 0, .slice none 0 0] 57)).1
 obtain ⟨WB, hWB⟩ : ∃ WB, WA.alloc (.cells #[.slice none 0 0, .slice none 0 0, .slice none 0 0, .slice none 0 0] 57) = WB := ⟨_, rfl⟩
 have hkB : Keeps (fun _ => False) WA WB := by rw [← hWB]; exact (Keeps.refl _ _).alloc _
 have hsz2 : WB.heap.size = WA.heap.size + 1 := by rw [← hWB]; simp
 rw [hWB] at ha2
 have HS0 : Hid (WB.heap[W.heap.size]? = some (.cells #[.slice ao0 n0 cp0, .slice ao1 n1 cp1, .slice ao2 n2 cp2, .slice ao3 n3 cp3] 57)) := (hkB.block _ (lt_of_heap ha) (fun x => x)).trans ha
 have HX0 := Lib.hid ha2
 have HK0 := Lib.hid (hkA.trans hkB)
 have HN : Hid (W.heap.size < WA.heap.size ∧ WA.heap.size < WB.heap.size) := ⟨by omega, by omega⟩
 have HV0 : Hid (RdX stmE WB (.slice ao0 n0 cp0) l0 (fun k => k < W.heap.size)) := h0.into HK0.out (fun _ _ _ x => x) (fun q hq _ => hq)
 have HV1 : Hid (RdX rolE WB (.slice ao1 n1 cp1) l1 (fun k => k < W.heap.size)) := h1.into HK0.out (fun _ _ _ x => x) (fun q hq _ => hq)
 have HV2 : Hid (RdX rolE WB (.slice ao2 n2 cp2) l2 (fun k => k < W.heap.size)) := h2.into HK0.out (fun _ _ _ x => x) (fun q hq _ => hq)
 have HV3 : Hid (QRX WB (.slice ao3 n3 cp3) l3 (fun k => P k ∧ k < W.heap.size)) := h3.into HK0.out (fun _ _ _ x => x) (fun q hq hp => ⟨hp, hq⟩)
 have HLB : Hid (∀ i, (l0.take i).map normS = (l0.take i).map normS) := fun _ => rfl
 have hWBl : WA.heap.size < WB.heap.size := by omega
 clear ha ha2 hkA hkB hsz hsz2 h0 h1 h2 h3 h3r h3q hlv hn0 hn1 hn2 hn3 hlw hp
 obtain ⟨LB, hLB⟩ : ∃ q, WB.heap.size = q := ⟨_, rfl⟩
 rw [hLB] at HN hWBl
 have HLB2 := Lib.hid hLB
 clear hLB hWBl
 obtain ⟨Sc0, Sf0, Sc1, Sf1, Sc2, Sf2, Sc3, Sf3⟩ := cf4 HS0.out
 go_enter Tryz.func35, Tryz.ntmps35
 go_upto_region 1 with fail
 clear hWA hWB
 go_wp2_with fail
 go_loopg [3, 9] n0 (fun g ov t wx => ∃ i : Nat, i ≤ n0 ∧ g = n0 - i ∧ t = .int .i64 i ∧ Hid (Keeps (fun _ => False) WB wx ∧ OwnK stmE LB wx ov ((l0.take i).map normS)))
 case atStart => exact ⟨0, Nat.zero_le _, rfl, rfl, Keeps.refl _ _, ownK_nil stmE _ _⟩
 case round =>
  obtain ⟨i, hi, rfl, rfl, HI⟩ := hrel
  clear Sc0 Sf0 Sc1 Sf1 Sc2 Sf2 Sc3 Sf3
  by_cases hlt : i < n0
  ·have hiI : (i : Int) < (n0 : Int) := by omega
   have hwi : IntKind.i64.wrap ((i : Int) + 1) = (i : Int) + 1 := IntWalk.i64_in _ (by omega)
   have hicap : i < cp0 := by omega
   obtain ⟨y, hy⟩ : ∃ y, l0[i]? = some y := ⟨_, List.getElem?_eq_getElem (by rw [HN0.out]; exact hlt)⟩
   have hrd := (HV0.out.keeps HI.out.1 (fun _ _ _ x => x)).1.1
   obtain ⟨aoz, cpz, ez, hez, hrz⟩ := hrd
   obtain ⟨g, off, hao, hg, hcc⟩ := hrz (by rw [HN0.out]; omega)
   simp only [Value.slice.injEq] at ez
   obtain ⟨rfl, hzz, rfl⟩ := ez
   subst hao
   have hc := hcc i y hy
   have HNX : Hid ((l0.take (i + 1)).map normS = (l0.take i).map normS ++ [normS y]) := by
    show _ = _
    rw [List.take_add_one, hy, List.map_append]
    rfl
   have HLN : Hid (((l0.take i).map normS).length ≤ i) := by show _ ≤ _; rw [List.length_map, List.length_take]; omega
   have HNM : Hid (∀ W, Calls Tryz.prog 30 #[stmV y] W fun e W' => e = .returned (stmV (normS y)) ∧ Hid (Keeps (fun _ => False) W W')) := fun W => rnorm_spec y
   obtain ⟨nn, hnn⟩ : ∃ q, normS y = q := ⟨_, rfl⟩
   rw [hnn] at HNM HNX
   obtain ⟨⟨yh1, yh2⟩, yk, yo, ⟨ya1, ya2⟩, ⟨yb1, yb2⟩, yi⟩ := y
   obtain ⟨⟨nh1, nh2⟩, nk, no, ⟨na1, na2⟩, ⟨nb1, nb2⟩, ni⟩ := nn
   clear hnn hcc hrz hez hzz hy
   have c0 : wr.cell? ⟨g, off + i * 9, none⟩ = some (.int .i64 yk) := hc 0 _ rfl
   have c1 : wr.cell? ⟨g, off + i * 9 + 1, none⟩ = some (.string ⟨yh1.toArray⟩) := hc 1 _ rfl
   have c2 : wr.cell? ⟨g, off + i * 9 + 2, none⟩ = some (.string ⟨yh2.toArray⟩) := hc 2 _ rfl
   have c3 : wr.cell? ⟨g, off + i * 9 + 3, none⟩ = some (.string ⟨yo.toArray⟩) := hc 3 _ rfl
   have c4 : wr.cell? ⟨g, off + i * 9 + 4, none⟩ = some (.string ⟨ya1.toArray⟩) := hc 4 _ rfl
   have c5 : wr.cell? ⟨g, off + i * 9 + 5, none⟩ = some (.string ⟨ya2.toArray⟩) := hc 5 _ rfl
   have c6 : wr.cell? ⟨g, off + i * 9 + 6, none⟩ = some (.string ⟨yb1.toArray⟩) := hc 6 _ rfl
   have c7 : wr.cell? ⟨g, off + i * 9 + 7, none⟩ = some (.string ⟨yb2.toArray⟩) := hc 7 _ rfl
   have c8 : wr.cell? ⟨g, off + i * 9 + 8, none⟩ = some (.string ⟨yi.toArray⟩) := hc 8 _ rfl
   clear hc
   unfold stmV at HNM
   simp only at HNM
   have hal := (MapKept.heap_alloc wr (.cells #[.int .i64 yk, .string ⟨yh1.toArray⟩, .string ⟨yh2.toArray⟩, .string ⟨yo.toArray⟩, .string ⟨ya1.toArray⟩, .string ⟨ya2.toArray⟩, .string ⟨yb1.toArray⟩, .string ⟨yb2.toArray⟩, .string ⟨yi.toArray⟩] 44)).1
   obtain ⟨w1, hw1⟩ : ∃ w1, wr.alloc (.cells #[.int .i64 yk, .string ⟨yh1.toArray⟩, .string ⟨yh2.toArray⟩, .string ⟨yo.toArray⟩, .string ⟨ya1.toArray⟩, .string ⟨ya2.toArray⟩, .string ⟨yb1.toArray⟩, .string ⟨yb2.toArray⟩, .string ⟨yi.toArray⟩] 44) = w1 := ⟨_, rfl⟩
   have hka : Keeps (fun _ => False) wr w1 := by rw [← hw1]; exact (Keeps.refl _ _).alloc _
   rw [hw1] at hal
   obtain ⟨b, hb⟩ : ∃ b, wr.heap.size = b := ⟨_, rfl⟩
   rw [hb] at hal
   have HK1 : Hid (Keeps (fun _ => False) WB w1 ∧ OwnK stmE LB w1 u3 ((l0.take i).map normS)) := ⟨HI.out.1.trans hka, HI.out.2.keeps hka (fun _ _ x => x)⟩
   have c := fun i => cell_of_heap hal i
   have p0 := c 0
   have p1 := c 1
   have p2 := c 2
   have p3 := c 3
   have p4 := c 4
   have p5 := c 5
   have p6 := c 6
   have p7 := c 7
   have p8 := c 8
   simp only [List.getElem?_toArray, List.getElem?_cons_zero, List.getElem?_cons_succ] at p0 p1 p2 p3 p4 p5 p6 p7 p8
   clear hal hka c HI
   go_upto_region 5 with fail
   clear hw1 hb c0 c1 c2 c3 c4 c5 c6 c7 c8
   go_wp2_with fail
   refine (HNM.out _).mono ?_
   rintro e w2 ⟨rfl, k2⟩
   have HK2 : Hid (Keeps (fun _ => False) WB w2 ∧ OwnK stmE LB w2 u3 ((l0.take i).map normS)) := ⟨HK1.out.1.trans k2.out, HK1.out.2.keeps k2.out (fun _ _ x => x)⟩
   have hlb : LB ≤ w2.heap.size := by have := HK2.out.1.size; have := HLB2.out; omega
   clear HNM k2 HK1 p0 p1 p2 p3 p4 p5 p6 p7 p8
   go_wp2_with (at_builtin; refine app_k (E := stmE) rfl _ _ rfl LB _ ((l0.take i).map normS) rfl (HK2.out.2.keeps ((Keeps.refl (fun _ => False) _).alloc _) (fun _ _ x => x)) _ [((nh1, nh2), nk, no, (na1, na2), (nb1, nb2), ni)] rfl (one_srcK stmE w2 ((nh1, nh2), nk, no, (na1, na2), (nb1, nb2), ni) #[.int .i64 nk, .string ⟨nh1.toArray⟩, .string ⟨nh2.toArray⟩, .string ⟨no.toArray⟩, .string ⟨na1.toArray⟩, .string ⟨na2.toArray⟩, .string ⟨nb1.toArray⟩, .string ⟨nb2.toArray⟩, .string ⟨ni.toArray⟩] rfl) (by have := HLN.out; simp at this; simp; omega) (by simp; omega) ?_)
   intro v3' w3 ho3 hk3
   have HN2' : Hid (Keeps (fun _ => False) WB w3 ∧ OwnK stmE LB w3 v3' ((l0.take (i + 1)).map normS)) := ⟨(HK2.out.1.trans ((Keeps.refl (fun _ => False) w2).alloc _)).trans_new hk3 (fun q hq e => by have := own_block HK2.out.2 q e; have := HLB2.out; omega), by rw [HNX.out]; first | exact ho3 | (rw [List.map_take]; exact ho3)⟩
   clear ho3 hk3 HK2 hlb
   go_wp2_with fail
   go_roundg (n0 - (i + 1))
   case measure => omega
   case rel => exact ⟨i + 1, by omega, rfl, by go_num, HN2'⟩
  ·obtain rfl : n0 = i := by omega
   have hiI : ¬ (n0 : Int) < (n0 : Int) := by omega
   have HLS : Hid (RdX stmE wr u3 (l0.map normS) (fun k => WA.heap.size < k)) := by
    have q := HI.out.2
    rw [List.take_of_length_le (by rw [HN0.out]; exact Nat.le_refl _)] at q
    exact q.rdX (fun k hk _ => by have := HN.out; omega)
   obtain ⟨ls, hls⟩ : ∃ q, l0.map normS = q := ⟨_, rfl⟩
   have hlsn : ls.length ≤ 1000 := by rw [← hls, List.length_map]; have := HN0.out; omega
   rw [hls] at HLS
   have HLSE := Lib.hid hls
   obtain ⟨ao4, cp4, hv4, hz4⟩ := id HLS.out.1.1
   subst hv4
   have HS1 := Lib.hid ((HI.out.1.block _ (lt_of_heap HS0.out) (fun x => x)).trans HS0.out)
   have HX1 := Lib.hid ((HI.out.1.block _ (lt_of_heap HX0.out) (fun x => x)).trans HX0.out)
   have HK1 := Lib.hid (HK0.out.trans HI.out.1)
   have HR1 : Hid (RdX rolE wr (.slice ao1 n1 cp1) l1 (fun k => k < W.heap.size)) := HV1.out.keeps HI.out.1 (fun _ _ _ x => x)
   have HR2 : Hid (RdX rolE wr (.slice ao2 n2 cp2) l2 (fun k => k < W.heap.size)) := HV2.out.keeps HI.out.1 (fun _ _ _ x => x)
   have HR3 : Hid (QRX wr (.slice ao3 n3 cp3) l3 (fun k => P k ∧ k < W.heap.size)) := HV3.out.keeps HI.out.1 (fun _ _ _ x => x)
   clear hz4 hls HI HS0 HX0 HK0 HV0 HV1 HV2 HV3 HLB2 HN0
   have HC1 : Hid (∀ W, SrcK stmE W (.slice ao4 ls.length cp4) ls → Calls Tryz.prog 43 #[.slice ao4 ls.length cp4] W fun e W' => ∃ v', e = .returned v' ∧ Hid (Keeps (fun _ => False) W W' ∧ SrcK stmE W' v' (sortO stmLt ls) ∧ NewAt W W' v')) := fun W h => (rsortm_spec (rdk_m.1 h.1) hlsn).mono fun _ _ ⟨v', q1, q2⟩ => ⟨v', q1, q2.out.1, q2.out.2.src, fun k hk => ⟨own_block q2.out.2 k hk, own_lt q2.out.2 k hk⟩⟩
   have HC2 : Hid (∀ W, SrcK rolE W (.slice ao1 n1 cp1) l1 → Calls Tryz.prog 44 #[.slice ao1 n1 cp1] W fun e W' => ∃ v', e = .returned v' ∧ Hid (Keeps (fun _ => False) W W' ∧ SrcK rolE W' v' (sortO rolLt l1) ∧ NewAt W W' v')) := fun W h => (rsortr_spec (rdk_r.1 h.1) (by have := HN1.out; omega)).mono fun _ _ ⟨v', q1, q2⟩ => ⟨v', q1, q2.out.1, q2.out.2.src, fun k hk => ⟨own_block q2.out.2 k hk, own_lt q2.out.2 k hk⟩⟩
   have HC3 : Hid (∀ W, SrcK rolE W (.slice ao2 n2 cp2) l2 → Calls Tryz.prog 44 #[.slice ao2 n2 cp2] W fun e W' => ∃ v', e = .returned v' ∧ Hid (Keeps (fun _ => False) W W' ∧ SrcK rolE W' v' (sortO rolLt l2) ∧ NewAt W W' v')) := fun W h => (rsortr_spec (rdk_r.1 h.1) (by have := HN2.out; omega)).mono fun _ _ ⟨v', q1, q2⟩ => ⟨v', q1, q2.out.1, q2.out.2.src, fun k hk => ⟨own_block q2.out.2 k hk, own_lt q2.out.2 k hk⟩⟩
   clear HLB
   go_upto_region 7 with fail
   have HMK1 : Hid (∀ w' : World, w'.heap[W.heap.size]? = some (.cells #[.slice ao0 n0 cp0, .slice ao1 n1 cp1, .slice ao2 n2 cp2, .slice ao3 n3 cp3] 57) → w'.cell? ⟨W.heap.size, 0, none⟩ = some (.slice ao0 n0 cp0) ∧ w'.cell? ⟨W.heap.size, 1, none⟩ = some (.slice ao1 n1 cp1) ∧ w'.cell? ⟨W.heap.size, 2, none⟩ = some (.slice ao2 n2 cp2) ∧ w'.cell? ⟨W.heap.size, 3, none⟩ = some (.slice ao3 n3 cp3) ∧ Hid (w'.heap[W.heap.size]? = some (.cells #[.slice ao0 n0 cp0, .slice ao1 n1 cp1, .slice ao2 n2 cp2, .slice ao3 n3 cp3] 57))) := fun w' h0 => ⟨(by rw [cell_of_heap h0]; rfl), (by rw [cell_of_heap h0]; rfl), (by rw [cell_of_heap h0]; rfl), (by rw [cell_of_heap h0]; rfl), Lib.hid h0⟩
   have hkd : Keeps (fun _ => False) wr wr.drew := (Keeps.refl _ _).drew
   have HS2 := Lib.hid (((hkd).block _ (lt_of_heap HS1.out) (fun x => x)).trans HS1.out)
   have HX3 := Lib.hid (((hkd).block _ (lt_of_heap HX1.out) (fun x => x)).trans HX1.out)
   have HE4 := Lib.hid (RdX.keeps HLS.out (hkd) (fun _ _ _ x => x))
   have HE5 := Lib.hid (RdX.keeps HR1.out (hkd) (fun _ _ _ x => x))
   have HE6 := Lib.hid (RdX.keeps HR2.out (hkd) (fun _ _ _ x => x))
   have HE7 := Lib.hid (QRX.keeps HR3.out (hkd) (fun _ _ _ x => x))
   have HK8 := Lib.hid (HK1.out.drew)
   have hS0 := HMK1.out wr.drew HS2.out
   clear hkd HS1 HX1 HLS HR1 HR2 HR3 HK1
   refine wp_region_noPanic ?_
   refine wp_region_held_drew (S := (fun w' => w'.cell? ⟨W.heap.size, 0, none⟩ = some (.slice ao0 n0 cp0) ∧ w'.cell? ⟨W.heap.size, 1, none⟩ = some (.slice ao1 n1 cp1) ∧ w'.cell? ⟨W.heap.size, 2, none⟩ = some (.slice ao2 n2 cp2) ∧ w'.cell? ⟨W.heap.size, 3, none⟩ = some (.slice ao3 n3 cp3) ∧ Hid (w'.heap[W.heap.size]? = some (.cells #[.slice ao0 n0 cp0, .slice ao1 n1 cp1, .slice ao2 n2 cp2, .slice ao3 n3 cp3] 57)))) (by kernel_rfl) hS0 (fun hHeld => ?_)
   clear hS0
   generalize wr.drew = w9 at *
   refine wpAnyH_take_at (i := 0) (v := ?v0_10) rfl (by kernel_rfl) (by kernel_rfl) (by kernel_rfl) (fun _ _ _ h => h) (Or.inl ⟨by rfl, ?y0_10⟩) hHeld ?r0_10
   case y0_10 => (intro w hSw; (try dsimp only at hSw); go_simp; first | done | with_reducible rfl)
   (try simp only [Act.put, nm1, nm2, nm3])
   refine wpAnyH_take_at (i := 2) (v := ?v2_11) rfl (by kernel_rfl) (by kernel_rfl) (by kernel_rfl) (fun _ _ _ h => h) (Or.inl ⟨by rfl, ?y2_11⟩) hHeld ?r2_11
   case y2_11 => (intro w hSw; (try dsimp only at hSw); go_simp; first | done | with_reducible rfl)
   (try simp only [Act.put, nm1, nm2, nm3])
   refine wpAnyH_take_at (i := 5) (v := ?v5_12) rfl (by kernel_rfl) (by kernel_rfl) (by kernel_rfl) (fun _ _ _ h => h) (Or.inl ⟨by rfl, ?y5_12⟩) hHeld ?r5_12
   case y5_12 => (intro w hSw; (try dsimp only at hSw); go_simp; first | done | with_reducible rfl)
   (try simp only [Act.put, nm1, nm2, nm3])
   refine wpAnyH_take_at (i := 8) (v := ?v8_13) rfl (by kernel_rfl) (by kernel_rfl) (by kernel_rfl) (fun _ _ _ h => h) (Or.inl ⟨by rfl, ?y8_13⟩) hHeld ?r8_13
   case y8_13 => (intro w hSw; (try dsimp only at hSw); go_simp; first | done | with_reducible rfl)
   (try simp only [Act.put, nm1, nm2, nm3])
   refine wpAnyH_take_at (i := 3) (v := ?v3_14) rfl (by kernel_rfl) (by kernel_rfl) (by kernel_rfl) (fun _ _ _ h => h) (Or.inl ⟨by rfl, ?y3_14⟩) hHeld ?r3_14
   case y3_14 => (intro w hSw; (try dsimp only at hSw); go_simp; first | done | with_reducible rfl)
   (try simp only [Act.put, nm1, nm2, nm3])
   refine wpAnyH_take_at (i := 6) (v := ?v6_15) rfl (by kernel_rfl) (by kernel_rfl) (by kernel_rfl) (fun _ _ _ h => h) (Or.inl ⟨by rfl, ?y6_15⟩) hHeld ?r6_15
   case y6_15 => (intro w hSw; (try dsimp only at hSw); go_simp; first | done | with_reducible rfl)
   (try simp only [Act.put, nm1, nm2, nm3])
   refine wpAnyH_take_at (i := 9) (v := ?v9_16) rfl (by kernel_rfl) (by kernel_rfl) (by kernel_rfl) (fun _ _ _ h => h) (Or.inl ⟨by rfl, ?y9_16⟩) hHeld ?r9_16
   case y9_16 => (intro w hSw; (try dsimp only at hSw); go_simp; first | done | with_reducible rfl)
   (try simp only [Act.put, nm1, nm2, nm3])
   refine wpAnyH_one (i := 1) (by kernel_rfl) rfl (fun KK hK => ?_)
   go_simp
   refine (HC1.out _ HE4.out.1).mono ?_
   rintro e w17 ⟨uv, rfl, hk⟩
   obtain ⟨uo, uc, hv, hzz⟩ := id hk.out.2.1.1
   clear hzz
   subst hv
   have HUu : Hid (RdX stmE w17 (.slice uo (sortO stmLt ls).length uc) (sortO stmLt ls) (fun k => WA.heap.size < k)) := hk.out.2.2.rdX hk.out.2.1 (fun k q1 q2 => by have := lt_of_heap HX3.out; show _ < _; omega)
   have HS18 := Lib.hid (((hk.out.1).block _ (lt_of_heap HS2.out) (fun x => x)).trans HS2.out)
   have HX19 := Lib.hid (((hk.out.1).block _ (lt_of_heap HX3.out) (fun x => x)).trans HX3.out)
   have HE20 := Lib.hid (RdX.keeps HE4.out (hk.out.1) (fun _ _ _ x => x))
   have HE21 := Lib.hid (RdX.keeps HE5.out (hk.out.1) (fun _ _ _ x => x))
   have HE22 := Lib.hid (RdX.keeps HE6.out (hk.out.1) (fun _ _ _ x => x))
   have HE23 := Lib.hid (QRX.keeps HE7.out (hk.out.1) (fun _ _ _ x => x))
   have HK24 := Lib.hid (HK8.out.trans hk.out.1)
   clear hk HS2 HX3 HE4 HE5 HE6 HE7 HK8
   go_simp
   refine hK.out _ _ ?s_25 (fun hHeld => ?_)
   case s_25 => exact HMK1.out _ HS18.out
   clear hK KK
   (try simp only [Act.put, nm1, nm2, nm3])
   refine wpAnyH_one (i := 4) (by kernel_rfl) rfl (fun KK hK => ?_)
   go_simp
   refine (HC2.out _ HE21.out.1).mono ?_
   rintro e w26 ⟨fv, rfl, hk⟩
   obtain ⟨fo, fc, hv, hzz⟩ := id hk.out.2.1.1
   clear hzz
   subst hv
   have HUf : Hid (RdX rolE w26 (.slice fo (sortO rolLt l1).length fc) (sortO rolLt l1) (fun k => WA.heap.size < k)) := hk.out.2.2.rdX hk.out.2.1 (fun k q1 q2 => by have := lt_of_heap HX19.out; show _ < _; omega)
   have HS27 := Lib.hid (((hk.out.1).block _ (lt_of_heap HS18.out) (fun x => x)).trans HS18.out)
   have HX28 := Lib.hid (((hk.out.1).block _ (lt_of_heap HX19.out) (fun x => x)).trans HX19.out)
   have HE29 := Lib.hid (RdX.keeps HE20.out (hk.out.1) (fun _ _ _ x => x))
   have HE30 := Lib.hid (RdX.keeps HE21.out (hk.out.1) (fun _ _ _ x => x))
   have HE31 := Lib.hid (RdX.keeps HE22.out (hk.out.1) (fun _ _ _ x => x))
   have HE32 := Lib.hid (QRX.keeps HE23.out (hk.out.1) (fun _ _ _ x => x))
   have HE33 := Lib.hid (RdX.keeps HUu.out (hk.out.1) (fun _ _ _ x => x))
   have HK34 := Lib.hid (HK24.out.trans hk.out.1)
   clear hk HS18 HX19 HE20 HE21 HE22 HE23 HUu HK24
   go_simp
   refine hK.out _ _ ?s_35 (fun hHeld => ?_)
   case s_35 => exact HMK1.out _ HS27.out
   clear hK KK
   (try simp only [Act.put, nm1, nm2, nm3])
   refine wpAnyH_one (i := 7) (by kernel_rfl) rfl (fun KK hK => ?_)
   go_simp
   refine (HC3.out _ HE31.out.1).mono ?_
   rintro e w36 ⟨mv, rfl, hk⟩
   obtain ⟨mo, mc, hv, hzz⟩ := id hk.out.2.1.1
   clear hzz
   subst hv
   have HUm : Hid (RdX rolE w36 (.slice mo (sortO rolLt l2).length mc) (sortO rolLt l2) (fun k => WA.heap.size < k)) := hk.out.2.2.rdX hk.out.2.1 (fun k q1 q2 => by have := lt_of_heap HX28.out; show _ < _; omega)
   have HS37 := Lib.hid (((hk.out.1).block _ (lt_of_heap HS27.out) (fun x => x)).trans HS27.out)
   have HX38 := Lib.hid (((hk.out.1).block _ (lt_of_heap HX28.out) (fun x => x)).trans HX28.out)
   have HE39 := Lib.hid (RdX.keeps HE29.out (hk.out.1) (fun _ _ _ x => x))
   have HE40 := Lib.hid (RdX.keeps HE30.out (hk.out.1) (fun _ _ _ x => x))
   have HE41 := Lib.hid (RdX.keeps HE31.out (hk.out.1) (fun _ _ _ x => x))
   have HE42 := Lib.hid (QRX.keeps HE32.out (hk.out.1) (fun _ _ _ x => x))
   have HE43 := Lib.hid (RdX.keeps HE33.out (hk.out.1) (fun _ _ _ x => x))
   have HE44 := Lib.hid (RdX.keeps HUf.out (hk.out.1) (fun _ _ _ x => x))
   have HK45 := Lib.hid (HK34.out.trans hk.out.1)
   clear hk HS27 HX28 HE29 HE30 HE31 HE32 HE33 HUf HK34
   go_simp
   refine hK.out _ _ ?s_46 (fun hHeld => ?_)
   case s_46 => exact HMK1.out _ HS37.out
   clear hK KK
   (try simp only [Act.put, nm1, nm2, nm3])
   refine wpAnyH_take_at (i := 10) (v := ?v10_47) rfl (by kernel_rfl) (by kernel_rfl) (by kernel_rfl) (fun _ _ _ h => h) (Or.inl ⟨by rfl, ?y10_47⟩) hHeld ?r10_47
   case y10_47 => (intro w hSw; (try dsimp only at hSw); go_simp; first | done | with_reducible rfl)
   (try simp only [Act.put, nm1, nm2, nm3])
   refine wpAnyH_one (i := 11) (by kernel_rfl) rfl (fun KK hK => ?_)
   obtain ⟨Xc0, Xf0, Xc1, Xf1, Xc2, Xf2, Xc3, Xf3⟩ := cf4 HX38.out
   have hs0 : (w36.setCell ⟨WA.heap.size, 0, none⟩ (.slice uo (sortO stmLt ls).length uc)).heap[WA.heap.size]? = some (.cells #[.slice uo (sortO stmLt ls).length uc, .slice none 0 0, .slice none 0 0, .slice none 0 0] 57) := heap_set (HX38.out) 0 (.slice uo (sortO stmLt ls).length uc)
   have hs1 : ((w36.setCell ⟨WA.heap.size, 0, none⟩ (.slice uo (sortO stmLt ls).length uc)).setCell ⟨WA.heap.size, 1, none⟩ (.slice fo (sortO rolLt l1).length fc)).heap[WA.heap.size]? = some (.cells #[.slice uo (sortO stmLt ls).length uc, .slice fo (sortO rolLt l1).length fc, .slice none 0 0, .slice none 0 0] 57) := heap_set (hs0) 1 (.slice fo (sortO rolLt l1).length fc)
   have hs2 : (((w36.setCell ⟨WA.heap.size, 0, none⟩ (.slice uo (sortO stmLt ls).length uc)).setCell ⟨WA.heap.size, 1, none⟩ (.slice fo (sortO rolLt l1).length fc)).setCell ⟨WA.heap.size, 2, none⟩ (.slice mo (sortO rolLt l2).length mc)).heap[WA.heap.size]? = some (.cells #[.slice uo (sortO stmLt ls).length uc, .slice fo (sortO rolLt l1).length fc, .slice mo (sortO rolLt l2).length mc, .slice none 0 0] 57) := heap_set (hs1) 2 (.slice mo (sortO rolLt l2).length mc)
   have hs3 : ((((w36.setCell ⟨WA.heap.size, 0, none⟩ (.slice uo (sortO stmLt ls).length uc)).setCell ⟨WA.heap.size, 1, none⟩ (.slice fo (sortO rolLt l1).length fc)).setCell ⟨WA.heap.size, 2, none⟩ (.slice mo (sortO rolLt l2).length mc)).setCell ⟨WA.heap.size, 3, none⟩ (.slice ao3 n3 cp3)).heap[WA.heap.size]? = some (.cells #[.slice uo (sortO stmLt ls).length uc, .slice fo (sortO rolLt l1).length fc, .slice mo (sortO rolLt l2).length mc, .slice ao3 n3 cp3] 57) := heap_set (hs2) 3 (.slice ao3 n3 cp3)
   have hkE : Keeps (fun q => q = WA.heap.size) w36 ((((w36.setCell ⟨WA.heap.size, 0, none⟩ (.slice uo (sortO stmLt ls).length uc)).setCell ⟨WA.heap.size, 1, none⟩ (.slice fo (sortO rolLt l1).length fc)).setCell ⟨WA.heap.size, 2, none⟩ (.slice mo (sortO rolLt l2).length mc)).setCell ⟨WA.heap.size, 3, none⟩ (.slice ao3 n3 cp3)) := (Keeps.setCell (S := fun q => q = WA.heap.size) (Keeps.setCell (S := fun q => q = WA.heap.size) (Keeps.setCell (S := fun q => q = WA.heap.size) (Keeps.setCell (S := fun q => q = WA.heap.size) (Keeps.refl _ _) (p := ⟨WA.heap.size, 0, none⟩) (fun _ => rfl) _) (p := ⟨WA.heap.size, 1, none⟩) (fun _ => rfl) _) (p := ⟨WA.heap.size, 2, none⟩) (fun _ => rfl) _) (p := ⟨WA.heap.size, 3, none⟩) (fun _ => rfl) _)
   have HX48 := Lib.hid hs3
   have HS49 := Lib.hid (((hkE).block _ (lt_of_heap HS37.out) (by have := HN.out; show ¬ _ = _; omega)).trans HS37.out)
   have HE50 := Lib.hid (RdX.keeps HE39.out (hkE) (fun q hq hp e => by have hp : WA.heap.size < q := hp; have e : q = _ := e; have := HN.out; omega))
   have HE51 := Lib.hid (RdX.keeps HE40.out (hkE) (fun q hq hp e => by have hp : q < W.heap.size := hp; have e : q = _ := e; have := HN.out; omega))
   have HE52 := Lib.hid (RdX.keeps HE41.out (hkE) (fun q hq hp e => by have hp : q < W.heap.size := hp; have e : q = _ := e; have := HN.out; omega))
   have HE53 := Lib.hid (QRX.keeps HE42.out (hkE) (fun q hq hp e => by have hp : P q ∧ q < W.heap.size := hp; have e : q = _ := e; have := HN.out; omega))
   have HE54 := Lib.hid (RdX.keeps HE43.out (hkE) (fun q hq hp e => by have hp : WA.heap.size < q := hp; have e : q = _ := e; have := HN.out; omega))
   have HE55 := Lib.hid (RdX.keeps HE44.out (hkE) (fun q hq hp e => by have hp : WA.heap.size < q := hp; have e : q = _ := e; have := HN.out; omega))
   have HE56 := Lib.hid (RdX.keeps HUm.out (hkE) (fun q hq hp e => by have hp : WA.heap.size < q := hp; have e : q = _ := e; have := HN.out; omega))
   have HK57 := Lib.hid (HK45.out.trans_new hkE (fun q hq e => by have := HN.out; omega))
   clear hkE hs0 hs1 hs2 hs3 HX38 HS37 HE39 HE40 HE41 HE42 HE43 HE44 HUm HK45
   go_simp
   refine hK.out _ _ ?s_58 (fun hHeld => ?_)
   case s_58 => exact HMK1.out _ HS49.out
   clear hK KK
   (try simp only [Act.put, nm1, nm2, nm3])
   refine wpAnyH_done (by kernel_rfl) ?_ _
   refine NoPanic.normal ?_
   clear hHeld HMK1
   clear Xc0 Xf0 Xc1 Xf1 Xc2 Xf2 Xc3 Xf3
   generalize ((((w36.setCell ⟨WA.heap.size, 0, none⟩ (.slice uo (sortO stmLt ls).length uc)).setCell ⟨WA.heap.size, 1, none⟩ (.slice fo (sortO rolLt l1).length fc)).setCell ⟨WA.heap.size, 2, none⟩ (.slice mo (sortO rolLt l2).length mc)).setCell ⟨WA.heap.size, 3, none⟩ (.slice ao3 n3 cp3)) = WE at *
   go_wp2_with fail
   obtain ⟨Xc0, Xf0, Xc1, Xf1, Xc2, Xf2, Xc3, Xf3⟩ := cf4 HX48.out
   refine bodyPost_ret (v := .agg #[.slice uo (sortO stmLt ls).length uc, .slice fo (sortO rolLt l1).length fc, .slice mo (sortO rolLt l2).length mc, .slice ao3 n3 cp3]) (by simp [results, Tryz.results35, go_sem, *]) rfl ?_
   exact ⟨_, _, _, _, rfl, HK57.out, by show RdX stmE _ _ (sortO stmLt (l0.map normS)) P; rw [HLSE.out]; exact HE54.out.into (Keeps.refl (fun _ => False) _) (fun _ _ _ x => x) (fun q hq hp => HPP.out q (by have hp : WA.heap.size < q := hp; have := HN.out; omega)), HE55.out.into (Keeps.refl (fun _ => False) _) (fun _ _ _ x => x) (fun q hq hp => HPP.out q (by have hp : WA.heap.size < q := hp; have := HN.out; omega)), HE56.out.into (Keeps.refl (fun _ => False) _) (fun _ _ _ x => x) (fun q hq hp => HPP.out q (by have hp : WA.heap.size < q := hp; have := HN.out; omega)), HE53.out.into (Keeps.refl (fun _ => False) _) (fun _ _ _ x => x) (fun q hq hp => hp.1)⟩
end Go.Proofs.YtcdfpnlaklaafaaGreat
