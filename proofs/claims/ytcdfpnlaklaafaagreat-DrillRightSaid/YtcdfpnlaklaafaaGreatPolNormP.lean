/-
 A policy's normal form: the program's.
-/
import Derived.Test.YtcdfpnlaklaafaaGreatPolNorm
set_option linter.unusedVariables false
set_option linter.unusedSimpArgs false
set_option linter.unnecessarySimpa false
namespace Go.Proofs.YtcdfpnlaklaafaaGreat
open Go.ChangeShapes Go.WideShapes Go.ChangeAt Go.RowKit Go.Deep
set_option maxRecDepth 100000
set_option maxHeartbeats 6400000
theorem pnorm_spec {W : World} {v0 v1 v2 v3 : Value} {p : Pol} {P : Nat → Prop} (h : PolX W v0 v1 v2 v3 p P) (hp : ∀ k, W.heap.size ≤ k → P k) (hl : FewP p) :
  Calls Tryz.prog 39 #[.agg #[v0, v1, v2, v3]] W (PolTo W (normP p) P (fun _ => False)) := by
 obtain ⟨l0, l1, l2, l3⟩ := p
 obtain ⟨hl0, hl1, hl2, hl3, hlw⟩ := hl
 simp only at hl0 hl1 hl2 hl3 hlw
 obtain ⟨h0, h1, h2, h3⟩ := h
 simp only at h0 h1 h2 h3
 obtain ⟨lv, hlv, h3r, h3q⟩ := id h3
 obtain ⟨ao0, cp0, hv0, hle0, hr0⟩ := id h0.1.1
 obtain ⟨ao1, cp1, hv1, hz1⟩ := id h1.1.1
 obtain ⟨ao2, cp2, hv2, hz2⟩ := id h2.1.1
 obtain ⟨ao3, cp3, hv3, hle3, hr3⟩ := id h3r.1.1
 subst hv0 hv1 hv2 hv3
 clear hz1 hz2 hr0 hr3
 obtain ⟨n0, hn0⟩ : ∃ n, l0.length = n := ⟨_, rfl⟩
 obtain ⟨n1, hn1⟩ : ∃ n, l1.length = n := ⟨_, rfl⟩
 obtain ⟨n2, hn2⟩ : ∃ n, l2.length = n := ⟨_, rfl⟩
 obtain ⟨n3, hn3⟩ : ∃ n, l3.length = n := ⟨_, rfl⟩
 rw [hn0] at h0 hle0 hl0 ⊢
 rw [hn1] at h1 hl1 ⊢
 rw [hn2] at h2 hl2 ⊢
 rw [hn3] at hlv hl3
 rw [hlv] at h3 h3r hle3 ⊢
 have HN0 := Lib.hid hn0
 have HN1 := Lib.hid hn1
 have HN2 := Lib.hid hn2
 have HN3 := Lib.hid hn3
 have HLW := Lib.hid hlw
 have HPP := Lib.hid hp
 have ha := (MapKept.heap_alloc W (.cells #[.slice ao0 n0 cp0, .slice ao1 n1 cp1, .slice ao2 n2 cp2, .slice ao3 n3 cp3] 57)).1
 obtain ⟨WA, hWA⟩ : ∃ WA, W.alloc (.cells #[.slice ao0 n0 cp0, .slice ao1 n1 cp1, .slice ao2 n2 cp2, .slice ao3 n3 cp3] 57) = WA := ⟨_, rfl⟩
 have hkA : Keeps (fun _ => False) W WA := by rw [← hWA]; exact (Keeps.refl _ _).alloc _
 have hsz : WA.heap.size = W.heap.size + 1 := by rw [← hWA]; simp
 rw [hWA] at ha
 have ha2 := (MapKept.heap_alloc WA (.cells #[.slice none 0 0, .slice none 0 0, .slice none 0 0, .slice none 0 0] 57)).1
 obtain ⟨WB, hWB⟩ : ∃ WB, WA.alloc (.cells #[.slice none 0 0, .slice none 0 0, .slice none 0 0, .slice none 0 0] 57) = WB := ⟨_, rfl⟩
 have hkB : Keeps (fun _ => False) WA WB := by rw [← hWB]; exact (Keeps.refl _ _).alloc _
 have hsz2 : WB.heap.size = WA.heap.size + 1 := by rw [← hWB]; simp
 rw [hWB] at ha2
 have HS0 : Hid (WB.heap[W.heap.size]? = some (.cells #[.slice ao0 n0 cp0, .slice ao1 n1 cp1, .slice ao2 n2 cp2, .slice ao3 n3 cp3] 57)) := (hkB.block _ (lt_of_heap ha) (fun x => x)).trans ha
 have HX0 := Lib.hid ha2
 have HK0 := Lib.hid (hkA.trans hkB)
 have HN : Hid (W.heap.size < WA.heap.size ∧ WA.heap.size < WB.heap.size) := ⟨by omega, by omega⟩
 have HV0 : Hid (RdX stmE WB (.slice ao0 n0 cp0) l0 (fun k => k < W.heap.size)) := h0.into HK0.out (fun _ _ _ x => x) (fun q hq _ => hq)
 have HV1 : Hid (RdX rolE WB (.slice ao1 n1 cp1) l1 (fun k => k < W.heap.size)) := h1.into HK0.out (fun _ _ _ x => x) (fun q hq _ => hq)
 have HV2 : Hid (RdX rolE WB (.slice ao2 n2 cp2) l2 (fun k => k < W.heap.size)) := h2.into HK0.out (fun _ _ _ x => x) (fun q hq _ => hq)
 have HV3 : Hid (QRX WB (.slice ao3 n3 cp3) l3 (fun k => P k ∧ k < W.heap.size)) := h3.into HK0.out (fun _ _ _ x => x) (fun q hq hp => ⟨hp, hq⟩)
 have HLB : Hid (∀ i, (l0.take i).map normS = (l0.take i).map normS) := fun _ => rfl
 have hWBl : WA.heap.size < WB.heap.size := by omega
 clear ha ha2 hkA hkB hsz hsz2 h0 h1 h2 h3 h3r h3q hlv hn0 hn1 hn2 hn3 hlw hp
 obtain ⟨LB, hLB⟩ : ∃ q, WB.heap.size = q := ⟨_, rfl⟩
 rw [hLB] at HN hWBl
 have HLB2 := Lib.hid hLB
 clear hLB hWBl
 obtain ⟨Sc0, Sf0, Sc1, Sf1, Sc2, Sf2, Sc3, Sf3⟩ := cf4 HS0.out
 go_enter Tryz.func39, Tryz.ntmps39
 go_upto_region 1 with fail
 clear hWA hWB
 go_wp2_with fail
 go_loopg [3, 12] n0 (fun g ov t wx => ∃ i : Nat, i ≤ n0 ∧ g = n0 - i ∧ t = .int .i64 i ∧ Hid (Keeps (fun _ => False) WB wx ∧ OwnK stmE LB wx ov ((l0.take i).map normS)))
 case atStart => exact ⟨0, Nat.zero_le _, rfl, rfl, Keeps.refl _ _, ownK_nil stmE _ _⟩
 case round =>
  obtain ⟨i, hi, rfl, rfl, HI⟩ := hrel
  clear Sc0 Sf0 Sc1 Sf1 Sc2 Sf2 Sc3 Sf3
  by_cases hlt : i < n0
  ·have hiI : (i : Int) < (n0 : Int) := by omega
   have hwi : IntKind.i64.wrap ((i : Int) + 1) = (i : Int) + 1 := IntWalk.i64_in _ (by omega)
   have hicap : i < cp0 := by omega
   obtain ⟨y, hy⟩ : ∃ y, l0[i]? = some y := ⟨_, List.getElem?_eq_getElem (by rw [HN0.out]; exact hlt)⟩
   have hrd := (HV0.out.keeps HI.out.1 (fun _ _ _ x => x)).1.1
   obtain ⟨aoz, cpz, ez, hez, hrz⟩ := hrd
   obtain ⟨g, off, hao, hg, hcc⟩ := hrz (by rw [HN0.out]; omega)
   simp only [Value.slice.injEq] at ez
   obtain ⟨rfl, hzz, rfl⟩ := ez
   subst hao
   have hc := hcc i y hy
   have HNX : Hid ((l0.take (i + 1)).map normS = (l0.take i).map normS ++ [normS y]) := by
    show _ = _
    rw [List.take_add_one, hy, List.map_append]
    rfl
   have HLN : Hid (((l0.take i).map normS).length ≤ i) := by show _ ≤ _; rw [List.length_map, List.length_take]; omega
   have HNM : Hid (∀ W, Calls Tryz.prog 31 #[stmV y] W fun e W' => e = .returned (stmV (normS y)) ∧ Hid (Keeps (fun _ => False) W W')) := fun W => snorm_spec y
   obtain ⟨nn, hnn⟩ : ∃ q, normS y = q := ⟨_, rfl⟩
   rw [hnn] at HNM HNX
   obtain ⟨⟨yh1, yh2⟩, yk, yo, ⟨ya1, ya2⟩, ⟨yb1, yb2⟩, yi⟩ := y
   obtain ⟨⟨nh1, nh2⟩, nk, no, ⟨na1, na2⟩, ⟨nb1, nb2⟩, ni⟩ := nn
   clear hnn hcc hrz hez hzz hy
   have c0 : wr.cell? ⟨g, off + i * 9, none⟩ = some (.int .i64 yk) := hc 0 _ rfl
   have c1 : wr.cell? ⟨g, off + i * 9 + 1, none⟩ = some (.string ⟨yh1.toArray⟩) := hc 1 _ rfl
   have c2 : wr.cell? ⟨g, off + i * 9 + 2, none⟩ = some (.string ⟨yh2.toArray⟩) := hc 2 _ rfl
   have c3 : wr.cell? ⟨g, off + i * 9 + 3, none⟩ = some (.string ⟨yo.toArray⟩) := hc 3 _ rfl
   have c4 : wr.cell? ⟨g, off + i * 9 + 4, none⟩ = some (.string ⟨ya1.toArray⟩) := hc 4 _ rfl
   have c5 : wr.cell? ⟨g, off + i * 9 + 5, none⟩ = some (.string ⟨ya2.toArray⟩) := hc 5 _ rfl
   have c6 : wr.cell? ⟨g, off + i * 9 + 6, none⟩ = some (.string ⟨yb1.toArray⟩) := hc 6 _ rfl
   have c7 : wr.cell? ⟨g, off + i * 9 + 7, none⟩ = some (.string ⟨yb2.toArray⟩) := hc 7 _ rfl
   have c8 : wr.cell? ⟨g, off + i * 9 + 8, none⟩ = some (.string ⟨yi.toArray⟩) := hc 8 _ rfl
   clear hc
   unfold stmV at HNM
   simp only at HNM
   have hal := (MapKept.heap_alloc wr (.cells #[.int .i64 yk, .string ⟨yh1.toArray⟩, .string ⟨yh2.toArray⟩, .string ⟨yo.toArray⟩, .string ⟨ya1.toArray⟩, .string ⟨ya2.toArray⟩, .string ⟨yb1.toArray⟩, .string ⟨yb2.toArray⟩, .string ⟨yi.toArray⟩] 44)).1
   obtain ⟨w1, hw1⟩ : ∃ w1, wr.alloc (.cells #[.int .i64 yk, .string ⟨yh1.toArray⟩, .string ⟨yh2.toArray⟩, .string ⟨yo.toArray⟩, .string ⟨ya1.toArray⟩, .string ⟨ya2.toArray⟩, .string ⟨yb1.toArray⟩, .string ⟨yb2.toArray⟩, .string ⟨yi.toArray⟩] 44) = w1 := ⟨_, rfl⟩
   have hka : Keeps (fun _ => False) wr w1 := by rw [← hw1]; exact (Keeps.refl _ _).alloc _
   rw [hw1] at hal
   obtain ⟨b, hb⟩ : ∃ b, wr.heap.size = b := ⟨_, rfl⟩
   rw [hb] at hal
   have HK1 : Hid (Keeps (fun _ => False) WB w1 ∧ OwnK stmE LB w1 u3 ((l0.take i).map normS)) := ⟨HI.out.1.trans hka, HI.out.2.keeps hka (fun _ _ x => x)⟩
   have c := fun i => cell_of_heap hal i
   have p0 := c 0
   have p1 := c 1
   have p2 := c 2
   have p3 := c 3
   have p4 := c 4
   have p5 := c 5
   have p6 := c 6
   have p7 := c 7
   have p8 := c 8
   simp only [List.getElem?_toArray, List.getElem?_cons_zero, List.getElem?_cons_succ] at p0 p1 p2 p3 p4 p5 p6 p7 p8
   clear hal hka c HI
   go_upto_region 5 with fail
   clear hw1 hb c0 c1 c2 c3 c4 c5 c6 c7 c8
   go_wp2_with fail
   refine (HNM.out _).mono ?_
   rintro e w2 ⟨rfl, k2⟩
   have HK2 : Hid (Keeps (fun _ => False) WB w2 ∧ OwnK stmE LB w2 u3 ((l0.take i).map normS)) := ⟨HK1.out.1.trans k2.out, HK1.out.2.keeps k2.out (fun _ _ x => x)⟩
   have hlb : LB ≤ w2.heap.size := by have := HK2.out.1.size; have := HLB2.out; omega
   clear HNM k2 HK1 p0 p1 p2 p3 p4 p5 p6 p7 p8
   go_wp2_with (at_builtin; refine app_k (E := stmE) rfl _ _ rfl LB _ ((l0.take i).map normS) rfl (HK2.out.2.keeps ((Keeps.refl (fun _ => False) _).alloc _) (fun _ _ x => x)) _ [((nh1, nh2), nk, no, (na1, na2), (nb1, nb2), ni)] rfl (one_srcK stmE w2 ((nh1, nh2), nk, no, (na1, na2), (nb1, nb2), ni) #[.int .i64 nk, .string ⟨nh1.toArray⟩, .string ⟨nh2.toArray⟩, .string ⟨no.toArray⟩, .string ⟨na1.toArray⟩, .string ⟨na2.toArray⟩, .string ⟨nb1.toArray⟩, .string ⟨nb2.toArray⟩, .string ⟨ni.toArray⟩] rfl) (by have := HLN.out; simp at this; simp; omega) (by simp; omega) ?_)
   intro v3' w3 ho3 hk3
   have HN2' : Hid (Keeps (fun _ => False) WB w3 ∧ OwnK stmE LB w3 v3' ((l0.take (i + 1)).map normS)) := ⟨(HK2.out.1.trans ((Keeps.refl (fun _ => False) w2).alloc _)).trans_new hk3 (fun q hq e => by have := own_block HK2.out.2 q e; have := HLB2.out; omega), by rw [HNX.out]; first | exact ho3 | (rw [List.map_take]; exact ho3)⟩
   clear ho3 hk3 HK2 hlb
   go_wp2_with fail
   go_roundg (n0 - (i + 1))
   case measure => omega
   case rel => exact ⟨i + 1, by omega, rfl, by go_num, HN2'⟩
  ·obtain rfl : n0 = i := by omega
   have hiI : ¬ (n0 : Int) < (n0 : Int) := by omega
   have HLS : Hid (RdX stmE wr u3 (l0.map normS) (fun k => WA.heap.size < k)) := by
    have q := HI.out.2
    rw [List.take_of_length_le (by rw [HN0.out]; exact Nat.le_refl _)] at q
    exact q.rdX (fun k hk _ => by have := HN.out; omega)
   obtain ⟨ls, hls⟩ : ∃ q, l0.map normS = q := ⟨_, rfl⟩
   have hlsn : ls.length ≤ 1000 := by rw [← hls, List.length_map]; have := HN0.out; omega
   rw [hls] at HLS
   have HLSE := Lib.hid hls
   obtain ⟨ao4, cp4, hv4, hz4⟩ := id HLS.out.1.1
   subst hv4
   have HS1 := Lib.hid ((HI.out.1.block _ (lt_of_heap HS0.out) (fun x => x)).trans HS0.out)
   have HX1 := Lib.hid ((HI.out.1.block _ (lt_of_heap HX0.out) (fun x => x)).trans HX0.out)
   have HK1 := Lib.hid (HK0.out.trans HI.out.1)
   have HR1 : Hid (RdX rolE wr (.slice ao1 n1 cp1) l1 (fun k => k < W.heap.size)) := HV1.out.keeps HI.out.1 (fun _ _ _ x => x)
   have HR2 : Hid (RdX rolE wr (.slice ao2 n2 cp2) l2 (fun k => k < W.heap.size)) := HV2.out.keeps HI.out.1 (fun _ _ _ x => x)
   have HR3 : Hid (QRX wr (.slice ao3 n3 cp3) l3 (fun k => P k ∧ k < W.heap.size)) := HV3.out.keeps HI.out.1 (fun _ _ _ x => x)
   clear hz4 hls HI HS0 HX0 HK0 HV0 HV1 HV2 HV3 HLB2 HN0
   have HC1 : Hid (∀ W, SrcK stmE W (.slice ao4 ls.length cp4) ls → Calls Tryz.prog 52 #[.slice ao4 ls.length cp4] W fun e W' => ∃ v', e = .returned v' ∧ Hid (Keeps (fun _ => False) W W' ∧ SrcK stmE W' v' (sortO stmLt ls) ∧ NewAt W W' v')) := fun W h => ssort_all h (by omega)
   have HC2 : Hid (∀ W, SrcK rolE W (.slice ao1 n1 cp1) l1 → Calls Tryz.prog 53 #[.slice ao1 n1 cp1] W fun e W' => ∃ v', e = .returned v' ∧ Hid (Keeps (fun _ => False) W W' ∧ SrcK rolE W' v' (sortO rolLt l1) ∧ NewAt W W' v')) := fun W h => rsort_all h (by have := HN1.out; omega)
   have HC3 : Hid (∀ W, SrcK rolE W (.slice ao2 n2 cp2) l2 → Calls Tryz.prog 53 #[.slice ao2 n2 cp2] W fun e W' => ∃ v', e = .returned v' ∧ Hid (Keeps (fun _ => False) W W' ∧ SrcK rolE W' v' (sortO rolLt l2) ∧ NewAt W W' v')) := fun W h => rsort_all h (by have := HN2.out; omega)
   clear HLB
   go_upto_region 7 with fail
   go_cut [6] (fun p wx => ∃ (YB : Nat) (uo fo mo : Option Addr) (uc fc mc : Nat), p = .pointer (some ⟨YB, 0, none⟩) ∧ Hid (Keeps (fun _ => False) W wx ∧ (W.heap.size < WA.heap.size ∧ WA.heap.size < YB) ∧ wx.heap[W.heap.size]? = some (.cells #[.slice ao0 n0 cp0, .slice ao1 n1 cp1, .slice ao2 n2 cp2, .slice ao3 n3 cp3] 57) ∧ wx.heap[WA.heap.size]? = some (.cells #[.slice none 0 0, .slice none 0 0, .slice none 0 0, .slice none 0 0] 57) ∧ wx.heap[YB]? = some (.cells #[.slice uo (sortO stmLt ls).length uc, .slice fo (sortO rolLt l1).length fc, .slice mo (sortO rolLt l2).length mc, .slice none 0 0] 57) ∧ QRX wx (.slice ao3 n3 cp3) l3 (fun k => P k ∧ k < W.heap.size) ∧ RdX stmE wx (.slice uo (sortO stmLt ls).length uc) (sortO stmLt ls) (fun k => WA.heap.size < k ∧ k ≠ YB) ∧ RdX rolE wx (.slice fo (sortO rolLt l1).length fc) (sortO rolLt l1) (fun k => WA.heap.size < k ∧ k ≠ YB) ∧ RdX rolE wx (.slice mo (sortO rolLt l2).length mc) (sortO rolLt l2) (fun k => WA.heap.size < k ∧ k ≠ YB)))
   case first =>
    have HMK59 : Hid (∀ w' : World, w'.heap[W.heap.size]? = some (.cells #[.slice ao0 n0 cp0, .slice ao1 n1 cp1, .slice ao2 n2 cp2, .slice ao3 n3 cp3] 57) → w'.cell? ⟨W.heap.size, 0, none⟩ = some (.slice ao0 n0 cp0) ∧ w'.cell? ⟨W.heap.size, 1, none⟩ = some (.slice ao1 n1 cp1) ∧ w'.cell? ⟨W.heap.size, 2, none⟩ = some (.slice ao2 n2 cp2) ∧ w'.cell? ⟨W.heap.size, 3, none⟩ = some (.slice ao3 n3 cp3) ∧ Hid (w'.heap[W.heap.size]? = some (.cells #[.slice ao0 n0 cp0, .slice ao1 n1 cp1, .slice ao2 n2 cp2, .slice ao3 n3 cp3] 57))) := fun w' h0 => ⟨(by rw [cell_of_heap h0]; rfl), (by rw [cell_of_heap h0]; rfl), (by rw [cell_of_heap h0]; rfl), (by rw [cell_of_heap h0]; rfl), Lib.hid h0⟩
    have hkd : Keeps (fun _ => False) wr wr.drew := (Keeps.refl _ _).drew
    have HS60 := Lib.hid (((hkd).block _ (lt_of_heap HS1.out) (fun x => x)).trans HS1.out)
    have HX61 := Lib.hid (((hkd).block _ (lt_of_heap HX1.out) (fun x => x)).trans HX1.out)
    have HE62 := Lib.hid (RdX.keeps HLS.out (hkd) (fun _ _ _ x => x))
    have HE63 := Lib.hid (RdX.keeps HR1.out (hkd) (fun _ _ _ x => x))
    have HE64 := Lib.hid (RdX.keeps HR2.out (hkd) (fun _ _ _ x => x))
    have HE65 := Lib.hid (QRX.keeps HR3.out (hkd) (fun _ _ _ x => x))
    have HK66 := Lib.hid (HK1.out.drew)
    have hS0 := HMK59.out wr.drew HS60.out
    clear hkd HS1 HX1 HLS HR1 HR2 HR3 HK1
    refine wp_region_noPanic ?_
    refine wp_region_held_drew (S := (fun w' => w'.cell? ⟨W.heap.size, 0, none⟩ = some (.slice ao0 n0 cp0) ∧ w'.cell? ⟨W.heap.size, 1, none⟩ = some (.slice ao1 n1 cp1) ∧ w'.cell? ⟨W.heap.size, 2, none⟩ = some (.slice ao2 n2 cp2) ∧ w'.cell? ⟨W.heap.size, 3, none⟩ = some (.slice ao3 n3 cp3) ∧ Hid (w'.heap[W.heap.size]? = some (.cells #[.slice ao0 n0 cp0, .slice ao1 n1 cp1, .slice ao2 n2 cp2, .slice ao3 n3 cp3] 57)))) (by kernel_rfl) hS0 (fun hHeld => ?_)
    clear hS0
    generalize wr.drew = w67 at *
    refine wpAnyH_take_at (i := 0) (v := ?v0_68) rfl (by kernel_rfl) (by kernel_rfl) (by kernel_rfl) (fun _ _ _ h => h) (Or.inl ⟨by rfl, ?y0_68⟩) hHeld ?r0_68
    case y0_68 => (intro w hSw; (try dsimp only at hSw); go_simp; first | done | with_reducible rfl)
    (try simp only [Act.put, nm1, nm2, nm3])
    refine wpAnyH_take_at (i := 2) (v := ?v2_69) rfl (by kernel_rfl) (by kernel_rfl) (by kernel_rfl) (fun _ _ _ h => h) (Or.inl ⟨by rfl, ?y2_69⟩) hHeld ?r2_69
    case y2_69 => (intro w hSw; (try dsimp only at hSw); go_simp; first | done | with_reducible rfl)
    (try simp only [Act.put, nm1, nm2, nm3])
    refine wpAnyH_take_at (i := 5) (v := ?v5_70) rfl (by kernel_rfl) (by kernel_rfl) (by kernel_rfl) (fun _ _ _ h => h) (Or.inl ⟨by rfl, ?y5_70⟩) hHeld ?r5_70
    case y5_70 => (intro w hSw; (try dsimp only at hSw); go_simp; first | done | with_reducible rfl)
    (try simp only [Act.put, nm1, nm2, nm3])
    refine wpAnyH_take_at (i := 3) (v := ?v3_71) rfl (by kernel_rfl) (by kernel_rfl) (by kernel_rfl) (fun _ _ _ h => h) (Or.inl ⟨by rfl, ?y3_71⟩) hHeld ?r3_71
    case y3_71 => (intro w hSw; (try dsimp only at hSw); go_simp; first | done | with_reducible rfl)
    (try simp only [Act.put, nm1, nm2, nm3])
    refine wpAnyH_take_at (i := 6) (v := ?v6_72) rfl (by kernel_rfl) (by kernel_rfl) (by kernel_rfl) (fun _ _ _ h => h) (Or.inl ⟨by rfl, ?y6_72⟩) hHeld ?r6_72
    case y6_72 => (intro w hSw; (try dsimp only at hSw); go_simp; first | done | with_reducible rfl)
    (try simp only [Act.put, nm1, nm2, nm3])
    refine wpAnyH_two (i := 1) (j := 9) (by kernel_rfl) rfl rfl (fun KK hK => ?p1_73) (fun KK hK => ?p9_73)
    case p1_73 =>
     go_simp
     refine (HC1.out _ HE62.out.1).mono ?_
     rintro e w74 ⟨uv, rfl, hk⟩
     obtain ⟨uo, uc, hv, hzz⟩ := id hk.out.2.1.1
     clear hzz
     subst hv
     have HUu : Hid (RdX stmE w74 (.slice uo (sortO stmLt ls).length uc) (sortO stmLt ls) (fun k => WA.heap.size < k)) := hk.out.2.2.rdX hk.out.2.1 (fun k q1 q2 => by have := lt_of_heap HX61.out; show _ < _; omega)
     have HS75 := Lib.hid (((hk.out.1).block _ (lt_of_heap HS60.out) (fun x => x)).trans HS60.out)
     have HX76 := Lib.hid (((hk.out.1).block _ (lt_of_heap HX61.out) (fun x => x)).trans HX61.out)
     have HE77 := Lib.hid (RdX.keeps HE62.out (hk.out.1) (fun _ _ _ x => x))
     have HE78 := Lib.hid (RdX.keeps HE63.out (hk.out.1) (fun _ _ _ x => x))
     have HE79 := Lib.hid (RdX.keeps HE64.out (hk.out.1) (fun _ _ _ x => x))
     have HE80 := Lib.hid (QRX.keeps HE65.out (hk.out.1) (fun _ _ _ x => x))
     have HK81 := Lib.hid (HK66.out.trans hk.out.1)
     clear hk HC1 HS60 HX61 HE62 HE63 HE64 HE65 HK66
     go_simp
     refine hK.out _ _ ?s_82 (fun hHeld => ?_)
     case s_82 => exact HMK59.out _ HS75.out
     clear hK KK
     (try simp only [Act.put, nm1, nm2, nm3])
     refine wpAnyH_two (i := 4) (j := 9) (by kernel_rfl) rfl rfl (fun KK hK => ?p4_83) (fun KK hK => ?p9_83)
     case p4_83 =>
      go_simp
      refine (HC2.out _ HE78.out.1).mono ?_
      rintro e w84 ⟨fv, rfl, hk⟩
      obtain ⟨fo, fc, hv, hzz⟩ := id hk.out.2.1.1
      clear hzz
      subst hv
      have HUf : Hid (RdX rolE w84 (.slice fo (sortO rolLt l1).length fc) (sortO rolLt l1) (fun k => WA.heap.size < k)) := hk.out.2.2.rdX hk.out.2.1 (fun k q1 q2 => by have := lt_of_heap HX76.out; show _ < _; omega)
      have HS85 := Lib.hid (((hk.out.1).block _ (lt_of_heap HS75.out) (fun x => x)).trans HS75.out)
      have HX86 := Lib.hid (((hk.out.1).block _ (lt_of_heap HX76.out) (fun x => x)).trans HX76.out)
      have HE87 := Lib.hid (RdX.keeps HE77.out (hk.out.1) (fun _ _ _ x => x))
      have HE88 := Lib.hid (RdX.keeps HE78.out (hk.out.1) (fun _ _ _ x => x))
      have HE89 := Lib.hid (RdX.keeps HE79.out (hk.out.1) (fun _ _ _ x => x))
      have HE90 := Lib.hid (QRX.keeps HE80.out (hk.out.1) (fun _ _ _ x => x))
      have HE91 := Lib.hid (RdX.keeps HUu.out (hk.out.1) (fun _ _ _ x => x))
      have HK92 := Lib.hid (HK81.out.trans hk.out.1)
      clear hk HC2 HS75 HX76 HE77 HE78 HE79 HE80 HUu HK81
      go_simp
      refine hK.out _ _ ?s_93 (fun hHeld => ?_)
      case s_93 => exact HMK59.out _ HS85.out
      clear hK KK
      (try simp only [Act.put, nm1, nm2, nm3])
      refine wpAnyH_two (i := 7) (j := 9) (by kernel_rfl) rfl rfl (fun KK hK => ?p7_94) (fun KK hK => ?p9_94)
      case p7_94 =>
       go_simp
       refine (HC3.out _ HE89.out.1).mono ?_
       rintro e w95 ⟨mv, rfl, hk⟩
       obtain ⟨mo, mc, hv, hzz⟩ := id hk.out.2.1.1
       clear hzz
       subst hv
       have HUm : Hid (RdX rolE w95 (.slice mo (sortO rolLt l2).length mc) (sortO rolLt l2) (fun k => WA.heap.size < k)) := hk.out.2.2.rdX hk.out.2.1 (fun k q1 q2 => by have := lt_of_heap HX86.out; show _ < _; omega)
       have HS96 := Lib.hid (((hk.out.1).block _ (lt_of_heap HS85.out) (fun x => x)).trans HS85.out)
       have HX97 := Lib.hid (((hk.out.1).block _ (lt_of_heap HX86.out) (fun x => x)).trans HX86.out)
       have HE98 := Lib.hid (RdX.keeps HE87.out (hk.out.1) (fun _ _ _ x => x))
       have HE99 := Lib.hid (RdX.keeps HE88.out (hk.out.1) (fun _ _ _ x => x))
       have HE100 := Lib.hid (RdX.keeps HE89.out (hk.out.1) (fun _ _ _ x => x))
       have HE101 := Lib.hid (QRX.keeps HE90.out (hk.out.1) (fun _ _ _ x => x))
       have HE102 := Lib.hid (RdX.keeps HE91.out (hk.out.1) (fun _ _ _ x => x))
       have HE103 := Lib.hid (RdX.keeps HUf.out (hk.out.1) (fun _ _ _ x => x))
       have HK104 := Lib.hid (HK92.out.trans hk.out.1)
       clear hk HC3 HS85 HX86 HE87 HE88 HE89 HE90 HE91 HUf HK92
       go_simp
       refine hK.out _ _ ?s_105 (fun hHeld => ?_)
       case s_105 => exact HMK59.out _ HS96.out
       clear hK KK
       (try simp only [Act.put, nm1, nm2, nm3])
       refine wpAnyH_take_at (i := 8) (v := ?v8_106) rfl (by kernel_rfl) (by kernel_rfl) (by kernel_rfl) (fun _ _ _ h => h) (Or.inl ⟨by rfl, ?y8_106⟩) hHeld ?r8_106
       case y8_106 => (intro w hSw; (try dsimp only at hSw); go_simp; first | done | with_reducible rfl)
       (try simp only [Act.put, nm1, nm2, nm3])
       refine wpAnyH_one (i := 9) (by kernel_rfl) rfl (fun KK hK => ?_)
       have hal := (MapKept.heap_alloc w95 (.cells #[.slice none 0 0, .slice none 0 0, .slice none 0 0, .slice none 0 0] 57)).1
       have hkE : Keeps (fun _ => False) w95 (w95.alloc (.cells #[.slice none 0 0, .slice none 0 0, .slice none 0 0, .slice none 0 0] 57)) := (Keeps.refl _ _).alloc _
       obtain ⟨YB, hYB⟩ : ∃ q, w95.heap.size = q := ⟨_, rfl⟩
       rw [hYB] at hal
       have HE108 : Hid (RdX stmE w95 (.slice ao4 ls.length cp4) ls (fun k => WA.heap.size < k ∧ k < YB)) := HE98.out.into (Keeps.refl (fun _ => False) _) (fun _ _ _ x => x) (fun q hq hp => by have hp : WA.heap.size < q := hp; have := hYB; show WA.heap.size < q ∧ q < YB; first | omega | (obtain ⟨hp1, hp2⟩ := hp; refine ⟨hp1, ?_⟩; omega) | (refine ⟨hp, ?_⟩; omega))
       clear HE98
       have HE109 : Hid (RdX rolE w95 (.slice ao1 n1 cp1) l1 (fun k => k < W.heap.size ∧ k < YB)) := HE99.out.into (Keeps.refl (fun _ => False) _) (fun _ _ _ x => x) (fun q hq hp => by have hp : q < W.heap.size := hp; have := hYB; show q < W.heap.size ∧ q < YB; first | omega | (obtain ⟨hp1, hp2⟩ := hp; refine ⟨hp1, ?_⟩; omega) | (refine ⟨hp, ?_⟩; omega))
       clear HE99
       have HE110 : Hid (RdX rolE w95 (.slice ao2 n2 cp2) l2 (fun k => k < W.heap.size ∧ k < YB)) := HE100.out.into (Keeps.refl (fun _ => False) _) (fun _ _ _ x => x) (fun q hq hp => by have hp : q < W.heap.size := hp; have := hYB; show q < W.heap.size ∧ q < YB; first | omega | (obtain ⟨hp1, hp2⟩ := hp; refine ⟨hp1, ?_⟩; omega) | (refine ⟨hp, ?_⟩; omega))
       clear HE100
       have HE111 : Hid (QRX w95 (.slice ao3 n3 cp3) l3 (fun k => P k ∧ k < W.heap.size ∧ k < YB)) := HE101.out.into (Keeps.refl (fun _ => False) _) (fun _ _ _ x => x) (fun q hq hp => by have hp : P q ∧ q < W.heap.size := hp; have := hYB; show P q ∧ q < W.heap.size ∧ q < YB; first | omega | (obtain ⟨hp1, hp2⟩ := hp; refine ⟨hp1, ?_⟩; omega) | (refine ⟨hp, ?_⟩; omega))
       clear HE101
       have HE112 : Hid (RdX stmE w95 (.slice uo (sortO stmLt ls).length uc) (sortO stmLt ls) (fun k => WA.heap.size < k ∧ k < YB)) := HE102.out.into (Keeps.refl (fun _ => False) _) (fun _ _ _ x => x) (fun q hq hp => by have hp : WA.heap.size < q := hp; have := hYB; show WA.heap.size < q ∧ q < YB; first | omega | (obtain ⟨hp1, hp2⟩ := hp; refine ⟨hp1, ?_⟩; omega) | (refine ⟨hp, ?_⟩; omega))
       clear HE102
       have HE113 : Hid (RdX rolE w95 (.slice fo (sortO rolLt l1).length fc) (sortO rolLt l1) (fun k => WA.heap.size < k ∧ k < YB)) := HE103.out.into (Keeps.refl (fun _ => False) _) (fun _ _ _ x => x) (fun q hq hp => by have hp : WA.heap.size < q := hp; have := hYB; show WA.heap.size < q ∧ q < YB; first | omega | (obtain ⟨hp1, hp2⟩ := hp; refine ⟨hp1, ?_⟩; omega) | (refine ⟨hp, ?_⟩; omega))
       clear HE103
       have HE114 : Hid (RdX rolE w95 (.slice mo (sortO rolLt l2).length mc) (sortO rolLt l2) (fun k => WA.heap.size < k ∧ k < YB)) := HUm.out.into (Keeps.refl (fun _ => False) _) (fun _ _ _ x => x) (fun q hq hp => by have hp : WA.heap.size < q := hp; have := hYB; show WA.heap.size < q ∧ q < YB; first | omega | (obtain ⟨hp1, hp2⟩ := hp; refine ⟨hp1, ?_⟩; omega) | (refine ⟨hp, ?_⟩; omega))
       clear HUm
       have HN107 : Hid ((W.heap.size < WA.heap.size ∧ WA.heap.size < LB) ∧ W.heap.size ≤ YB ∧ W.heap.size < YB ∧ WA.heap.size < YB) := ⟨HN.out, by
        have hz := HK104.out.size
        have l0 := lt_of_heap HS96.out
        have l1 := lt_of_heap HX97.out
        refine ⟨?_, ?_, ?_⟩ <;> omega⟩
       have HS115 := Lib.hid (((hkE).block _ (lt_of_heap HS96.out) (fun x => x)).trans HS96.out)
       have HX116 := Lib.hid (((hkE).block _ (lt_of_heap HX97.out) (fun x => x)).trans HX97.out)
       have HE117 := Lib.hid (RdX.keeps HE108.out (hkE) (fun _ _ _ x => x))
       have HE118 := Lib.hid (RdX.keeps HE109.out (hkE) (fun _ _ _ x => x))
       have HE119 := Lib.hid (RdX.keeps HE110.out (hkE) (fun _ _ _ x => x))
       have HE120 := Lib.hid (QRX.keeps HE111.out (hkE) (fun _ _ _ x => x))
       have HE121 := Lib.hid (RdX.keeps HE112.out (hkE) (fun _ _ _ x => x))
       have HE122 := Lib.hid (RdX.keeps HE113.out (hkE) (fun _ _ _ x => x))
       have HE123 := Lib.hid (RdX.keeps HE114.out (hkE) (fun _ _ _ x => x))
       have HK124 := Lib.hid (HK104.out.trans hkE)
       have HY125 := Lib.hid hal
       go_simp
       refine hK.out _ _ ?s_126 (fun hHeld => ?_)
       case s_126 => exact HMK59.out _ HS115.out
       clear hK KK
       (try simp only [Act.put, nm1, nm2, nm3])
       clear hkE hal HS96 HX97 HE108 HE109 HE110 HE111 HE112 HE113 HE114 HN HK104
       clear hYB
       generalize (w95.alloc (.cells #[.slice none 0 0, .slice none 0 0, .slice none 0 0, .slice none 0 0] 57)) = w127 at *
       refine wpAnyH_one (i := 10) (by kernel_rfl) rfl (fun KK hK => ?_)
       obtain ⟨Yc0, Yf0, Yc1, Yf1, Yc2, Yf2, Yc3, Yf3⟩ := cf4 HY125.out
       have hs0 : (w127.setCell ⟨YB, 0, none⟩ (.slice uo (sortO stmLt ls).length uc)).heap[YB]? = some (.cells #[.slice uo (sortO stmLt ls).length uc, .slice none 0 0, .slice none 0 0, .slice none 0 0] 57) := heap_set (HY125.out) 0 (.slice uo (sortO stmLt ls).length uc)
       have hs1 : ((w127.setCell ⟨YB, 0, none⟩ (.slice uo (sortO stmLt ls).length uc)).setCell ⟨YB, 1, none⟩ (.slice fo (sortO rolLt l1).length fc)).heap[YB]? = some (.cells #[.slice uo (sortO stmLt ls).length uc, .slice fo (sortO rolLt l1).length fc, .slice none 0 0, .slice none 0 0] 57) := heap_set (hs0) 1 (.slice fo (sortO rolLt l1).length fc)
       have hs2 : (((w127.setCell ⟨YB, 0, none⟩ (.slice uo (sortO stmLt ls).length uc)).setCell ⟨YB, 1, none⟩ (.slice fo (sortO rolLt l1).length fc)).setCell ⟨YB, 2, none⟩ (.slice mo (sortO rolLt l2).length mc)).heap[YB]? = some (.cells #[.slice uo (sortO stmLt ls).length uc, .slice fo (sortO rolLt l1).length fc, .slice mo (sortO rolLt l2).length mc, .slice none 0 0] 57) := heap_set (hs1) 2 (.slice mo (sortO rolLt l2).length mc)
       have hs3 : ((((w127.setCell ⟨YB, 0, none⟩ (.slice uo (sortO stmLt ls).length uc)).setCell ⟨YB, 1, none⟩ (.slice fo (sortO rolLt l1).length fc)).setCell ⟨YB, 2, none⟩ (.slice mo (sortO rolLt l2).length mc)).setCell ⟨YB, 3, none⟩ (.slice none 0 0)).heap[YB]? = some (.cells #[.slice uo (sortO stmLt ls).length uc, .slice fo (sortO rolLt l1).length fc, .slice mo (sortO rolLt l2).length mc, .slice none 0 0] 57) := heap_set (hs2) 3 (.slice none 0 0)
       have hkE : Keeps (fun q => q = YB) w127 ((((w127.setCell ⟨YB, 0, none⟩ (.slice uo (sortO stmLt ls).length uc)).setCell ⟨YB, 1, none⟩ (.slice fo (sortO rolLt l1).length fc)).setCell ⟨YB, 2, none⟩ (.slice mo (sortO rolLt l2).length mc)).setCell ⟨YB, 3, none⟩ (.slice none 0 0)) := (Keeps.setCell (S := fun q => q = YB) (Keeps.setCell (S := fun q => q = YB) (Keeps.setCell (S := fun q => q = YB) (Keeps.setCell (S := fun q => q = YB) (Keeps.refl _ _) (p := ⟨YB, 0, none⟩) (fun _ => rfl) _) (p := ⟨YB, 1, none⟩) (fun _ => rfl) _) (p := ⟨YB, 2, none⟩) (fun _ => rfl) _) (p := ⟨YB, 3, none⟩) (fun _ => rfl) _)
       have HY128 := Lib.hid hs3
       have HS129 := Lib.hid (((hkE).block _ (lt_of_heap HS115.out) (by have := HN107.out; show ¬ _ = _; omega)).trans HS115.out)
       have HX130 := Lib.hid (((hkE).block _ (lt_of_heap HX116.out) (by have := HN107.out; show ¬ _ = _; omega)).trans HX116.out)
       have HE131 := Lib.hid (RdX.keeps HE117.out (hkE) (fun q hq hp e => by have hp : WA.heap.size < q ∧ q < YB := hp; have e : q = _ := e; have := HN107.out; omega))
       have HE132 := Lib.hid (RdX.keeps HE118.out (hkE) (fun q hq hp e => by have hp : q < W.heap.size ∧ q < YB := hp; have e : q = _ := e; have := HN107.out; omega))
       have HE133 := Lib.hid (RdX.keeps HE119.out (hkE) (fun q hq hp e => by have hp : q < W.heap.size ∧ q < YB := hp; have e : q = _ := e; have := HN107.out; omega))
       have HE134 := Lib.hid (QRX.keeps HE120.out (hkE) (fun q hq hp e => by have hp : P q ∧ q < W.heap.size ∧ q < YB := hp; have e : q = _ := e; have := HN107.out; omega))
       have HE135 := Lib.hid (RdX.keeps HE121.out (hkE) (fun q hq hp e => by have hp : WA.heap.size < q ∧ q < YB := hp; have e : q = _ := e; have := HN107.out; omega))
       have HE136 := Lib.hid (RdX.keeps HE122.out (hkE) (fun q hq hp e => by have hp : WA.heap.size < q ∧ q < YB := hp; have e : q = _ := e; have := HN107.out; omega))
       have HE137 := Lib.hid (RdX.keeps HE123.out (hkE) (fun q hq hp e => by have hp : WA.heap.size < q ∧ q < YB := hp; have e : q = _ := e; have := HN107.out; omega))
       have HK138 := Lib.hid (HK124.out.trans_new hkE (fun q hq e => by have := HN107.out; omega))
       go_simp
       refine hK.out _ _ ?s_139 (fun hHeld => ?_)
       case s_139 => exact HMK59.out _ HS129.out
       clear hK KK
       (try simp only [Act.put, nm1, nm2, nm3])
       refine wpAnyH_done (by kernel_rfl) ?_ _
       refine NoPanic.normal ?_
       clear hHeld HMK59
       clear hkE hs0 hs1 hs2 hs3 HY125 HS115 HX116 HE117 HE118 HE119 HE120 HE121 HE122 HE123 HK124
       clear Yc0 Yf0 Yc1 Yf1 Yc2 Yf2 Yc3 Yf3
       generalize ((((w127.setCell ⟨YB, 0, none⟩ (.slice uo (sortO stmLt ls).length uc)).setCell ⟨YB, 1, none⟩ (.slice fo (sortO rolLt l1).length fc)).setCell ⟨YB, 2, none⟩ (.slice mo (sortO rolLt l2).length mc)).setCell ⟨YB, 3, none⟩ (.slice none 0 0)) = wq at *
       go_wp2_with fail
       go_meet
       case rel => exact ⟨YB, uo, fo, mo, uc, fc, mc, rfl, HK138.out, by have := HN107.out; omega, HS129.out, HX130.out, HY128.out, HE134.out.into (Keeps.refl (fun _ => False) _) (fun _ _ _ x => x) (fun q hq hp => by have hp : P q ∧ q < W.heap.size ∧ q < YB := hp; have := HN107.out; exact ⟨hp.1, hp.2.1⟩), HE135.out.into (Keeps.refl (fun _ => False) _) (fun _ _ _ x => x) (fun q hq hp => by have hp : WA.heap.size < q ∧ q < YB := hp; have := HN107.out; show _ ∧ _; omega), HE136.out.into (Keeps.refl (fun _ => False) _) (fun _ _ _ x => x) (fun q hq hp => by have hp : WA.heap.size < q ∧ q < YB := hp; have := HN107.out; show _ ∧ _; omega), HE137.out.into (Keeps.refl (fun _ => False) _) (fun _ _ _ x => x) (fun q hq hp => by have hp : WA.heap.size < q ∧ q < YB := hp; have := HN107.out; show _ ∧ _; omega)⟩
      case p9_94 =>
       have hal := (MapKept.heap_alloc w84 (.cells #[.slice none 0 0, .slice none 0 0, .slice none 0 0, .slice none 0 0] 57)).1
       have hkE : Keeps (fun _ => False) w84 (w84.alloc (.cells #[.slice none 0 0, .slice none 0 0, .slice none 0 0, .slice none 0 0] 57)) := (Keeps.refl _ _).alloc _
       obtain ⟨YB, hYB⟩ : ∃ q, w84.heap.size = q := ⟨_, rfl⟩
       rw [hYB] at hal
       have HE141 : Hid (RdX stmE w84 (.slice ao4 ls.length cp4) ls (fun k => WA.heap.size < k ∧ k < YB)) := HE87.out.into (Keeps.refl (fun _ => False) _) (fun _ _ _ x => x) (fun q hq hp => by have hp : WA.heap.size < q := hp; have := hYB; show WA.heap.size < q ∧ q < YB; first | omega | (obtain ⟨hp1, hp2⟩ := hp; refine ⟨hp1, ?_⟩; omega) | (refine ⟨hp, ?_⟩; omega))
       clear HE87
       have HE142 : Hid (RdX rolE w84 (.slice ao1 n1 cp1) l1 (fun k => k < W.heap.size ∧ k < YB)) := HE88.out.into (Keeps.refl (fun _ => False) _) (fun _ _ _ x => x) (fun q hq hp => by have hp : q < W.heap.size := hp; have := hYB; show q < W.heap.size ∧ q < YB; first | omega | (obtain ⟨hp1, hp2⟩ := hp; refine ⟨hp1, ?_⟩; omega) | (refine ⟨hp, ?_⟩; omega))
       clear HE88
       have HE143 : Hid (RdX rolE w84 (.slice ao2 n2 cp2) l2 (fun k => k < W.heap.size ∧ k < YB)) := HE89.out.into (Keeps.refl (fun _ => False) _) (fun _ _ _ x => x) (fun q hq hp => by have hp : q < W.heap.size := hp; have := hYB; show q < W.heap.size ∧ q < YB; first | omega | (obtain ⟨hp1, hp2⟩ := hp; refine ⟨hp1, ?_⟩; omega) | (refine ⟨hp, ?_⟩; omega))
       clear HE89
       have HE144 : Hid (QRX w84 (.slice ao3 n3 cp3) l3 (fun k => P k ∧ k < W.heap.size ∧ k < YB)) := HE90.out.into (Keeps.refl (fun _ => False) _) (fun _ _ _ x => x) (fun q hq hp => by have hp : P q ∧ q < W.heap.size := hp; have := hYB; show P q ∧ q < W.heap.size ∧ q < YB; first | omega | (obtain ⟨hp1, hp2⟩ := hp; refine ⟨hp1, ?_⟩; omega) | (refine ⟨hp, ?_⟩; omega))
       clear HE90
       have HE145 : Hid (RdX stmE w84 (.slice uo (sortO stmLt ls).length uc) (sortO stmLt ls) (fun k => WA.heap.size < k ∧ k < YB)) := HE91.out.into (Keeps.refl (fun _ => False) _) (fun _ _ _ x => x) (fun q hq hp => by have hp : WA.heap.size < q := hp; have := hYB; show WA.heap.size < q ∧ q < YB; first | omega | (obtain ⟨hp1, hp2⟩ := hp; refine ⟨hp1, ?_⟩; omega) | (refine ⟨hp, ?_⟩; omega))
       clear HE91
       have HE146 : Hid (RdX rolE w84 (.slice fo (sortO rolLt l1).length fc) (sortO rolLt l1) (fun k => WA.heap.size < k ∧ k < YB)) := HUf.out.into (Keeps.refl (fun _ => False) _) (fun _ _ _ x => x) (fun q hq hp => by have hp : WA.heap.size < q := hp; have := hYB; show WA.heap.size < q ∧ q < YB; first | omega | (obtain ⟨hp1, hp2⟩ := hp; refine ⟨hp1, ?_⟩; omega) | (refine ⟨hp, ?_⟩; omega))
       clear HUf
       have HN140 : Hid ((W.heap.size < WA.heap.size ∧ WA.heap.size < LB) ∧ W.heap.size ≤ YB ∧ W.heap.size < YB ∧ WA.heap.size < YB) := ⟨HN.out, by
        have hz := HK92.out.size
        have l0 := lt_of_heap HS85.out
        have l1 := lt_of_heap HX86.out
        refine ⟨?_, ?_, ?_⟩ <;> omega⟩
       have HS147 := Lib.hid (((hkE).block _ (lt_of_heap HS85.out) (fun x => x)).trans HS85.out)
       have HX148 := Lib.hid (((hkE).block _ (lt_of_heap HX86.out) (fun x => x)).trans HX86.out)
       have HE149 := Lib.hid (RdX.keeps HE141.out (hkE) (fun _ _ _ x => x))
       have HE150 := Lib.hid (RdX.keeps HE142.out (hkE) (fun _ _ _ x => x))
       have HE151 := Lib.hid (RdX.keeps HE143.out (hkE) (fun _ _ _ x => x))
       have HE152 := Lib.hid (QRX.keeps HE144.out (hkE) (fun _ _ _ x => x))
       have HE153 := Lib.hid (RdX.keeps HE145.out (hkE) (fun _ _ _ x => x))
       have HE154 := Lib.hid (RdX.keeps HE146.out (hkE) (fun _ _ _ x => x))
       have HK155 := Lib.hid (HK92.out.trans hkE)
       have HY156 := Lib.hid hal
       go_simp
       refine hK.out _ _ ?s_157 (fun hHeld => ?_)
       case s_157 => exact HMK59.out _ HS147.out
       clear hK KK
       (try simp only [Act.put, nm1, nm2, nm3])
       clear hkE hal HS85 HX86 HE141 HE142 HE143 HE144 HE145 HE146 HN HK92
       clear hYB
       generalize (w84.alloc (.cells #[.slice none 0 0, .slice none 0 0, .slice none 0 0, .slice none 0 0] 57)) = w158 at *
       refine wpAnyH_one (i := 7) (by kernel_rfl) rfl (fun KK hK => ?_)
       go_simp
       refine (HC3.out _ HE151.out.1).mono ?_
       rintro e w159 ⟨mv, rfl, hk⟩
       obtain ⟨mo, mc, hv, hzz⟩ := id hk.out.2.1.1
       clear hzz
       subst hv
       have HUm : Hid (RdX rolE w159 (.slice mo (sortO rolLt l2).length mc) (sortO rolLt l2) (fun k => YB < k)) := hk.out.2.2.rdX hk.out.2.1 (fun k q1 q2 => by have := lt_of_heap HY156.out; show _ < _; omega)
       have HS160 := Lib.hid (((hk.out.1).block _ (lt_of_heap HS147.out) (fun x => x)).trans HS147.out)
       have HX161 := Lib.hid (((hk.out.1).block _ (lt_of_heap HX148.out) (fun x => x)).trans HX148.out)
       have HY162 := Lib.hid (((hk.out.1).block _ (lt_of_heap HY156.out) (fun x => x)).trans HY156.out)
       have HE163 := Lib.hid (RdX.keeps HE149.out (hk.out.1) (fun _ _ _ x => x))
       have HE164 := Lib.hid (RdX.keeps HE150.out (hk.out.1) (fun _ _ _ x => x))
       have HE165 := Lib.hid (RdX.keeps HE151.out (hk.out.1) (fun _ _ _ x => x))
       have HE166 := Lib.hid (QRX.keeps HE152.out (hk.out.1) (fun _ _ _ x => x))
       have HE167 := Lib.hid (RdX.keeps HE153.out (hk.out.1) (fun _ _ _ x => x))
       have HE168 := Lib.hid (RdX.keeps HE154.out (hk.out.1) (fun _ _ _ x => x))
       have HK169 := Lib.hid (HK155.out.trans hk.out.1)
       clear hk HC3 HS147 HX148 HY156 HE149 HE150 HE151 HE152 HE153 HE154 HK155
       go_simp
       refine hK.out _ _ ?s_170 (fun hHeld => ?_)
       case s_170 => exact HMK59.out _ HS160.out
       clear hK KK
       (try simp only [Act.put, nm1, nm2, nm3])
       refine wpAnyH_take_at (i := 8) (v := ?v8_171) rfl (by kernel_rfl) (by kernel_rfl) (by kernel_rfl) (fun _ _ _ h => h) (Or.inl ⟨by rfl, ?y8_171⟩) hHeld ?r8_171
       case y8_171 => (intro w hSw; (try dsimp only at hSw); go_simp; first | done | with_reducible rfl)
       (try simp only [Act.put, nm1, nm2, nm3])
       refine wpAnyH_one (i := 10) (by kernel_rfl) rfl (fun KK hK => ?_)
       obtain ⟨Yc0, Yf0, Yc1, Yf1, Yc2, Yf2, Yc3, Yf3⟩ := cf4 HY162.out
       have hs0 : (w159.setCell ⟨YB, 0, none⟩ (.slice uo (sortO stmLt ls).length uc)).heap[YB]? = some (.cells #[.slice uo (sortO stmLt ls).length uc, .slice none 0 0, .slice none 0 0, .slice none 0 0] 57) := heap_set (HY162.out) 0 (.slice uo (sortO stmLt ls).length uc)
       have hs1 : ((w159.setCell ⟨YB, 0, none⟩ (.slice uo (sortO stmLt ls).length uc)).setCell ⟨YB, 1, none⟩ (.slice fo (sortO rolLt l1).length fc)).heap[YB]? = some (.cells #[.slice uo (sortO stmLt ls).length uc, .slice fo (sortO rolLt l1).length fc, .slice none 0 0, .slice none 0 0] 57) := heap_set (hs0) 1 (.slice fo (sortO rolLt l1).length fc)
       have hs2 : (((w159.setCell ⟨YB, 0, none⟩ (.slice uo (sortO stmLt ls).length uc)).setCell ⟨YB, 1, none⟩ (.slice fo (sortO rolLt l1).length fc)).setCell ⟨YB, 2, none⟩ (.slice mo (sortO rolLt l2).length mc)).heap[YB]? = some (.cells #[.slice uo (sortO stmLt ls).length uc, .slice fo (sortO rolLt l1).length fc, .slice mo (sortO rolLt l2).length mc, .slice none 0 0] 57) := heap_set (hs1) 2 (.slice mo (sortO rolLt l2).length mc)
       have hs3 : ((((w159.setCell ⟨YB, 0, none⟩ (.slice uo (sortO stmLt ls).length uc)).setCell ⟨YB, 1, none⟩ (.slice fo (sortO rolLt l1).length fc)).setCell ⟨YB, 2, none⟩ (.slice mo (sortO rolLt l2).length mc)).setCell ⟨YB, 3, none⟩ (.slice none 0 0)).heap[YB]? = some (.cells #[.slice uo (sortO stmLt ls).length uc, .slice fo (sortO rolLt l1).length fc, .slice mo (sortO rolLt l2).length mc, .slice none 0 0] 57) := heap_set (hs2) 3 (.slice none 0 0)
       have hkE : Keeps (fun q => q = YB) w159 ((((w159.setCell ⟨YB, 0, none⟩ (.slice uo (sortO stmLt ls).length uc)).setCell ⟨YB, 1, none⟩ (.slice fo (sortO rolLt l1).length fc)).setCell ⟨YB, 2, none⟩ (.slice mo (sortO rolLt l2).length mc)).setCell ⟨YB, 3, none⟩ (.slice none 0 0)) := (Keeps.setCell (S := fun q => q = YB) (Keeps.setCell (S := fun q => q = YB) (Keeps.setCell (S := fun q => q = YB) (Keeps.setCell (S := fun q => q = YB) (Keeps.refl _ _) (p := ⟨YB, 0, none⟩) (fun _ => rfl) _) (p := ⟨YB, 1, none⟩) (fun _ => rfl) _) (p := ⟨YB, 2, none⟩) (fun _ => rfl) _) (p := ⟨YB, 3, none⟩) (fun _ => rfl) _)
       have HY172 := Lib.hid hs3
       have HS173 := Lib.hid (((hkE).block _ (lt_of_heap HS160.out) (by have := HN140.out; show ¬ _ = _; omega)).trans HS160.out)
       have HX174 := Lib.hid (((hkE).block _ (lt_of_heap HX161.out) (by have := HN140.out; show ¬ _ = _; omega)).trans HX161.out)
       have HE175 := Lib.hid (RdX.keeps HE163.out (hkE) (fun q hq hp e => by have hp : WA.heap.size < q ∧ q < YB := hp; have e : q = _ := e; have := HN140.out; omega))
       have HE176 := Lib.hid (RdX.keeps HE164.out (hkE) (fun q hq hp e => by have hp : q < W.heap.size ∧ q < YB := hp; have e : q = _ := e; have := HN140.out; omega))
       have HE177 := Lib.hid (RdX.keeps HE165.out (hkE) (fun q hq hp e => by have hp : q < W.heap.size ∧ q < YB := hp; have e : q = _ := e; have := HN140.out; omega))
       have HE178 := Lib.hid (QRX.keeps HE166.out (hkE) (fun q hq hp e => by have hp : P q ∧ q < W.heap.size ∧ q < YB := hp; have e : q = _ := e; have := HN140.out; omega))
       have HE179 := Lib.hid (RdX.keeps HE167.out (hkE) (fun q hq hp e => by have hp : WA.heap.size < q ∧ q < YB := hp; have e : q = _ := e; have := HN140.out; omega))
       have HE180 := Lib.hid (RdX.keeps HE168.out (hkE) (fun q hq hp e => by have hp : WA.heap.size < q ∧ q < YB := hp; have e : q = _ := e; have := HN140.out; omega))
       have HE181 := Lib.hid (RdX.keeps HUm.out (hkE) (fun q hq hp e => by have hp : YB < q := hp; have e : q = _ := e; have := HN140.out; omega))
       have HK182 := Lib.hid (HK169.out.trans_new hkE (fun q hq e => by have := HN140.out; omega))
       go_simp
       refine hK.out _ _ ?s_183 (fun hHeld => ?_)
       case s_183 => exact HMK59.out _ HS173.out
       clear hK KK
       (try simp only [Act.put, nm1, nm2, nm3])
       refine wpAnyH_done (by kernel_rfl) ?_ _
       refine NoPanic.normal ?_
       clear hHeld HMK59
       clear hkE hs0 hs1 hs2 hs3 HY162 HS160 HX161 HE163 HE164 HE165 HE166 HE167 HE168 HUm HK169
       clear Yc0 Yf0 Yc1 Yf1 Yc2 Yf2 Yc3 Yf3
       generalize ((((w159.setCell ⟨YB, 0, none⟩ (.slice uo (sortO stmLt ls).length uc)).setCell ⟨YB, 1, none⟩ (.slice fo (sortO rolLt l1).length fc)).setCell ⟨YB, 2, none⟩ (.slice mo (sortO rolLt l2).length mc)).setCell ⟨YB, 3, none⟩ (.slice none 0 0)) = wq at *
       go_wp2_with fail
       go_meet
       case rel => exact ⟨YB, uo, fo, mo, uc, fc, mc, rfl, HK182.out, by have := HN140.out; omega, HS173.out, HX174.out, HY172.out, HE178.out.into (Keeps.refl (fun _ => False) _) (fun _ _ _ x => x) (fun q hq hp => by have hp : P q ∧ q < W.heap.size ∧ q < YB := hp; have := HN140.out; exact ⟨hp.1, hp.2.1⟩), HE179.out.into (Keeps.refl (fun _ => False) _) (fun _ _ _ x => x) (fun q hq hp => by have hp : WA.heap.size < q ∧ q < YB := hp; have := HN140.out; show _ ∧ _; omega), HE180.out.into (Keeps.refl (fun _ => False) _) (fun _ _ _ x => x) (fun q hq hp => by have hp : WA.heap.size < q ∧ q < YB := hp; have := HN140.out; show _ ∧ _; omega), HE181.out.into (Keeps.refl (fun _ => False) _) (fun _ _ _ x => x) (fun q hq hp => by have hp : YB < q := hp; have := HN140.out; show _ ∧ _; omega)⟩
     case p9_83 =>
      have hal := (MapKept.heap_alloc w74 (.cells #[.slice none 0 0, .slice none 0 0, .slice none 0 0, .slice none 0 0] 57)).1
      have hkE : Keeps (fun _ => False) w74 (w74.alloc (.cells #[.slice none 0 0, .slice none 0 0, .slice none 0 0, .slice none 0 0] 57)) := (Keeps.refl _ _).alloc _
      obtain ⟨YB, hYB⟩ : ∃ q, w74.heap.size = q := ⟨_, rfl⟩
      rw [hYB] at hal
      have HE185 : Hid (RdX stmE w74 (.slice ao4 ls.length cp4) ls (fun k => WA.heap.size < k ∧ k < YB)) := HE77.out.into (Keeps.refl (fun _ => False) _) (fun _ _ _ x => x) (fun q hq hp => by have hp : WA.heap.size < q := hp; have := hYB; show WA.heap.size < q ∧ q < YB; first | omega | (obtain ⟨hp1, hp2⟩ := hp; refine ⟨hp1, ?_⟩; omega) | (refine ⟨hp, ?_⟩; omega))
      clear HE77
      have HE186 : Hid (RdX rolE w74 (.slice ao1 n1 cp1) l1 (fun k => k < W.heap.size ∧ k < YB)) := HE78.out.into (Keeps.refl (fun _ => False) _) (fun _ _ _ x => x) (fun q hq hp => by have hp : q < W.heap.size := hp; have := hYB; show q < W.heap.size ∧ q < YB; first | omega | (obtain ⟨hp1, hp2⟩ := hp; refine ⟨hp1, ?_⟩; omega) | (refine ⟨hp, ?_⟩; omega))
      clear HE78
      have HE187 : Hid (RdX rolE w74 (.slice ao2 n2 cp2) l2 (fun k => k < W.heap.size ∧ k < YB)) := HE79.out.into (Keeps.refl (fun _ => False) _) (fun _ _ _ x => x) (fun q hq hp => by have hp : q < W.heap.size := hp; have := hYB; show q < W.heap.size ∧ q < YB; first | omega | (obtain ⟨hp1, hp2⟩ := hp; refine ⟨hp1, ?_⟩; omega) | (refine ⟨hp, ?_⟩; omega))
      clear HE79
      have HE188 : Hid (QRX w74 (.slice ao3 n3 cp3) l3 (fun k => P k ∧ k < W.heap.size ∧ k < YB)) := HE80.out.into (Keeps.refl (fun _ => False) _) (fun _ _ _ x => x) (fun q hq hp => by have hp : P q ∧ q < W.heap.size := hp; have := hYB; show P q ∧ q < W.heap.size ∧ q < YB; first | omega | (obtain ⟨hp1, hp2⟩ := hp; refine ⟨hp1, ?_⟩; omega) | (refine ⟨hp, ?_⟩; omega))
      clear HE80
      have HE189 : Hid (RdX stmE w74 (.slice uo (sortO stmLt ls).length uc) (sortO stmLt ls) (fun k => WA.heap.size < k ∧ k < YB)) := HUu.out.into (Keeps.refl (fun _ => False) _) (fun _ _ _ x => x) (fun q hq hp => by have hp : WA.heap.size < q := hp; have := hYB; show WA.heap.size < q ∧ q < YB; first | omega | (obtain ⟨hp1, hp2⟩ := hp; refine ⟨hp1, ?_⟩; omega) | (refine ⟨hp, ?_⟩; omega))
      clear HUu
      have HN184 : Hid ((W.heap.size < WA.heap.size ∧ WA.heap.size < LB) ∧ W.heap.size ≤ YB ∧ W.heap.size < YB ∧ WA.heap.size < YB) := ⟨HN.out, by
       have hz := HK81.out.size
       have l0 := lt_of_heap HS75.out
       have l1 := lt_of_heap HX76.out
       refine ⟨?_, ?_, ?_⟩ <;> omega⟩
      have HS190 := Lib.hid (((hkE).block _ (lt_of_heap HS75.out) (fun x => x)).trans HS75.out)
      have HX191 := Lib.hid (((hkE).block _ (lt_of_heap HX76.out) (fun x => x)).trans HX76.out)
      have HE192 := Lib.hid (RdX.keeps HE185.out (hkE) (fun _ _ _ x => x))
      have HE193 := Lib.hid (RdX.keeps HE186.out (hkE) (fun _ _ _ x => x))
      have HE194 := Lib.hid (RdX.keeps HE187.out (hkE) (fun _ _ _ x => x))
      have HE195 := Lib.hid (QRX.keeps HE188.out (hkE) (fun _ _ _ x => x))
      have HE196 := Lib.hid (RdX.keeps HE189.out (hkE) (fun _ _ _ x => x))
      have HK197 := Lib.hid (HK81.out.trans hkE)
      have HY198 := Lib.hid hal
      go_simp
      refine hK.out _ _ ?s_199 (fun hHeld => ?_)
      case s_199 => exact HMK59.out _ HS190.out
      clear hK KK
      (try simp only [Act.put, nm1, nm2, nm3])
      clear hkE hal HS75 HX76 HE185 HE186 HE187 HE188 HE189 HN HK81
      clear hYB
      generalize (w74.alloc (.cells #[.slice none 0 0, .slice none 0 0, .slice none 0 0, .slice none 0 0] 57)) = w200 at *
      refine wpAnyH_one (i := 4) (by kernel_rfl) rfl (fun KK hK => ?_)
      go_simp
      refine (HC2.out _ HE193.out.1).mono ?_
      rintro e w201 ⟨fv, rfl, hk⟩
      obtain ⟨fo, fc, hv, hzz⟩ := id hk.out.2.1.1
      clear hzz
      subst hv
      have HUf : Hid (RdX rolE w201 (.slice fo (sortO rolLt l1).length fc) (sortO rolLt l1) (fun k => YB < k)) := hk.out.2.2.rdX hk.out.2.1 (fun k q1 q2 => by have := lt_of_heap HY198.out; show _ < _; omega)
      have HS202 := Lib.hid (((hk.out.1).block _ (lt_of_heap HS190.out) (fun x => x)).trans HS190.out)
      have HX203 := Lib.hid (((hk.out.1).block _ (lt_of_heap HX191.out) (fun x => x)).trans HX191.out)
      have HY204 := Lib.hid (((hk.out.1).block _ (lt_of_heap HY198.out) (fun x => x)).trans HY198.out)
      have HE205 := Lib.hid (RdX.keeps HE192.out (hk.out.1) (fun _ _ _ x => x))
      have HE206 := Lib.hid (RdX.keeps HE193.out (hk.out.1) (fun _ _ _ x => x))
      have HE207 := Lib.hid (RdX.keeps HE194.out (hk.out.1) (fun _ _ _ x => x))
      have HE208 := Lib.hid (QRX.keeps HE195.out (hk.out.1) (fun _ _ _ x => x))
      have HE209 := Lib.hid (RdX.keeps HE196.out (hk.out.1) (fun _ _ _ x => x))
      have HK210 := Lib.hid (HK197.out.trans hk.out.1)
      clear hk HC2 HS190 HX191 HY198 HE192 HE193 HE194 HE195 HE196 HK197
      go_simp
      refine hK.out _ _ ?s_211 (fun hHeld => ?_)
      case s_211 => exact HMK59.out _ HS202.out
      clear hK KK
      (try simp only [Act.put, nm1, nm2, nm3])
      refine wpAnyH_one (i := 7) (by kernel_rfl) rfl (fun KK hK => ?_)
      go_simp
      refine (HC3.out _ HE207.out.1).mono ?_
      rintro e w212 ⟨mv, rfl, hk⟩
      obtain ⟨mo, mc, hv, hzz⟩ := id hk.out.2.1.1
      clear hzz
      subst hv
      have HUm : Hid (RdX rolE w212 (.slice mo (sortO rolLt l2).length mc) (sortO rolLt l2) (fun k => YB < k)) := hk.out.2.2.rdX hk.out.2.1 (fun k q1 q2 => by have := lt_of_heap HY204.out; show _ < _; omega)
      have HS213 := Lib.hid (((hk.out.1).block _ (lt_of_heap HS202.out) (fun x => x)).trans HS202.out)
      have HX214 := Lib.hid (((hk.out.1).block _ (lt_of_heap HX203.out) (fun x => x)).trans HX203.out)
      have HY215 := Lib.hid (((hk.out.1).block _ (lt_of_heap HY204.out) (fun x => x)).trans HY204.out)
      have HE216 := Lib.hid (RdX.keeps HE205.out (hk.out.1) (fun _ _ _ x => x))
      have HE217 := Lib.hid (RdX.keeps HE206.out (hk.out.1) (fun _ _ _ x => x))
      have HE218 := Lib.hid (RdX.keeps HE207.out (hk.out.1) (fun _ _ _ x => x))
      have HE219 := Lib.hid (QRX.keeps HE208.out (hk.out.1) (fun _ _ _ x => x))
      have HE220 := Lib.hid (RdX.keeps HE209.out (hk.out.1) (fun _ _ _ x => x))
      have HE221 := Lib.hid (RdX.keeps HUf.out (hk.out.1) (fun _ _ _ x => x))
      have HK222 := Lib.hid (HK210.out.trans hk.out.1)
      clear hk HC3 HS202 HX203 HY204 HE205 HE206 HE207 HE208 HE209 HUf HK210
      go_simp
      refine hK.out _ _ ?s_223 (fun hHeld => ?_)
      case s_223 => exact HMK59.out _ HS213.out
      clear hK KK
      (try simp only [Act.put, nm1, nm2, nm3])
      refine wpAnyH_take_at (i := 8) (v := ?v8_224) rfl (by kernel_rfl) (by kernel_rfl) (by kernel_rfl) (fun _ _ _ h => h) (Or.inl ⟨by rfl, ?y8_224⟩) hHeld ?r8_224
      case y8_224 => (intro w hSw; (try dsimp only at hSw); go_simp; first | done | with_reducible rfl)
      (try simp only [Act.put, nm1, nm2, nm3])
      refine wpAnyH_one (i := 10) (by kernel_rfl) rfl (fun KK hK => ?_)
      obtain ⟨Yc0, Yf0, Yc1, Yf1, Yc2, Yf2, Yc3, Yf3⟩ := cf4 HY215.out
      have hs0 : (w212.setCell ⟨YB, 0, none⟩ (.slice uo (sortO stmLt ls).length uc)).heap[YB]? = some (.cells #[.slice uo (sortO stmLt ls).length uc, .slice none 0 0, .slice none 0 0, .slice none 0 0] 57) := heap_set (HY215.out) 0 (.slice uo (sortO stmLt ls).length uc)
      have hs1 : ((w212.setCell ⟨YB, 0, none⟩ (.slice uo (sortO stmLt ls).length uc)).setCell ⟨YB, 1, none⟩ (.slice fo (sortO rolLt l1).length fc)).heap[YB]? = some (.cells #[.slice uo (sortO stmLt ls).length uc, .slice fo (sortO rolLt l1).length fc, .slice none 0 0, .slice none 0 0] 57) := heap_set (hs0) 1 (.slice fo (sortO rolLt l1).length fc)
      have hs2 : (((w212.setCell ⟨YB, 0, none⟩ (.slice uo (sortO stmLt ls).length uc)).setCell ⟨YB, 1, none⟩ (.slice fo (sortO rolLt l1).length fc)).setCell ⟨YB, 2, none⟩ (.slice mo (sortO rolLt l2).length mc)).heap[YB]? = some (.cells #[.slice uo (sortO stmLt ls).length uc, .slice fo (sortO rolLt l1).length fc, .slice mo (sortO rolLt l2).length mc, .slice none 0 0] 57) := heap_set (hs1) 2 (.slice mo (sortO rolLt l2).length mc)
      have hs3 : ((((w212.setCell ⟨YB, 0, none⟩ (.slice uo (sortO stmLt ls).length uc)).setCell ⟨YB, 1, none⟩ (.slice fo (sortO rolLt l1).length fc)).setCell ⟨YB, 2, none⟩ (.slice mo (sortO rolLt l2).length mc)).setCell ⟨YB, 3, none⟩ (.slice none 0 0)).heap[YB]? = some (.cells #[.slice uo (sortO stmLt ls).length uc, .slice fo (sortO rolLt l1).length fc, .slice mo (sortO rolLt l2).length mc, .slice none 0 0] 57) := heap_set (hs2) 3 (.slice none 0 0)
      have hkE : Keeps (fun q => q = YB) w212 ((((w212.setCell ⟨YB, 0, none⟩ (.slice uo (sortO stmLt ls).length uc)).setCell ⟨YB, 1, none⟩ (.slice fo (sortO rolLt l1).length fc)).setCell ⟨YB, 2, none⟩ (.slice mo (sortO rolLt l2).length mc)).setCell ⟨YB, 3, none⟩ (.slice none 0 0)) := (Keeps.setCell (S := fun q => q = YB) (Keeps.setCell (S := fun q => q = YB) (Keeps.setCell (S := fun q => q = YB) (Keeps.setCell (S := fun q => q = YB) (Keeps.refl _ _) (p := ⟨YB, 0, none⟩) (fun _ => rfl) _) (p := ⟨YB, 1, none⟩) (fun _ => rfl) _) (p := ⟨YB, 2, none⟩) (fun _ => rfl) _) (p := ⟨YB, 3, none⟩) (fun _ => rfl) _)
      have HY225 := Lib.hid hs3
      have HS226 := Lib.hid (((hkE).block _ (lt_of_heap HS213.out) (by have := HN184.out; show ¬ _ = _; omega)).trans HS213.out)
      have HX227 := Lib.hid (((hkE).block _ (lt_of_heap HX214.out) (by have := HN184.out; show ¬ _ = _; omega)).trans HX214.out)
      have HE228 := Lib.hid (RdX.keeps HE216.out (hkE) (fun q hq hp e => by have hp : WA.heap.size < q ∧ q < YB := hp; have e : q = _ := e; have := HN184.out; omega))
      have HE229 := Lib.hid (RdX.keeps HE217.out (hkE) (fun q hq hp e => by have hp : q < W.heap.size ∧ q < YB := hp; have e : q = _ := e; have := HN184.out; omega))
      have HE230 := Lib.hid (RdX.keeps HE218.out (hkE) (fun q hq hp e => by have hp : q < W.heap.size ∧ q < YB := hp; have e : q = _ := e; have := HN184.out; omega))
      have HE231 := Lib.hid (QRX.keeps HE219.out (hkE) (fun q hq hp e => by have hp : P q ∧ q < W.heap.size ∧ q < YB := hp; have e : q = _ := e; have := HN184.out; omega))
      have HE232 := Lib.hid (RdX.keeps HE220.out (hkE) (fun q hq hp e => by have hp : WA.heap.size < q ∧ q < YB := hp; have e : q = _ := e; have := HN184.out; omega))
      have HE233 := Lib.hid (RdX.keeps HE221.out (hkE) (fun q hq hp e => by have hp : YB < q := hp; have e : q = _ := e; have := HN184.out; omega))
      have HE234 := Lib.hid (RdX.keeps HUm.out (hkE) (fun q hq hp e => by have hp : YB < q := hp; have e : q = _ := e; have := HN184.out; omega))
      have HK235 := Lib.hid (HK222.out.trans_new hkE (fun q hq e => by have := HN184.out; omega))
      go_simp
      refine hK.out _ _ ?s_236 (fun hHeld => ?_)
      case s_236 => exact HMK59.out _ HS226.out
      clear hK KK
      (try simp only [Act.put, nm1, nm2, nm3])
      refine wpAnyH_done (by kernel_rfl) ?_ _
      refine NoPanic.normal ?_
      clear hHeld HMK59
      clear hkE hs0 hs1 hs2 hs3 HY215 HS213 HX214 HE216 HE217 HE218 HE219 HE220 HE221 HUm HK222
      clear Yc0 Yf0 Yc1 Yf1 Yc2 Yf2 Yc3 Yf3
      generalize ((((w212.setCell ⟨YB, 0, none⟩ (.slice uo (sortO stmLt ls).length uc)).setCell ⟨YB, 1, none⟩ (.slice fo (sortO rolLt l1).length fc)).setCell ⟨YB, 2, none⟩ (.slice mo (sortO rolLt l2).length mc)).setCell ⟨YB, 3, none⟩ (.slice none 0 0)) = wq at *
      go_wp2_with fail
      go_meet
      case rel => exact ⟨YB, uo, fo, mo, uc, fc, mc, rfl, HK235.out, by have := HN184.out; omega, HS226.out, HX227.out, HY225.out, HE231.out.into (Keeps.refl (fun _ => False) _) (fun _ _ _ x => x) (fun q hq hp => by have hp : P q ∧ q < W.heap.size ∧ q < YB := hp; have := HN184.out; exact ⟨hp.1, hp.2.1⟩), HE232.out.into (Keeps.refl (fun _ => False) _) (fun _ _ _ x => x) (fun q hq hp => by have hp : WA.heap.size < q ∧ q < YB := hp; have := HN184.out; show _ ∧ _; omega), HE233.out.into (Keeps.refl (fun _ => False) _) (fun _ _ _ x => x) (fun q hq hp => by have hp : YB < q := hp; have := HN184.out; show _ ∧ _; omega), HE234.out.into (Keeps.refl (fun _ => False) _) (fun _ _ _ x => x) (fun q hq hp => by have hp : YB < q := hp; have := HN184.out; show _ ∧ _; omega)⟩
    case p9_73 =>
     have hal := (MapKept.heap_alloc w67 (.cells #[.slice none 0 0, .slice none 0 0, .slice none 0 0, .slice none 0 0] 57)).1
     have hkE : Keeps (fun _ => False) w67 (w67.alloc (.cells #[.slice none 0 0, .slice none 0 0, .slice none 0 0, .slice none 0 0] 57)) := (Keeps.refl _ _).alloc _
     obtain ⟨YB, hYB⟩ : ∃ q, w67.heap.size = q := ⟨_, rfl⟩
     rw [hYB] at hal
     have HE238 : Hid (RdX stmE w67 (.slice ao4 ls.length cp4) ls (fun k => WA.heap.size < k ∧ k < YB)) := HE62.out.into (Keeps.refl (fun _ => False) _) (fun _ _ _ x => x) (fun q hq hp => by have hp : WA.heap.size < q := hp; have := hYB; show WA.heap.size < q ∧ q < YB; first | omega | (obtain ⟨hp1, hp2⟩ := hp; refine ⟨hp1, ?_⟩; omega) | (refine ⟨hp, ?_⟩; omega))
     clear HE62
     have HE239 : Hid (RdX rolE w67 (.slice ao1 n1 cp1) l1 (fun k => k < W.heap.size ∧ k < YB)) := HE63.out.into (Keeps.refl (fun _ => False) _) (fun _ _ _ x => x) (fun q hq hp => by have hp : q < W.heap.size := hp; have := hYB; show q < W.heap.size ∧ q < YB; first | omega | (obtain ⟨hp1, hp2⟩ := hp; refine ⟨hp1, ?_⟩; omega) | (refine ⟨hp, ?_⟩; omega))
     clear HE63
     have HE240 : Hid (RdX rolE w67 (.slice ao2 n2 cp2) l2 (fun k => k < W.heap.size ∧ k < YB)) := HE64.out.into (Keeps.refl (fun _ => False) _) (fun _ _ _ x => x) (fun q hq hp => by have hp : q < W.heap.size := hp; have := hYB; show q < W.heap.size ∧ q < YB; first | omega | (obtain ⟨hp1, hp2⟩ := hp; refine ⟨hp1, ?_⟩; omega) | (refine ⟨hp, ?_⟩; omega))
     clear HE64
     have HE241 : Hid (QRX w67 (.slice ao3 n3 cp3) l3 (fun k => P k ∧ k < W.heap.size ∧ k < YB)) := HE65.out.into (Keeps.refl (fun _ => False) _) (fun _ _ _ x => x) (fun q hq hp => by have hp : P q ∧ q < W.heap.size := hp; have := hYB; show P q ∧ q < W.heap.size ∧ q < YB; first | omega | (obtain ⟨hp1, hp2⟩ := hp; refine ⟨hp1, ?_⟩; omega) | (refine ⟨hp, ?_⟩; omega))
     clear HE65
     have HN237 : Hid ((W.heap.size < WA.heap.size ∧ WA.heap.size < LB) ∧ W.heap.size ≤ YB ∧ W.heap.size < YB ∧ WA.heap.size < YB) := ⟨HN.out, by
      have hz := HK66.out.size
      have l0 := lt_of_heap HS60.out
      have l1 := lt_of_heap HX61.out
      refine ⟨?_, ?_, ?_⟩ <;> omega⟩
     have HS242 := Lib.hid (((hkE).block _ (lt_of_heap HS60.out) (fun x => x)).trans HS60.out)
     have HX243 := Lib.hid (((hkE).block _ (lt_of_heap HX61.out) (fun x => x)).trans HX61.out)
     have HE244 := Lib.hid (RdX.keeps HE238.out (hkE) (fun _ _ _ x => x))
     have HE245 := Lib.hid (RdX.keeps HE239.out (hkE) (fun _ _ _ x => x))
     have HE246 := Lib.hid (RdX.keeps HE240.out (hkE) (fun _ _ _ x => x))
     have HE247 := Lib.hid (QRX.keeps HE241.out (hkE) (fun _ _ _ x => x))
     have HK248 := Lib.hid (HK66.out.trans hkE)
     have HY249 := Lib.hid hal
     go_simp
     refine hK.out _ _ ?s_250 (fun hHeld => ?_)
     case s_250 => exact HMK59.out _ HS242.out
     clear hK KK
     (try simp only [Act.put, nm1, nm2, nm3])
     clear hkE hal HS60 HX61 HE238 HE239 HE240 HE241 HN HK66
     clear hYB
     generalize (w67.alloc (.cells #[.slice none 0 0, .slice none 0 0, .slice none 0 0, .slice none 0 0] 57)) = w251 at *
     refine wpAnyH_one (i := 1) (by kernel_rfl) rfl (fun KK hK => ?_)
     go_simp
     refine (HC1.out _ HE244.out.1).mono ?_
     rintro e w252 ⟨uv, rfl, hk⟩
     obtain ⟨uo, uc, hv, hzz⟩ := id hk.out.2.1.1
     clear hzz
     subst hv
     have HUu : Hid (RdX stmE w252 (.slice uo (sortO stmLt ls).length uc) (sortO stmLt ls) (fun k => YB < k)) := hk.out.2.2.rdX hk.out.2.1 (fun k q1 q2 => by have := lt_of_heap HY249.out; show _ < _; omega)
     have HS253 := Lib.hid (((hk.out.1).block _ (lt_of_heap HS242.out) (fun x => x)).trans HS242.out)
     have HX254 := Lib.hid (((hk.out.1).block _ (lt_of_heap HX243.out) (fun x => x)).trans HX243.out)
     have HY255 := Lib.hid (((hk.out.1).block _ (lt_of_heap HY249.out) (fun x => x)).trans HY249.out)
     have HE256 := Lib.hid (RdX.keeps HE244.out (hk.out.1) (fun _ _ _ x => x))
     have HE257 := Lib.hid (RdX.keeps HE245.out (hk.out.1) (fun _ _ _ x => x))
     have HE258 := Lib.hid (RdX.keeps HE246.out (hk.out.1) (fun _ _ _ x => x))
     have HE259 := Lib.hid (QRX.keeps HE247.out (hk.out.1) (fun _ _ _ x => x))
     have HK260 := Lib.hid (HK248.out.trans hk.out.1)
     clear hk HC1 HS242 HX243 HY249 HE244 HE245 HE246 HE247 HK248
     go_simp
     refine hK.out _ _ ?s_261 (fun hHeld => ?_)
     case s_261 => exact HMK59.out _ HS253.out
     clear hK KK
     (try simp only [Act.put, nm1, nm2, nm3])
     refine wpAnyH_one (i := 4) (by kernel_rfl) rfl (fun KK hK => ?_)
     go_simp
     refine (HC2.out _ HE257.out.1).mono ?_
     rintro e w262 ⟨fv, rfl, hk⟩
     obtain ⟨fo, fc, hv, hzz⟩ := id hk.out.2.1.1
     clear hzz
     subst hv
     have HUf : Hid (RdX rolE w262 (.slice fo (sortO rolLt l1).length fc) (sortO rolLt l1) (fun k => YB < k)) := hk.out.2.2.rdX hk.out.2.1 (fun k q1 q2 => by have := lt_of_heap HY255.out; show _ < _; omega)
     have HS263 := Lib.hid (((hk.out.1).block _ (lt_of_heap HS253.out) (fun x => x)).trans HS253.out)
     have HX264 := Lib.hid (((hk.out.1).block _ (lt_of_heap HX254.out) (fun x => x)).trans HX254.out)
     have HY265 := Lib.hid (((hk.out.1).block _ (lt_of_heap HY255.out) (fun x => x)).trans HY255.out)
     have HE266 := Lib.hid (RdX.keeps HE256.out (hk.out.1) (fun _ _ _ x => x))
     have HE267 := Lib.hid (RdX.keeps HE257.out (hk.out.1) (fun _ _ _ x => x))
     have HE268 := Lib.hid (RdX.keeps HE258.out (hk.out.1) (fun _ _ _ x => x))
     have HE269 := Lib.hid (QRX.keeps HE259.out (hk.out.1) (fun _ _ _ x => x))
     have HE270 := Lib.hid (RdX.keeps HUu.out (hk.out.1) (fun _ _ _ x => x))
     have HK271 := Lib.hid (HK260.out.trans hk.out.1)
     clear hk HC2 HS253 HX254 HY255 HE256 HE257 HE258 HE259 HUu HK260
     go_simp
     refine hK.out _ _ ?s_272 (fun hHeld => ?_)
     case s_272 => exact HMK59.out _ HS263.out
     clear hK KK
     (try simp only [Act.put, nm1, nm2, nm3])
     refine wpAnyH_one (i := 7) (by kernel_rfl) rfl (fun KK hK => ?_)
     go_simp
     refine (HC3.out _ HE268.out.1).mono ?_
     rintro e w273 ⟨mv, rfl, hk⟩
     obtain ⟨mo, mc, hv, hzz⟩ := id hk.out.2.1.1
     clear hzz
     subst hv
     have HUm : Hid (RdX rolE w273 (.slice mo (sortO rolLt l2).length mc) (sortO rolLt l2) (fun k => YB < k)) := hk.out.2.2.rdX hk.out.2.1 (fun k q1 q2 => by have := lt_of_heap HY265.out; show _ < _; omega)
     have HS274 := Lib.hid (((hk.out.1).block _ (lt_of_heap HS263.out) (fun x => x)).trans HS263.out)
     have HX275 := Lib.hid (((hk.out.1).block _ (lt_of_heap HX264.out) (fun x => x)).trans HX264.out)
     have HY276 := Lib.hid (((hk.out.1).block _ (lt_of_heap HY265.out) (fun x => x)).trans HY265.out)
     have HE277 := Lib.hid (RdX.keeps HE266.out (hk.out.1) (fun _ _ _ x => x))
     have HE278 := Lib.hid (RdX.keeps HE267.out (hk.out.1) (fun _ _ _ x => x))
     have HE279 := Lib.hid (RdX.keeps HE268.out (hk.out.1) (fun _ _ _ x => x))
     have HE280 := Lib.hid (QRX.keeps HE269.out (hk.out.1) (fun _ _ _ x => x))
     have HE281 := Lib.hid (RdX.keeps HE270.out (hk.out.1) (fun _ _ _ x => x))
     have HE282 := Lib.hid (RdX.keeps HUf.out (hk.out.1) (fun _ _ _ x => x))
     have HK283 := Lib.hid (HK271.out.trans hk.out.1)
     clear hk HC3 HS263 HX264 HY265 HE266 HE267 HE268 HE269 HE270 HUf HK271
     go_simp
     refine hK.out _ _ ?s_284 (fun hHeld => ?_)
     case s_284 => exact HMK59.out _ HS274.out
     clear hK KK
     (try simp only [Act.put, nm1, nm2, nm3])
     refine wpAnyH_take_at (i := 8) (v := ?v8_285) rfl (by kernel_rfl) (by kernel_rfl) (by kernel_rfl) (fun _ _ _ h => h) (Or.inl ⟨by rfl, ?y8_285⟩) hHeld ?r8_285
     case y8_285 => (intro w hSw; (try dsimp only at hSw); go_simp; first | done | with_reducible rfl)
     (try simp only [Act.put, nm1, nm2, nm3])
     refine wpAnyH_one (i := 10) (by kernel_rfl) rfl (fun KK hK => ?_)
     obtain ⟨Yc0, Yf0, Yc1, Yf1, Yc2, Yf2, Yc3, Yf3⟩ := cf4 HY276.out
     have hs0 : (w273.setCell ⟨YB, 0, none⟩ (.slice uo (sortO stmLt ls).length uc)).heap[YB]? = some (.cells #[.slice uo (sortO stmLt ls).length uc, .slice none 0 0, .slice none 0 0, .slice none 0 0] 57) := heap_set (HY276.out) 0 (.slice uo (sortO stmLt ls).length uc)
     have hs1 : ((w273.setCell ⟨YB, 0, none⟩ (.slice uo (sortO stmLt ls).length uc)).setCell ⟨YB, 1, none⟩ (.slice fo (sortO rolLt l1).length fc)).heap[YB]? = some (.cells #[.slice uo (sortO stmLt ls).length uc, .slice fo (sortO rolLt l1).length fc, .slice none 0 0, .slice none 0 0] 57) := heap_set (hs0) 1 (.slice fo (sortO rolLt l1).length fc)
     have hs2 : (((w273.setCell ⟨YB, 0, none⟩ (.slice uo (sortO stmLt ls).length uc)).setCell ⟨YB, 1, none⟩ (.slice fo (sortO rolLt l1).length fc)).setCell ⟨YB, 2, none⟩ (.slice mo (sortO rolLt l2).length mc)).heap[YB]? = some (.cells #[.slice uo (sortO stmLt ls).length uc, .slice fo (sortO rolLt l1).length fc, .slice mo (sortO rolLt l2).length mc, .slice none 0 0] 57) := heap_set (hs1) 2 (.slice mo (sortO rolLt l2).length mc)
     have hs3 : ((((w273.setCell ⟨YB, 0, none⟩ (.slice uo (sortO stmLt ls).length uc)).setCell ⟨YB, 1, none⟩ (.slice fo (sortO rolLt l1).length fc)).setCell ⟨YB, 2, none⟩ (.slice mo (sortO rolLt l2).length mc)).setCell ⟨YB, 3, none⟩ (.slice none 0 0)).heap[YB]? = some (.cells #[.slice uo (sortO stmLt ls).length uc, .slice fo (sortO rolLt l1).length fc, .slice mo (sortO rolLt l2).length mc, .slice none 0 0] 57) := heap_set (hs2) 3 (.slice none 0 0)
     have hkE : Keeps (fun q => q = YB) w273 ((((w273.setCell ⟨YB, 0, none⟩ (.slice uo (sortO stmLt ls).length uc)).setCell ⟨YB, 1, none⟩ (.slice fo (sortO rolLt l1).length fc)).setCell ⟨YB, 2, none⟩ (.slice mo (sortO rolLt l2).length mc)).setCell ⟨YB, 3, none⟩ (.slice none 0 0)) := (Keeps.setCell (S := fun q => q = YB) (Keeps.setCell (S := fun q => q = YB) (Keeps.setCell (S := fun q => q = YB) (Keeps.setCell (S := fun q => q = YB) (Keeps.refl _ _) (p := ⟨YB, 0, none⟩) (fun _ => rfl) _) (p := ⟨YB, 1, none⟩) (fun _ => rfl) _) (p := ⟨YB, 2, none⟩) (fun _ => rfl) _) (p := ⟨YB, 3, none⟩) (fun _ => rfl) _)
     have HY286 := Lib.hid hs3
     have HS287 := Lib.hid (((hkE).block _ (lt_of_heap HS274.out) (by have := HN237.out; show ¬ _ = _; omega)).trans HS274.out)
     have HX288 := Lib.hid (((hkE).block _ (lt_of_heap HX275.out) (by have := HN237.out; show ¬ _ = _; omega)).trans HX275.out)
     have HE289 := Lib.hid (RdX.keeps HE277.out (hkE) (fun q hq hp e => by have hp : WA.heap.size < q ∧ q < YB := hp; have e : q = _ := e; have := HN237.out; omega))
     have HE290 := Lib.hid (RdX.keeps HE278.out (hkE) (fun q hq hp e => by have hp : q < W.heap.size ∧ q < YB := hp; have e : q = _ := e; have := HN237.out; omega))
     have HE291 := Lib.hid (RdX.keeps HE279.out (hkE) (fun q hq hp e => by have hp : q < W.heap.size ∧ q < YB := hp; have e : q = _ := e; have := HN237.out; omega))
     have HE292 := Lib.hid (QRX.keeps HE280.out (hkE) (fun q hq hp e => by have hp : P q ∧ q < W.heap.size ∧ q < YB := hp; have e : q = _ := e; have := HN237.out; omega))
     have HE293 := Lib.hid (RdX.keeps HE281.out (hkE) (fun q hq hp e => by have hp : YB < q := hp; have e : q = _ := e; have := HN237.out; omega))
     have HE294 := Lib.hid (RdX.keeps HE282.out (hkE) (fun q hq hp e => by have hp : YB < q := hp; have e : q = _ := e; have := HN237.out; omega))
     have HE295 := Lib.hid (RdX.keeps HUm.out (hkE) (fun q hq hp e => by have hp : YB < q := hp; have e : q = _ := e; have := HN237.out; omega))
     have HK296 := Lib.hid (HK283.out.trans_new hkE (fun q hq e => by have := HN237.out; omega))
     go_simp
     refine hK.out _ _ ?s_297 (fun hHeld => ?_)
     case s_297 => exact HMK59.out _ HS287.out
     clear hK KK
     (try simp only [Act.put, nm1, nm2, nm3])
     refine wpAnyH_done (by kernel_rfl) ?_ _
     refine NoPanic.normal ?_
     clear hHeld HMK59
     clear hkE hs0 hs1 hs2 hs3 HY276 HS274 HX275 HE277 HE278 HE279 HE280 HE281 HE282 HUm HK283
     clear Yc0 Yf0 Yc1 Yf1 Yc2 Yf2 Yc3 Yf3
     generalize ((((w273.setCell ⟨YB, 0, none⟩ (.slice uo (sortO stmLt ls).length uc)).setCell ⟨YB, 1, none⟩ (.slice fo (sortO rolLt l1).length fc)).setCell ⟨YB, 2, none⟩ (.slice mo (sortO rolLt l2).length mc)).setCell ⟨YB, 3, none⟩ (.slice none 0 0)) = wq at *
     go_wp2_with fail
     go_meet
     case rel => exact ⟨YB, uo, fo, mo, uc, fc, mc, rfl, HK296.out, by have := HN237.out; omega, HS287.out, HX288.out, HY286.out, HE292.out.into (Keeps.refl (fun _ => False) _) (fun _ _ _ x => x) (fun q hq hp => by have hp : P q ∧ q < W.heap.size ∧ q < YB := hp; have := HN237.out; exact ⟨hp.1, hp.2.1⟩), HE293.out.into (Keeps.refl (fun _ => False) _) (fun _ _ _ x => x) (fun q hq hp => by have hp : YB < q := hp; have := HN237.out; show _ ∧ _; omega), HE294.out.into (Keeps.refl (fun _ => False) _) (fun _ _ _ x => x) (fun q hq hp => by have hp : YB < q := hp; have := HN237.out; show _ ∧ _; omega), HE295.out.into (Keeps.refl (fun _ => False) _) (fun _ _ _ x => x) (fun q hq hp => by have hp : YB < q := hp; have := HN237.out; show _ ∧ _; omega)⟩
   case rest =>
    obtain ⟨YB, uo, fo, mo, uc, fc, mc, rfl, HO⟩ := hcut
    clear HK1 HN HS1 HX1 HLS HR1 HR2 HR3 HC1 HC2 HC3
    generalize wc = wq at *
    have HKq := Lib.hid HO.out.1
    have HNq := Lib.hid HO.out.2.1
    have HSq := Lib.hid HO.out.2.2.1
    have HXq := Lib.hid HO.out.2.2.2.1
    have HYq := Lib.hid HO.out.2.2.2.2.1
    have HQq := Lib.hid HO.out.2.2.2.2.2.1
    have HU0 := Lib.hid HO.out.2.2.2.2.2.2.1
    have HU1 := Lib.hid HO.out.2.2.2.2.2.2.2.1
    have HU2 := Lib.hid HO.out.2.2.2.2.2.2.2.2
    clear HO
    obtain ⟨Sc0, Sf0, Sc1, Sf1, Sc2, Sf2, Sc3, Sf3⟩ := cf4 HSq.out
    go_upto_region 9 with fail
    clear Sc0 Sf0 Sc1 Sf1 Sc2 Sf2 Sc3 Sf3
    obtain ⟨LQ, hLQ⟩ : ∃ q, wq.heap.size = q := ⟨_, rfl⟩
    have HE298 : Hid (QRX wq (.slice ao3 n3 cp3) l3 (fun k => P k ∧ k < W.heap.size ∧ k < LQ)) := HQq.out.into (Keeps.refl (fun _ => False) _) (fun _ _ _ x => x) (fun q hq hp => by have hp : P q ∧ q < W.heap.size := hp; have := hLQ; show P q ∧ q < W.heap.size ∧ q < LQ; first | omega | (obtain ⟨hp1, hp2⟩ := hp; refine ⟨hp1, ?_⟩; omega) | (refine ⟨hp, ?_⟩; omega))
    clear HQq
    have HE299 : Hid (RdX stmE wq (.slice uo (sortO stmLt ls).length uc) (sortO stmLt ls) (fun k => WA.heap.size < k ∧ k ≠ YB ∧ k < LQ)) := HU0.out.into (Keeps.refl (fun _ => False) _) (fun _ _ _ x => x) (fun q hq hp => by have hp : WA.heap.size < q ∧ q ≠ YB := hp; have := hLQ; show WA.heap.size < q ∧ q ≠ YB ∧ q < LQ; first | omega | (obtain ⟨hp1, hp2⟩ := hp; refine ⟨hp1, ?_⟩; omega) | (refine ⟨hp, ?_⟩; omega))
    clear HU0
    have HE300 : Hid (RdX rolE wq (.slice fo (sortO rolLt l1).length fc) (sortO rolLt l1) (fun k => WA.heap.size < k ∧ k ≠ YB ∧ k < LQ)) := HU1.out.into (Keeps.refl (fun _ => False) _) (fun _ _ _ x => x) (fun q hq hp => by have hp : WA.heap.size < q ∧ q ≠ YB := hp; have := hLQ; show WA.heap.size < q ∧ q ≠ YB ∧ q < LQ; first | omega | (obtain ⟨hp1, hp2⟩ := hp; refine ⟨hp1, ?_⟩; omega) | (refine ⟨hp, ?_⟩; omega))
    clear HU1
    have HE301 : Hid (RdX rolE wq (.slice mo (sortO rolLt l2).length mc) (sortO rolLt l2) (fun k => WA.heap.size < k ∧ k ≠ YB ∧ k < LQ)) := HU2.out.into (Keeps.refl (fun _ => False) _) (fun _ _ _ x => x) (fun q hq hp => by have hp : WA.heap.size < q ∧ q ≠ YB := hp; have := hLQ; show WA.heap.size < q ∧ q ≠ YB ∧ q < LQ; first | omega | (obtain ⟨hp1, hp2⟩ := hp; refine ⟨hp1, ?_⟩; omega) | (refine ⟨hp, ?_⟩; omega))
    clear HU2
    have HN302 : Hid ((W.heap.size < WA.heap.size ∧ WA.heap.size < YB) ∧ W.heap.size < LQ ∧ WA.heap.size < LQ ∧ YB < LQ ∧ W.heap.size ≤ LQ) := ⟨HNq.out, by
     have hz := HKq.out.size
     have l0 := lt_of_heap HSq.out
     have l1 := lt_of_heap HXq.out
     have l2 := lt_of_heap HYq.out
     refine ⟨?_, ?_, ?_, ?_⟩ <;> omega⟩
    clear HNq
    have HLQ : Hid (LQ ≤ wq.heap.size) := by show _ ≤ _; omega
    clear hLQ
    go_loopg [34] n3 (fun g t wx => ∃ (i : Nat) (ao : Option Addr) (cap : Nat), i ≤ n3 ∧ g = n3 - i ∧ t = .int .i64 i ∧ Hid (Keeps (fun _ => False) W wx ∧ LQ ≤ wx.heap.size ∧ wx.heap[W.heap.size]? = some (.cells #[.slice ao0 n0 cp0, .slice ao1 n1 cp1, .slice ao2 n2 cp2, .slice ao3 n3 cp3] 57) ∧ wx.heap[WA.heap.size]? = some (.cells #[.slice none 0 0, .slice none 0 0, .slice none 0 0, .slice none 0 0] 57) ∧ wx.heap[YB]? = some (.cells #[.slice uo (sortO stmLt ls).length uc, .slice fo (sortO rolLt l1).length fc, .slice mo (sortO rolLt l2).length mc, .slice ao i cap] 57) ∧ QRX wx (.slice ao3 n3 cp3) l3 (fun k => P k ∧ k < W.heap.size ∧ k < LQ) ∧ RdX stmE wx (.slice uo (sortO stmLt ls).length uc) (sortO stmLt ls) (fun k => WA.heap.size < k ∧ k ≠ YB ∧ k < LQ) ∧ RdX rolE wx (.slice fo (sortO rolLt l1).length fc) (sortO rolLt l1) (fun k => WA.heap.size < k ∧ k ≠ YB ∧ k < LQ) ∧ RdX rolE wx (.slice mo (sortO rolLt l2).length mc) (sortO rolLt l2) (fun k => WA.heap.size < k ∧ k ≠ YB ∧ k < LQ) ∧ QRow LQ wx (.slice ao i cap) (l3.take i)))
    case atStart => exact ⟨0, none, 0, Nat.zero_le _, rfl, rfl, HKq.out, HLQ.out, HSq.out, HXq.out, HYq.out, HE298.out, HE299.out, HE300.out, HE301.out, QRow.nil _ _⟩
    case round =>
     obtain ⟨i, ao, cap, hi, rfl, rfl, HI⟩ := hrel
     clear HLQ HKq HSq HXq HYq HE298 HE299 HE300 HE301
     by_cases hlt : i < n3
     ·have hiI : (i : Int) < (n3 : Int) := by omega
      have HK1 := Lib.hid HI.out.1
      have HSZ := Lib.hid HI.out.2.1
      have HS1 := Lib.hid HI.out.2.2.1
      have HX1 := Lib.hid HI.out.2.2.2.1
      have HY1 := Lib.hid HI.out.2.2.2.2.1
      have HEX0 := Lib.hid HI.out.2.2.2.2.2.1
      have HEX1 := Lib.hid HI.out.2.2.2.2.2.2.1
      have HEX2 := Lib.hid HI.out.2.2.2.2.2.2.2.1
      have HEX3 := Lib.hid HI.out.2.2.2.2.2.2.2.2.1
      have HQR := Lib.hid HI.out.2.2.2.2.2.2.2.2.2
      clear HI
      have hwi : IntKind.i64.wrap ((i : Int) + 1) = (i : Int) + 1 := IntWalk.i64_in _ (by omega)
      have hicap : i < cp3 := by omega
      obtain ⟨q, hq⟩ : ∃ q, l3[i]? = some q := ⟨_, List.getElem?_eq_getElem (by rw [HN3.out]; exact hlt)⟩
      have HW1 : Hid (q.2.2.2.length ≤ 1000) := HLW.out q (List.mem_of_getElem? hq)
      have HTK : Hid (l3.take (i + 1) = l3.take i ++ [q]) := by show _ = _; rw [List.take_add_one, hq]; rfl
      have HTL : Hid ((l3.take i).length = i) := by show _ = _; rw [List.length_take, HN3.out]; omega
      obtain ⟨lw, hlw1, hlw2, hlw3⟩ := id HEX0.out
      obtain ⟨y, hy⟩ : ∃ y, lw[i]? = some y := ⟨_, List.getElem?_eq_getElem (by rw [hlw1, HN3.out]; exact hlt)⟩
      have hrel := hlw3 i q y hq hy
      obtain ⟨aoz, cpz, ez, hez, hrz⟩ := hlw2.1.1
      obtain ⟨g, off, hao, hg, hcc⟩ := hrz (by rw [hlw1, HN3.out]; omega)
      simp only [Value.slice.injEq] at ez
      obtain ⟨rfl, hzz, rfl⟩ := ez
      subst hao
      have hc := hcc i y hy
      obtain ⟨yk, ⟨ya1, ya2⟩, ⟨yb1, yb2⟩, yo, yn, yc⟩ := y
      have HRQ : Hid (yk = q.1 ∧ (ya1, ya2) = q.2.1 ∧ (yb1, yb2) = q.2.2.1 ∧ ReadsS wr (.slice yo yn yc) q.2.2.2) := ⟨hrel.1, hrel.2.1, hrel.2.2.1, hrel.2.2.2.1⟩
      clear hcc hrz hez hzz hq hy hrel hlw1 hlw2 hlw3 lw
      have c0 : wr.cell? ⟨g, off + i * 6, none⟩ = some (.int .i64 yk) := hc 0 _ rfl
      have c1 : wr.cell? ⟨g, off + i * 6 + 1, none⟩ = some (.string ⟨ya1.toArray⟩) := hc 1 _ rfl
      have c2 : wr.cell? ⟨g, off + i * 6 + 2, none⟩ = some (.string ⟨ya2.toArray⟩) := hc 2 _ rfl
      have c3 : wr.cell? ⟨g, off + i * 6 + 3, none⟩ = some (.string ⟨yb1.toArray⟩) := hc 3 _ rfl
      have c4 : wr.cell? ⟨g, off + i * 6 + 4, none⟩ = some (.string ⟨yb2.toArray⟩) := hc 4 _ rfl
      have c5 : wr.cell? ⟨g, off + i * 6 + 5, none⟩ = some (.slice yo yn yc) := hc 5 _ rfl
      clear hc
      obtain ⟨lv, d1, d2, d3⟩ := id HQR.out
      have HD : Hid (lv.length = i ∧ OwnK qE LQ wr (.slice ao i cap) lv ∧ ∀ (j : Nat) (q : Qry) (qv : QV), (l3.take i)[j]? = some q → lv[j]? = some qv → RelQ LQ wr qv q ∧ ∀ k, (whoV qv).ownBlock = some k → (Value.slice ao i cap).ownBlock ≠ some k) := ⟨by rw [d1, HTL.out], d2, d3⟩
      clear d1 d2 d3 HQR
      have hal := (MapKept.heap_alloc wr (.cells #[.int .i64 yk, .string ⟨ya1.toArray⟩, .string ⟨ya2.toArray⟩, .string ⟨yb1.toArray⟩, .string ⟨yb2.toArray⟩, .slice yo yn yc] 49)).1
      obtain ⟨w1, hw1⟩ : ∃ w1, wr.alloc (.cells #[.int .i64 yk, .string ⟨ya1.toArray⟩, .string ⟨ya2.toArray⟩, .string ⟨yb1.toArray⟩, .string ⟨yb2.toArray⟩, .slice yo yn yc] 49) = w1 := ⟨_, rfl⟩
      have hka : Keeps (fun _ => False) wr w1 := by rw [← hw1]; exact (Keeps.refl _ _).alloc _
      have hs1 : w1.heap.size = wr.heap.size + 1 := by rw [← hw1]; simp
      rw [hw1] at hal
      obtain ⟨ZB, hZB⟩ : ∃ b, wr.heap.size = b := ⟨_, rfl⟩
      rw [hZB] at hal
      have HZ1 := Lib.hid hal
      have HKZ : Hid (Keeps (fun _ => False) wr w1 ∧ wr.heap.size = ZB ∧ w1.heap.size = ZB + 1) := ⟨hka, hZB, by omega⟩
      have HC0 : Hid (ReadsS w1 (.slice yo yn yc) q.2.2.2) := HRQ.out.2.2.2.keeps hka
      have HCL : Hid (Calls Tryz.prog 54 #[.slice yo yn yc] w1 fun e W' => ∃ v', e = .returned v' ∧ Hid (Keeps (fun _ => False) w1 W' ∧ OwnS w1.heap.size W' v' q.2.2.2)) := sclone_spec HC0.out (by have := HW1.out; omega)
      have c := fun i => cell_of_heap hal i
      have p0 := c 0
      have p1 := c 1
      have p2 := c 2
      have p3 := c 3
      have p4 := c 4
      have p5 := c 5
      simp only [List.getElem?_toArray, List.getElem?_cons_zero, List.getElem?_cons_succ] at p0 p1 p2 p3 p4 p5
      clear hal hka hs1 c HC0
      go_upto_region 11 with fail
      clear hw1 hZB c0 c1 c2 c3 c4 c5
      go_wp2_with fail
      refine HCL.out.mono ?_
      rintro e w2 ⟨cv, rfl, hk⟩
      obtain ⟨co, cc, hcv, hzz⟩ := id hk.out.2.reads
      clear hzz
      subst hcv
      have HZ2 := Lib.hid ((hk.out.1.block _ (lt_of_heap HZ1.out) (fun x => x)).trans HZ1.out)
      have HK2 : Hid (Keeps (fun _ => False) wr w2 ∧ wr.heap.size = ZB ∧ OwnS (ZB + 1) w2 (.slice co q.2.2.2.length cc) q.2.2.2) := ⟨HKZ.out.1.trans hk.out.1, HKZ.out.2.1, by rw [← HKZ.out.2.2]; exact hk.out.2⟩
      clear hk HCL HZ1 HKZ p0 p1 p2 p3 p4 p5
      have c := fun i => cell_of_heap HZ2.out i
      have p0 := c 0
      have p1 := c 1
      have p2 := c 2
      have p3 := c 3
      have p4 := c 4
      have p5 := c 5
      simp only [List.getElem?_toArray, List.getElem?_cons_zero, List.getElem?_cons_succ] at p0 p1 p2 p3 p4 p5
      have f5 : w2.frozen? ⟨ZB, 5, none⟩ = false := Lib.frozen_of_heap HZ2.out 5
      have HZ3 : Hid ((w2.setCell ⟨ZB, 5, none⟩ (.slice co q.2.2.2.length cc)).heap[ZB]? = some (.cells #[.int .i64 yk, .string ⟨ya1.toArray⟩, .string ⟨ya2.toArray⟩, .string ⟨yb1.toArray⟩, .string ⟨yb2.toArray⟩, .slice co q.2.2.2.length cc] 49)) := heap_set HZ2.out 5 _
      have hkS : Keeps (fun q => q = ZB) w2 (w2.setCell ⟨ZB, 5, none⟩ (.slice co q.2.2.2.length cc)) := Keeps.setCell (S := fun q => q = ZB) (Keeps.refl _ _) (p := ⟨ZB, 5, none⟩) (fun _ => rfl) _
      have HK3 : Hid (Keeps (fun _ => False) wr (w2.setCell ⟨ZB, 5, none⟩ (.slice co q.2.2.2.length cc)) ∧ wr.heap.size = ZB ∧ OwnS (ZB + 1) (w2.setCell ⟨ZB, 5, none⟩ (.slice co q.2.2.2.length cc)) (.slice co q.2.2.2.length cc) q.2.2.2) := ⟨HK2.out.1.trans_new hkS (fun q hq e => by have := HK2.out.2.1; omega), HK2.out.2.1, ownsRow_keeps' HK2.out.2.2 hkS (fun q hq e => by have := own_block HK2.out.2.2 q hq; omega)⟩
      clear hkS HZ2 HK2 c
      go_upto_region 12 with fail
      clear p0 p1 p2 p3 p4 p5 f5
      generalize (w2.setCell ⟨ZB, 5, none⟩ (.slice co q.2.2.2.length cc)) = w3 at *
      have HY3 := Lib.hid ((HK3.out.1.block _ (lt_of_heap HY1.out) (fun x => x)).trans HY1.out)
      have c := fun i => cell_of_heap HZ3.out i
      have p0 := c 0
      have p1 := c 1
      have p2 := c 2
      have p3 := c 3
      have p4 := c 4
      have p5 := c 5
      have cy := cell_of_heap HY3.out 3
      simp only [List.getElem?_toArray, List.getElem?_cons_zero, List.getElem?_cons_succ] at p0 p1 p2 p3 p4 p5 cy
      clear c
      have hlb : LQ ≤ w3.heap.size := Nat.le_trans HSZ.out HK3.out.1.size
      go_wp2_with (at_builtin; refine app_fp (E := qE) rfl _ _ rfl LQ _ lv rfl (HD.out.2.1.keeps (HK3.out.1.alloc _) (fun _ _ x => x)) _ [(yk, (ya1, ya2), (yb1, yb2), co, q.2.2.2.length, cc)] rfl (one_srcK qE w3 (yk, (ya1, ya2), (yb1, yb2), co, q.2.2.2.length, cc) #[.int .i64 yk, .string ⟨ya1.toArray⟩, .string ⟨ya2.toArray⟩, .string ⟨yb1.toArray⟩, .string ⟨yb2.toArray⟩, .slice co q.2.2.2.length cc] rfl).1 (by simp) (by have := HD.out.1; simp; omega) (by simp; omega) ?_)
      intro ao' cap' w5 ho5 hk5 hf5
      rw [HD.out.1] at ho5 hf5
      (try rw [HD.out.1])
      have ka : Keeps (fun _ => False) wr (w3.alloc (.cells #[.int .i64 yk, .string ⟨ya1.toArray⟩, .string ⟨ya2.toArray⟩, .string ⟨yb1.toArray⟩, .string ⟨yb2.toArray⟩, .slice co q.2.2.2.length cc] 49)) := HK3.out.1.alloc _
      have e2A : (w3.alloc (.cells #[.int .i64 yk, .string ⟨ya1.toArray⟩, .string ⟨ya2.toArray⟩, .string ⟨yb1.toArray⟩, .string ⟨yb2.toArray⟩, .slice co q.2.2.2.length cc] 49)).heap.size = w3.heap.size + 1 := by simp
      have hf6 : ∀ k, (Value.slice ao' (i + 1) cap').ownBlock = some k → (Value.slice ao i cap).ownBlock = some k ∨ (w3.alloc (.cells #[.int .i64 yk, .string ⟨ya1.toArray⟩, .string ⟨ya2.toArray⟩, .string ⟨yb1.toArray⟩, .string ⟨yb2.toArray⟩, .slice co q.2.2.2.length cc] 49)).heap.size ≤ k := fun k hk2 => (hf5 k hk2).imp id (fun h => by rw [e2A]; exact h)
      clear hf5
      have HQN : Hid (QRow LQ w5 (.slice ao' (i + 1) cap') (l3.take (i + 1))) := by
       rw [HTK.out]
       refine QRow.snoc (w := w3.alloc (.cells #[.int .i64 yk, .string ⟨ya1.toArray⟩, .string ⟨ya2.toArray⟩, .string ⟨yb1.toArray⟩, .string ⟨yb2.toArray⟩, .slice co q.2.2.2.length cc] 49)) (by rw [HTL.out]; exact HD.out.1) (HD.out.2.1.keeps ka (fun _ _ x => x)) (fun j q qv hj hv => ⟨((HD.out.2.2 j q qv hj hv).1).keeps ka (fun _ _ _ x => x), (HD.out.2.2 j q qv hj hv).2⟩) (qv := (yk, (ya1, ya2), (yb1, yb2), co, q.2.2.2.length, cc)) ⟨HRQ.out.1, HRQ.out.2.1, HRQ.out.2.2.1, (HK3.out.2.2.reads).keeps ((Keeps.refl _ _).alloc _), fun k hk2 => ⟨?_, ?_⟩⟩ (fun k hk2 e => ?_) ho5 hk5 hf6
       ·have e1 := own_block HK3.out.2.2 k hk2
        have e2 := HK3.out.2.1
        have e3 := HSZ.out
        omega
       ·have e1 := own_lt HK3.out.2.2 k hk2
        have e2 : (w3.alloc (.cells #[.int .i64 yk, .string ⟨ya1.toArray⟩, .string ⟨ya2.toArray⟩, .string ⟨yb1.toArray⟩, .string ⟨yb2.toArray⟩, .slice co q.2.2.2.length cc] 49)).heap.size = w3.heap.size + 1 := by simp
        omega
       ·have e1 := own_block HK3.out.2.2 k hk2
        have e2 := own_lt HD.out.2.1 k e
        have e3 := HK3.out.2.1
        omega
      have kG : Keeps (fun q => LQ ≤ q) (w3.alloc (.cells #[.int .i64 yk, .string ⟨ya1.toArray⟩, .string ⟨ya2.toArray⟩, .string ⟨yb1.toArray⟩, .string ⟨yb2.toArray⟩, .slice co q.2.2.2.length cc] 49)) w5 := hk5.mono (fun q _ e => own_block HD.out.2.1 q e)
      have HNI := HN302
      have HS5 := Lib.hid ((kG.block _ (Nat.lt_of_lt_of_le (lt_of_heap HS1.out) ka.size) (by have := HN302.out; show ¬ _ ≤ _; omega)).trans ((ka.block _ (lt_of_heap HS1.out) (fun x => x)).trans HS1.out))
      have HX5 := Lib.hid ((kG.block _ (Nat.lt_of_lt_of_le (lt_of_heap HX1.out) ka.size) (by have := HN302.out; show ¬ _ ≤ _; omega)).trans ((ka.block _ (lt_of_heap HX1.out) (fun x => x)).trans HX1.out))
      have HY5 := Lib.hid ((kG.block _ (Nat.lt_of_lt_of_le (lt_of_heap HY1.out) ka.size) (by have := HN302.out; show ¬ _ ≤ _; omega)).trans ((ka.block _ (lt_of_heap HY1.out) (fun x => x)).trans HY1.out))
      have HF0 : Hid (QRX w5 (.slice (some ⟨g, off, none⟩) n3 cp3) l3 (fun k => P k ∧ k < W.heap.size ∧ k < LQ)) := QRX.keeps (QRX.keeps HEX0.out (ka) (fun _ _ _ x => x)) (kG) (fun q hq hp e => by have hp : P q ∧ q < W.heap.size ∧ q < LQ := hp; have e : LQ ≤ q := e; have := HN302.out; omega)
      have HF1 : Hid (RdX stmE w5 (.slice uo (sortO stmLt ls).length uc) (sortO stmLt ls) (fun k => WA.heap.size < k ∧ k ≠ YB ∧ k < LQ)) := RdX.keeps (RdX.keeps HEX1.out (ka) (fun _ _ _ x => x)) (kG) (fun q hq hp e => by have hp : WA.heap.size < q ∧ q ≠ YB ∧ q < LQ := hp; have e : LQ ≤ q := e; have := HN302.out; omega)
      have HF2 : Hid (RdX rolE w5 (.slice fo (sortO rolLt l1).length fc) (sortO rolLt l1) (fun k => WA.heap.size < k ∧ k ≠ YB ∧ k < LQ)) := RdX.keeps (RdX.keeps HEX2.out (ka) (fun _ _ _ x => x)) (kG) (fun q hq hp e => by have hp : WA.heap.size < q ∧ q ≠ YB ∧ q < LQ := hp; have e : LQ ≤ q := e; have := HN302.out; omega)
      have HF3 : Hid (RdX rolE w5 (.slice mo (sortO rolLt l2).length mc) (sortO rolLt l2) (fun k => WA.heap.size < k ∧ k ≠ YB ∧ k < LQ)) := RdX.keeps (RdX.keeps HEX3.out (ka) (fun _ _ _ x => x)) (kG) (fun q hq hp e => by have hp : WA.heap.size < q ∧ q ≠ YB ∧ q < LQ := hp; have e : LQ ≤ q := e; have := HN302.out; omega)
      have HK5 : Hid (Keeps (fun _ => False) W w5 ∧ LQ ≤ w5.heap.size) := ⟨(HK1.out.trans ka).trans_new kG (fun q hq e => by have := HN302.out; omega), Nat.le_trans HSZ.out (Nat.le_trans ka.size kG.size)⟩
      clear ka kG ho5 hk5 hf6 e2A HD HRQ HZ3 HY3 HK3 HS1 HX1 HY1 HEX0 HEX1 HEX2 HEX3 HK1 hlb p0 p1 p2 p3 p4 p5 cy HNI HW1 HTK HTL
      have HK5a := Lib.hid HK5.out.1
      have HSZ5 := Lib.hid HK5.out.2
      clear HK5 HSZ
      obtain ⟨Yc0, Yf0, Yc1, Yf1, Yc2, Yf2, Yc3, Yf3⟩ := cf4 HY5.out
      have hs0 : (w5.setCell ⟨YB, 3, none⟩ (.slice ao' (i + 1) cap')).heap[YB]? = some (.cells #[.slice uo (sortO stmLt ls).length uc, .slice fo (sortO rolLt l1).length fc, .slice mo (sortO rolLt l2).length mc, .slice ao' (i + 1) cap'] 57) := heap_set (HY5.out) 3 (.slice ao' (i + 1) cap')
      have hkE : Keeps (fun q => q = YB) w5 (w5.setCell ⟨YB, 3, none⟩ (.slice ao' (i + 1) cap')) := (Keeps.setCell (S := fun q => q = YB) (Keeps.refl _ _) (p := ⟨YB, 3, none⟩) (fun _ => rfl) _)
      have HY303 := Lib.hid hs0
      have HS304 := Lib.hid (((hkE).block _ (lt_of_heap HS5.out) (by have := HN302.out; show ¬ _ = _; omega)).trans HS5.out)
      have HX305 := Lib.hid (((hkE).block _ (lt_of_heap HX5.out) (by have := HN302.out; show ¬ _ = _; omega)).trans HX5.out)
      have HE306 := Lib.hid (QRX.keeps HF0.out (hkE) (fun q hq hp e => by have hp : P q ∧ q < W.heap.size ∧ q < LQ := hp; have e : q = _ := e; have := HN302.out; omega))
      have HE307 := Lib.hid (RdX.keeps HF1.out (hkE) (fun q hq hp e => by have hp : WA.heap.size < q ∧ q ≠ YB ∧ q < LQ := hp; have e : q = _ := e; have := HN302.out; omega))
      have HE308 := Lib.hid (RdX.keeps HF2.out (hkE) (fun q hq hp e => by have hp : WA.heap.size < q ∧ q ≠ YB ∧ q < LQ := hp; have e : q = _ := e; have := HN302.out; omega))
      have HE309 := Lib.hid (RdX.keeps HF3.out (hkE) (fun q hq hp e => by have hp : WA.heap.size < q ∧ q ≠ YB ∧ q < LQ := hp; have e : q = _ := e; have := HN302.out; omega))
      have HE310 := Lib.hid (QRow.keeps HQN.out (hkE) (fun q hq _ e => by have e : q = _ := e; have := HN302.out; omega))
      have HE311 := Lib.hid (Nat.le_trans HSZ5.out (hkE).size)
      have HK312 := Lib.hid (HK5a.out.trans_new hkE (fun q hq e => by have := HN302.out; omega))
      go_upto_region 13 with fail
      clear hkE hs0 HY5 HS5 HX5 HF0 HF1 HF2 HF3 HQN HSZ5 HK5a
      clear Yc0 Yf0 Yc1 Yf1 Yc2 Yf2 Yc3 Yf3
      generalize (w5.setCell ⟨YB, 3, none⟩ (.slice ao' (i + 1) cap')) = w6 at *
      go_wp2_with fail
      go_roundg (n3 - (i + 1))
      case measure => omega
      case rel => exact ⟨i + 1, ao', cap', by omega, rfl, by go_num, HK312.out, HE311.out, HS304.out, HX305.out, HY303.out, HE306.out, HE307.out, HE308.out, HE309.out, HE310.out⟩
     ·obtain rfl : n3 = i := by omega
      have hiI : ¬ (n3 : Int) < (n3 : Int) := by omega
      have HK1 := Lib.hid HI.out.1
      have HSZ := Lib.hid HI.out.2.1
      have HS1 := Lib.hid HI.out.2.2.1
      have HX1 := Lib.hid HI.out.2.2.2.1
      have HY1 := Lib.hid HI.out.2.2.2.2.1
      have HEX0 := Lib.hid HI.out.2.2.2.2.2.1
      have HEX1 := Lib.hid HI.out.2.2.2.2.2.2.1
      have HEX2 := Lib.hid HI.out.2.2.2.2.2.2.2.1
      have HEX3 := Lib.hid HI.out.2.2.2.2.2.2.2.2.1
      have HQR := Lib.hid HI.out.2.2.2.2.2.2.2.2.2
      clear HI
      have HQ3 : Hid (QRX wr (.slice ao n3 cap) l3 (fun k => LQ ≤ k)) := by
       have q := HQR.out
       rw [List.take_of_length_le (by rw [HN3.out]; exact Nat.le_refl _)] at q
       exact q.rdX (fun k hk _ => hk)
      clear HQR HSZ
      obtain ⟨Yc0, Yf0, Yc1, Yf1, Yc2, Yf2, Yc3, Yf3⟩ := cf4 HY1.out
      obtain ⟨Xc0, Xf0, Xc1, Xf1, Xc2, Xf2, Xc3, Xf3⟩ := cf4 HX1.out
      have hs0 : (wr.setCell ⟨WA.heap.size, 0, none⟩ (.slice uo (sortO stmLt ls).length uc)).heap[WA.heap.size]? = some (.cells #[.slice uo (sortO stmLt ls).length uc, .slice none 0 0, .slice none 0 0, .slice none 0 0] 57) := heap_set (HX1.out) 0 (.slice uo (sortO stmLt ls).length uc)
      have hs1 : ((wr.setCell ⟨WA.heap.size, 0, none⟩ (.slice uo (sortO stmLt ls).length uc)).setCell ⟨WA.heap.size, 1, none⟩ (.slice fo (sortO rolLt l1).length fc)).heap[WA.heap.size]? = some (.cells #[.slice uo (sortO stmLt ls).length uc, .slice fo (sortO rolLt l1).length fc, .slice none 0 0, .slice none 0 0] 57) := heap_set (hs0) 1 (.slice fo (sortO rolLt l1).length fc)
      have hs2 : (((wr.setCell ⟨WA.heap.size, 0, none⟩ (.slice uo (sortO stmLt ls).length uc)).setCell ⟨WA.heap.size, 1, none⟩ (.slice fo (sortO rolLt l1).length fc)).setCell ⟨WA.heap.size, 2, none⟩ (.slice mo (sortO rolLt l2).length mc)).heap[WA.heap.size]? = some (.cells #[.slice uo (sortO stmLt ls).length uc, .slice fo (sortO rolLt l1).length fc, .slice mo (sortO rolLt l2).length mc, .slice none 0 0] 57) := heap_set (hs1) 2 (.slice mo (sortO rolLt l2).length mc)
      have hs3 : ((((wr.setCell ⟨WA.heap.size, 0, none⟩ (.slice uo (sortO stmLt ls).length uc)).setCell ⟨WA.heap.size, 1, none⟩ (.slice fo (sortO rolLt l1).length fc)).setCell ⟨WA.heap.size, 2, none⟩ (.slice mo (sortO rolLt l2).length mc)).setCell ⟨WA.heap.size, 3, none⟩ (.slice ao n3 cap)).heap[WA.heap.size]? = some (.cells #[.slice uo (sortO stmLt ls).length uc, .slice fo (sortO rolLt l1).length fc, .slice mo (sortO rolLt l2).length mc, .slice ao n3 cap] 57) := heap_set (hs2) 3 (.slice ao n3 cap)
      have hkE : Keeps (fun q => q = WA.heap.size) wr ((((wr.setCell ⟨WA.heap.size, 0, none⟩ (.slice uo (sortO stmLt ls).length uc)).setCell ⟨WA.heap.size, 1, none⟩ (.slice fo (sortO rolLt l1).length fc)).setCell ⟨WA.heap.size, 2, none⟩ (.slice mo (sortO rolLt l2).length mc)).setCell ⟨WA.heap.size, 3, none⟩ (.slice ao n3 cap)) := (Keeps.setCell (S := fun q => q = WA.heap.size) (Keeps.setCell (S := fun q => q = WA.heap.size) (Keeps.setCell (S := fun q => q = WA.heap.size) (Keeps.setCell (S := fun q => q = WA.heap.size) (Keeps.refl _ _) (p := ⟨WA.heap.size, 0, none⟩) (fun _ => rfl) _) (p := ⟨WA.heap.size, 1, none⟩) (fun _ => rfl) _) (p := ⟨WA.heap.size, 2, none⟩) (fun _ => rfl) _) (p := ⟨WA.heap.size, 3, none⟩) (fun _ => rfl) _)
      have HX313 := Lib.hid hs3
      have HS314 := Lib.hid (((hkE).block _ (lt_of_heap HS1.out) (by have := HN302.out; show ¬ _ = _; omega)).trans HS1.out)
      have HY315 := Lib.hid (((hkE).block _ (lt_of_heap HY1.out) (by have := HN302.out; show ¬ _ = _; omega)).trans HY1.out)
      have HE316 := Lib.hid (RdX.keeps HEX1.out (hkE) (fun q hq hp e => by have hp : WA.heap.size < q ∧ q ≠ YB ∧ q < LQ := hp; have e : q = _ := e; have := HN302.out; omega))
      have HE317 := Lib.hid (RdX.keeps HEX2.out (hkE) (fun q hq hp e => by have hp : WA.heap.size < q ∧ q ≠ YB ∧ q < LQ := hp; have e : q = _ := e; have := HN302.out; omega))
      have HE318 := Lib.hid (RdX.keeps HEX3.out (hkE) (fun q hq hp e => by have hp : WA.heap.size < q ∧ q ≠ YB ∧ q < LQ := hp; have e : q = _ := e; have := HN302.out; omega))
      have HE319 := Lib.hid (QRX.keeps HQ3.out (hkE) (fun q hq hp e => by have hp : LQ ≤ q := hp; have e : q = _ := e; have := HN302.out; omega))
      have HK320 := Lib.hid (HK1.out.trans_new hkE (fun q hq e => by have := HN302.out; omega))
      go_wp2_with fail
      clear hkE hs0 hs1 hs2 hs3 HX1 HS1 HY1 HEX1 HEX2 HEX3 HQ3 HK1
      clear Yc0 Yf0 Yc1 Yf1 Yc2 Yf2 Yc3 Yf3 Xc0 Xf0 Xc1 Xf1 Xc2 Xf2 Xc3 Xf3
      generalize ((((wr.setCell ⟨WA.heap.size, 0, none⟩ (.slice uo (sortO stmLt ls).length uc)).setCell ⟨WA.heap.size, 1, none⟩ (.slice fo (sortO rolLt l1).length fc)).setCell ⟨WA.heap.size, 2, none⟩ (.slice mo (sortO rolLt l2).length mc)).setCell ⟨WA.heap.size, 3, none⟩ (.slice ao n3 cap)) = WE at *
      obtain ⟨Xc0, Xf0, Xc1, Xf1, Xc2, Xf2, Xc3, Xf3⟩ := cf4 HX313.out
      refine bodyPost_ret (v := .agg #[.slice uo (sortO stmLt ls).length uc, .slice fo (sortO rolLt l1).length fc, .slice mo (sortO rolLt l2).length mc, .slice ao n3 cap]) (by simp [results, Tryz.results39, go_sem, *]) rfl ?_
      exact ⟨_, _, _, _, rfl, HK320.out, by show RdX stmE _ _ (sortO stmLt (l0.map normS)) P; rw [HLSE.out]; exact HE316.out.into (Keeps.refl (fun _ => False) _) (fun _ _ _ x => x) (fun q hq hp => HPP.out q (by have hp : WA.heap.size < q ∧ q ≠ YB ∧ q < LQ := hp; have := HN302.out; omega)), HE317.out.into (Keeps.refl (fun _ => False) _) (fun _ _ _ x => x) (fun q hq hp => HPP.out q (by have hp : WA.heap.size < q ∧ q ≠ YB ∧ q < LQ := hp; have := HN302.out; omega)), HE318.out.into (Keeps.refl (fun _ => False) _) (fun _ _ _ x => x) (fun q hq hp => HPP.out q (by have hp : WA.heap.size < q ∧ q ≠ YB ∧ q < LQ := hp; have := HN302.out; omega)), HE319.out.into (Keeps.refl (fun _ => False) _) (fun _ _ _ x => x) (fun q hq hp => HPP.out q (by have hp : LQ ≤ q := hp; have := HN302.out; omega))⟩
end Go.Proofs.YtcdfpnlaklaafaaGreat
