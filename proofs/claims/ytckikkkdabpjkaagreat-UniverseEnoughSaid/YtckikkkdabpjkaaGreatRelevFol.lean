/-
 What counts, what is bound, what is followed: the program's.
-/
import Derived.Test.YtckikkkdabpjkaaGreatKitSq
import Derived.Test.YtckikkkdabpjkaaGreatMA
import Derived.Test.YtckikkkdabpjkaaGreatMG
import Derived.Test.YtckikkkdabpjkaaGreatCompM
import Derived.Test.YtckikkkdabpjkaaGreatME
set_option linter.unusedVariables false
set_option linter.unusedSimpArgs false
set_option linter.unnecessarySimpa false
namespace Go.Proofs.YtckikkkdabpjkaaGreat
open Go.ChangeShapes Go.WideShapes Go.ChangeAt Go.RowKit Go.Deep
theorem cf7 {W : World} {T : TypeId} {B : Nat} {u0 u1 u2 u3 u4 u5 u6 : Value} (h : W.heap[B]? = some (.cells #[u0, u1, u2, u3, u4, u5, u6] T)) : W.cell? ⟨B, 0, none⟩ = some u0 ∧ W.frozen? ⟨B, 0, none⟩ = false ∧ W.cell? ⟨B, 1, none⟩ = some u1 ∧ W.frozen? ⟨B, 1, none⟩ = false ∧ W.cell? ⟨B, 2, none⟩ = some u2 ∧ W.frozen? ⟨B, 2, none⟩ = false ∧ W.cell? ⟨B, 3, none⟩ = some u3 ∧ W.frozen? ⟨B, 3, none⟩ = false ∧ W.cell? ⟨B, 4, none⟩ = some u4 ∧ W.frozen? ⟨B, 4, none⟩ = false ∧ W.cell? ⟨B, 5, none⟩ = some u5 ∧ W.frozen? ⟨B, 5, none⟩ = false ∧ W.cell? ⟨B, 6, none⟩ = some u6 ∧ W.frozen? ⟨B, 6, none⟩ = false := ⟨by rw [cell_of_heap h]; rfl, Lib.frozen_of_heap h 0, by rw [cell_of_heap h]; rfl, Lib.frozen_of_heap h 1, by rw [cell_of_heap h]; rfl, Lib.frozen_of_heap h 2, by rw [cell_of_heap h]; rfl, Lib.frozen_of_heap h 3, by rw [cell_of_heap h]; rfl, Lib.frozen_of_heap h 4, by rw [cell_of_heap h]; rfl, Lib.frozen_of_heap h 5, by rw [cell_of_heap h]; rfl, Lib.frozen_of_heap h 6⟩
theorem cf11 {W : World} {T : TypeId} {B : Nat} {u0 u1 u2 u3 u4 u5 u6 u7 u8 u9 u10 : Value} (h : W.heap[B]? = some (.cells #[u0, u1, u2, u3, u4, u5, u6, u7, u8, u9, u10] T)) : W.cell? ⟨B, 0, none⟩ = some u0 ∧ W.frozen? ⟨B, 0, none⟩ = false ∧ W.cell? ⟨B, 1, none⟩ = some u1 ∧ W.frozen? ⟨B, 1, none⟩ = false ∧ W.cell? ⟨B, 2, none⟩ = some u2 ∧ W.frozen? ⟨B, 2, none⟩ = false ∧ W.cell? ⟨B, 3, none⟩ = some u3 ∧ W.frozen? ⟨B, 3, none⟩ = false ∧ W.cell? ⟨B, 4, none⟩ = some u4 ∧ W.frozen? ⟨B, 4, none⟩ = false ∧ W.cell? ⟨B, 5, none⟩ = some u5 ∧ W.frozen? ⟨B, 5, none⟩ = false ∧ W.cell? ⟨B, 6, none⟩ = some u6 ∧ W.frozen? ⟨B, 6, none⟩ = false ∧ W.cell? ⟨B, 7, none⟩ = some u7 ∧ W.frozen? ⟨B, 7, none⟩ = false ∧ W.cell? ⟨B, 8, none⟩ = some u8 ∧ W.frozen? ⟨B, 8, none⟩ = false ∧ W.cell? ⟨B, 9, none⟩ = some u9 ∧ W.frozen? ⟨B, 9, none⟩ = false ∧ W.cell? ⟨B, 10, none⟩ = some u10 ∧ W.frozen? ⟨B, 10, none⟩ = false := ⟨by rw [cell_of_heap h]; rfl, Lib.frozen_of_heap h 0, by rw [cell_of_heap h]; rfl, Lib.frozen_of_heap h 1, by rw [cell_of_heap h]; rfl, Lib.frozen_of_heap h 2, by rw [cell_of_heap h]; rfl, Lib.frozen_of_heap h 3, by rw [cell_of_heap h]; rfl, Lib.frozen_of_heap h 4, by rw [cell_of_heap h]; rfl, Lib.frozen_of_heap h 5, by rw [cell_of_heap h]; rfl, Lib.frozen_of_heap h 6, by rw [cell_of_heap h]; rfl, Lib.frozen_of_heap h 7, by rw [cell_of_heap h]; rfl, Lib.frozen_of_heap h 8, by rw [cell_of_heap h]; rfl, Lib.frozen_of_heap h 9, by rw [cell_of_heap h]; rfl, Lib.frozen_of_heap h 10⟩
set_option maxRecDepth 100000
set_option maxHeartbeats 3200000
theorem vhas_spec {W : World} {ro lo po fo oo so : Option Addr} {rn rc ln lc pn pc fn fc on oc sn sc : Nat} {lk : Bool} {R : List Rol} {Lk : List Str} (hR : RdK rolE W (.slice ro rn rc) R) (hL : ReadsS W (.slice lo ln lc) Lk) (h1 : R.length ≤ 100000) (h2 : Lk.length ≤ 100000) (s : Rol) : Calls Tryz.prog 72 #[.agg #[.slice ro rn rc, .slice lo ln lc, .slice po pn pc, .slice fo fn fc, .slice oo on oc, .slice so sn sc, .bool lk], rolV2 s] W fun e W' => e = .returned (.bool (hasV R Lk s)) ∧ Hid (KF W W') := by
 obtain ⟨s1, s2⟩ := s
 have HR := Lib.hid (fun (w : World) (hk : KF W w) => phas_spec (hR.keeps hk) (by omega) (s1, s2))
 have HL := Lib.hid (fun (w : World) (hk : KF W w) => scontains_spec (hL.keeps hk) (by omega) s2)
 have HD : Hid (hasV R Lk (s1, s2) = (decide ((s1, s2) ∈ R) || decide (s2 ∈ Lk))) := rfl
 obtain ⟨x, hx⟩ : ∃ x, decide ((s1, s2) ∈ R) = x := ⟨_, rfl⟩
 obtain ⟨y, hy⟩ : ∃ y, decide (s2 ∈ Lk) = y := ⟨_, rfl⟩
 rw [hx] at HR
 rw [hy] at HL
 rw [hx, hy] at HD
 rw [HD.out]
 clear hx hy HD hR hL
 have hal := (MapKept.heap_alloc W (.cells #[.slice ro rn rc, .slice lo ln lc, .slice po pn pc, .slice fo fn fc, .slice oo on oc, .slice so sn sc, .bool lk] 52)).1
 obtain ⟨WA, hWA⟩ : ∃ q, W.alloc (.cells #[.slice ro rn rc, .slice lo ln lc, .slice po pn pc, .slice fo fn fc, .slice oo on oc, .slice so sn sc, .bool lk] 52) = q := ⟨_, rfl⟩
 have hkA : KF W WA := by rw [← hWA]; exact (Keeps.refl _ _).alloc _
 rw [hWA] at hal
 have hal2 := (MapKept.heap_alloc WA (bR s1 s2)).1
 obtain ⟨WB, hWB⟩ : ∃ q, WA.alloc (bR s1 s2) = q := ⟨_, rfl⟩
 have hkB : KF WA WB := by rw [← hWB]; exact (Keeps.refl _ _).alloc _
 rw [hWB] at hal2
 have HV := Lib.hid ((hkB.block _ (lt_of_heap hal) (fun x => x)).trans hal)
 have HS := Lib.hid hal2
 have HK := Lib.hid (hkA.trans hkB)
 clear hal hal2 hkA hkB
 unfold rolV2 at HR ⊢
 simp only at HR ⊢
 obtain ⟨c0, f0, c1, f1, c2, f2, c3, f3, c4, f4, c5, f5, c6, f6⟩ := cf7 HV.out
 obtain ⟨d0, e0, d1, e1⟩ := cf2 HS.out
 go_enter Tryz.func72, Tryz.ntmps72
 go_upto_region 1 with fail
 clear hWA hWB
 go_wp2_with fail
 refine (HR.out _ HK.out).mono ?_
 rintro e w1 ⟨rfl, hk⟩
 have HK1 := Lib.hid (HK.out.trans hk.out)
 have hv := (hk.out.block _ (lt_of_heap HV.out) (fun x => x)).trans HV.out
 have hs := (hk.out.block _ (lt_of_heap HS.out) (fun x => x)).trans HS.out
 clear HR hk HV HS HK c0 f0 c1 f1 c2 f2 c3 f3 c4 f4 c5 f5 c6 f6 d0 e0 d1 e1
 cases x
 ·obtain ⟨c0, f0, c1, f1, c2, f2, c3, f3, c4, f4, c5, f5, c6, f6⟩ := cf7 hv
  obtain ⟨d0, e0, d1, e1⟩ := cf2 hs
  clear hv hs
  go_wp2_with fail
  refine (HL.out _ HK1.out).mono ?_
  rintro e w2 ⟨rfl, hk⟩
  have HE : Hid (KF W w2) := by rw [← show w1 = w2 from hk.out]; exact HK1.out
  clear HL hk HK1 c0 f0 c1 f1 c2 f2 c3 f3 c4 f4 c5 f5 c6 f6 d0 e0 d1 e1
  go_wp2_with fail
  go_ret
  exact ⟨by first | rfl | (cases y <;> rfl), HE⟩
 ·clear hv hs HL
  go_wp2_with fail
  go_ret
  exact ⟨rfl, HK1⟩
theorem bound_spec {W : World} {mb : Nat} {ro lo po fo oo so ao bo co jo : Option Addr} {rn rc ln lc pn pc fn fc on oc sn sc an ac bn bc cn cc jn jc : Nat} {lk : Bool} (hm : W.heap[mb]? = some (.cells #[.slice ro rn rc, .slice lo ln lc, .slice po pn pc, .slice fo fn fc, .slice oo on oc, .slice so sn sc, .bool lk, .slice ao an ac, .slice bo bn bc, .slice co cn cc, .slice jo jn jc] 118)) {gr sh : List Rol} (hg : RdK rolE W (.slice bo bn bc) gr) (hs : RdK rolE W (.slice co cn cc) sh) (h1 : gr.length ≤ 100000) (h2 : sh.length ≤ 100000) (s : Rol) : Calls Tryz.prog 192 #[.pointer (some ⟨mb, 0, none⟩), rolV2 s] W fun e W' => e = .returned (.bool (boundB gr sh s)) ∧ Hid (KF W W') := by
 obtain ⟨s1, s2⟩ := s
 have HG := Lib.hid (fun (w : World) (hk : KF W w) => phas_spec (hg.keeps hk) (by omega) (s1, s2))
 have HS := Lib.hid (fun (w : World) (hk : KF W w) => phas_spec (hs.keeps hk) (by omega) (s1, s2))
 have HD : Hid (boundB gr sh (s1, s2) = (decide ((s1, s2) ∈ gr) || decide ((s1, s2) ∈ sh))) := rfl
 obtain ⟨x, hx⟩ : ∃ x, decide ((s1, s2) ∈ gr) = x := ⟨_, rfl⟩
 obtain ⟨y, hy⟩ : ∃ y, decide ((s1, s2) ∈ sh) = y := ⟨_, rfl⟩
 rw [hx] at HG
 rw [hy] at HS
 rw [hx, hy] at HD
 rw [HD.out]
 clear hx hy HD hg hs
 have hal := (MapKept.heap_alloc W (bR s1 s2)).1
 obtain ⟨WA, hWA⟩ : ∃ q, W.alloc (bR s1 s2) = q := ⟨_, rfl⟩
 have hkA : KF W WA := by rw [← hWA]; exact (Keeps.refl _ _).alloc _
 rw [hWA] at hal
 have hmA := (hkA.block _ (lt_of_heap hm) (fun x => x)).trans hm
 have HK := Lib.hid hkA
 have HM := Lib.hid hmA
 have HB := Lib.hid hal
 clear hal hkA hm hmA
 unfold rolV2 at HG HS ⊢
 simp only at HG HS ⊢
 go_enter Tryz.func192, Tryz.ntmps192
 go_upto_region 1 with fail
 clear hWA
 obtain ⟨m0, n0, m1, n1, m2, n2, m3, n3, m4, n4, m5, n5, m6, n6, m7, n7, m8, n8, m9, n9, m10, n10⟩ := cf11 HM.out
 obtain ⟨d0, e0, d1, e1⟩ := cf2 HB.out
 clear n0 n1 n2 n3 n4 n5 n6 n7 n8 n9 n10 e0 e1
 have HMK1 : Hid (∀ w' : World, KF WA w' → w'.cell? ⟨mb, 8, none⟩ = some (.slice bo bn bc) ∧ w'.cell? ⟨mb, 9, none⟩ = some (.slice co cn cc) ∧ w'.cell? ⟨W.heap.size, 0, none⟩ = some (.string ⟨s1.toArray⟩) ∧ w'.cell? ⟨W.heap.size, 1, none⟩ = some (.string ⟨s2.toArray⟩)) := fun w' hk => ⟨kc hk m8, kc hk m9, kc hk d0, kc hk d1⟩
 have HKX1 : Hid (KF WA WA.drew) := (Keeps.refl _ _).drew
 have hS0 := HMK1.out _ HKX1.out
 clear m8 m9 d0 d1
 refine wp_region_noPanic ?_
 refine wp_region_held_drew (S := (fun w' => w'.cell? ⟨mb, 8, none⟩ = some (.slice bo bn bc) ∧ w'.cell? ⟨mb, 9, none⟩ = some (.slice co cn cc) ∧ w'.cell? ⟨W.heap.size, 0, none⟩ = some (.string ⟨s1.toArray⟩) ∧ w'.cell? ⟨W.heap.size, 1, none⟩ = some (.string ⟨s2.toArray⟩))) (by kernel_rfl) hS0 (fun hHeld => ?_)
 clear hS0
 generalize WA.drew = w1 at *
 refine tk 0 rfl hHeld ?_
 refine tk 5 rfl hHeld ?_
 (try simp only [nz])
 refine on1 1 rfl fun KK hK => ?_
 go_simp
 refine hK.out _ _ (HMK1.out _ HKX1.out) fun hHeld => ?_
 clear hK KK
 refine tk 2 rfl hHeld ?_
 refine tk 3 rfl hHeld ?_
 (try simp only [nz])
 refine tk 4 rfl hHeld ?_
 (try simp only [nz])
 refine on1 6 rfl fun KK hK => ?_
 go_simp
 refine (HG.out _ (HK.out.trans HKX1.out)).mono ?_
 rintro e w2 ⟨rfl, hk⟩
 replace HKX1 := Lib.hid (HKX1.out.trans hk.out)
 clear hk HG
 go_simp
 refine hK.out _ _ (HMK1.out _ HKX1.out) fun hHeld => ?_
 clear hK KK
 (try simp only [nz])
 refine on1 7 rfl fun KK hK => ?_
 go_simp
 refine hK.out _ _ (HMK1.out _ HKX1.out) fun hHeld => ?_
 clear hK KK
 (try simp only [nz])
 cases x
 case true =>
  refine tks 8 rfl hHeld ?_
  refine tks 13 rfl hHeld ?_
  (try simp only [nz])
  refine on1 9 rfl fun KK hK => ?_
  go_simp
  refine hK.out _ _ (HMK1.out _ HKX1.out) fun hHeld => ?_
  clear hK KK
  (try simp only [nz])
  refine on1 10 rfl fun KK hK => ?_
  go_simp
  refine hK.out _ _ (HMK1.out _ HKX1.out) fun hHeld => ?_
  clear hK KK
  (try simp only [nz])
  refine on1 11 rfl fun KK hK => ?_
  go_simp
  refine hK.out _ _ (HMK1.out _ HKX1.out) fun hHeld => ?_
  clear hK KK
  (try simp only [nz])
  refine on1 12 rfl fun KK hK => ?_
  go_simp
  refine hK.out _ _ (HMK1.out _ HKX1.out) fun hHeld => ?_
  clear hK KK
  (try simp only [nz])
  refine on1 14 rfl fun KK hK => ?_
  go_simp
  refine hK.out _ _ (HMK1.out _ HKX1.out) fun hHeld => ?_
  clear hK KK
  (try simp only [nz])
  refine on1 15 rfl fun KK hK => ?_
  go_simp
  refine hK.out _ _ (HMK1.out _ HKX1.out) fun hHeld => ?_
  clear hK KK
  (try simp only [nz])
  refine on1 16 rfl fun KK hK => ?_
  go_simp
  refine hK.out _ _ (HMK1.out _ HKX1.out) fun hHeld => ?_
  clear hK KK
  (try simp only [nz])
  refine wpAnyH_done (by kernel_rfl) ?_ _
  refine NoPanic.normal ?_
  clear hHeld HMK1
  have HE : Hid (KF W w2) := HK.out.trans HKX1.out
  go_wp2_with fail
  go_ret
  exact ⟨rfl, HE⟩
 case false =>
  refine tk 8 rfl hHeld ?_
  refine tk 13 rfl hHeld ?_
  (try simp only [nz])
  refine on1 9 rfl fun KK hK => ?_
  go_simp
  refine hK.out _ _ (HMK1.out _ HKX1.out) fun hHeld => ?_
  clear hK KK
  refine tk 10 rfl hHeld ?_
  refine tk 11 rfl hHeld ?_
  (try simp only [nz])
  refine tk 12 rfl hHeld ?_
  (try simp only [nz])
  refine on1 14 rfl fun KK hK => ?_
  go_simp
  refine (HS.out _ (HK.out.trans HKX1.out)).mono ?_
  rintro e w3 ⟨rfl, hk⟩
  replace HKX1 := Lib.hid (HKX1.out.trans hk.out)
  clear hk HS
  go_simp
  refine hK.out _ _ (HMK1.out _ HKX1.out) fun hHeld => ?_
  clear hK KK
  (try simp only [nz])
  refine on1 15 rfl fun KK hK => ?_
  go_simp
  refine hK.out _ _ (HMK1.out _ HKX1.out) fun hHeld => ?_
  clear hK KK
  (try simp only [nz])
  refine on1 16 rfl fun KK hK => ?_
  go_simp
  refine hK.out _ _ (HMK1.out _ HKX1.out) fun hHeld => ?_
  clear hK KK
  (try simp only [nz])
  refine wpAnyH_done (by kernel_rfl) ?_ _
  refine NoPanic.normal ?_
  clear hHeld HMK1
  have HE : Hid (KF W w3) := HK.out.trans HKX1.out
  go_wp2_with fail
  go_ret
  exact ⟨by first | rfl | (cases y <;> rfl), HE⟩
theorem fclos_spec {W : World} {mb cb : Nat} {ro lo po fo oo so ao bo co jo : Option Addr} {rn rc ln lc pn pc fn fc on oc sn sc an ac bn bc cn cc jn jc : Nat} {lk : Bool} (hm : W.heap[mb]? = some (.cells #[.slice ro rn rc, .slice lo ln lc, .slice po pn pc, .slice fo fn fc, .slice oo on oc, .slice so sn sc, .bool lk, .slice ao an ac, .slice bo bn bc, .slice co cn cc, .slice jo jn jc] 118)) (hc : W.cell? ⟨cb, 0, none⟩ = some (.pointer (some ⟨mb, 0, none⟩))) {R gr sh : List Rol} {Lk : List Str} (hR : RdK rolE W (.slice ro rn rc) R) (hL : ReadsS W (.slice lo ln lc) Lk) (hg : RdK rolE W (.slice bo bn bc) gr) (hs : RdK rolE W (.slice co cn cc) sh) (h1 : R.length ≤ 100000) (h2 : Lk.length ≤ 100000) (h3 : gr.length ≤ 100000) (h4 : sh.length ≤ 100000) (y : Stm) : Calls Tryz.prog 191 #[stmV y, .pointer (some ⟨cb, 0, none⟩)] W fun e W' => e = .returned (.bool (!folB gr sh R Lk y)) ∧ Hid (KF W W') := by
 have HVH := Lib.hid (fun (w : World) (hk : KF W w) => vhas_spec (po := po) (pn := pn) (pc := pc) (fo := fo) (fn := fn) (fc := fc) (oo := oo) (on := on) (oc := oc) (so := so) (sn := sn) (sc := sc) (lk := lk) (hR.keeps hk) (hL.keeps hk) h1 h2 y.1)
 have HBO := Lib.hid (fun (w : World) (hk : KF W w) => bound_spec ((hk.block _ (lt_of_heap hm) (fun x => x)).trans hm) (hg.keeps hk) (hs.keeps hk) h3 h4 y.1)
 have HD : Hid (folB gr sh R Lk y = (hasV R Lk y.1 && boundB gr sh y.1)) := rfl
 obtain ⟨x, hx⟩ : ∃ x, hasV R Lk y.1 = x := ⟨_, rfl⟩
 obtain ⟨z, hz⟩ : ∃ z, boundB gr sh y.1 = z := ⟨_, rfl⟩
 rw [hx] at HVH
 rw [hz] at HBO
 rw [hx, hz] at HD
 rw [HD.out]
 clear hx hz HD hR hL hg hs
 obtain ⟨⟨yh1, yh2⟩, yk, yo, ⟨ya1, ya2⟩, ⟨yb1, yb2⟩, yi⟩ := y
 have hal := (MapKept.heap_alloc W (bM yk yh1 yh2 yo ya1 ya2 yb1 yb2 yi)).1
 obtain ⟨WA, hWA⟩ : ∃ q, W.alloc (bM yk yh1 yh2 yo ya1 ya2 yb1 yb2 yi) = q := ⟨_, rfl⟩
 have hkA : KF W WA := by rw [← hWA]; exact (Keeps.refl _ _).alloc _
 rw [hWA] at hal
 have hmA := (hkA.block _ (lt_of_heap hm) (fun x => x)).trans hm
 have hcA : WA.cell? ⟨cb, 0, none⟩ = some (.pointer (some ⟨mb, 0, none⟩)) := (hkA.cell (p := ⟨cb, 0, none⟩) (World.block_lt_of_cell? _ _ hc) (fun x => x)).trans hc
 have HK := Lib.hid hkA
 have HM := Lib.hid hmA
 have HB := Lib.hid hal
 clear hal hkA hm hmA hc
 unfold rolV2 at HVH HBO
 simp only at HVH HBO
 unfold stmV
 go_enter Tryz.func191, Tryz.ntmps191
 go_upto_region 1 with fail
 clear hWA
 obtain ⟨m0, n0, m1, n1, m2, n2, m3, n3, m4, n4, m5, n5, m6, n6, m7, n7, m8, n8, m9, n9, m10, n10⟩ := cf11 HM.out
 obtain ⟨d0, e0, d1, e1, d2, e2, d3, e3, d4, e4, d5, e5, d6, e6, d7, e7, d8, e8⟩ := cf9 HB.out
 clear n0 n1 n2 n3 n4 n5 n6 n7 n8 n9 n10 e0 e1 e2 e3 e4 e5 e6 e7 e8
 have HMK30 : Hid (∀ w' : World, KF WA w' → w'.cell? ⟨cb, 0, none⟩ = some (.pointer (some ⟨mb, 0, none⟩)) ∧ w'.cell? ⟨mb, 0, none⟩ = some (.slice ro rn rc) ∧ w'.cell? ⟨mb, 1, none⟩ = some (.slice lo ln lc) ∧ w'.cell? ⟨mb, 2, none⟩ = some (.slice po pn pc) ∧ w'.cell? ⟨mb, 3, none⟩ = some (.slice fo fn fc) ∧ w'.cell? ⟨mb, 4, none⟩ = some (.slice oo on oc) ∧ w'.cell? ⟨mb, 5, none⟩ = some (.slice so sn sc) ∧ w'.cell? ⟨mb, 6, none⟩ = some (.bool lk) ∧ w'.cell? ⟨W.heap.size, 1, none⟩ = some (.string ⟨yh1.toArray⟩) ∧ w'.cell? ⟨W.heap.size, 2, none⟩ = some (.string ⟨yh2.toArray⟩)) := fun w' hk => ⟨kc hk hcA, kc hk m0, kc hk m1, kc hk m2, kc hk m3, kc hk m4, kc hk m5, kc hk m6, kc hk d1, kc hk d2⟩
 have HKX30 : Hid (KF WA WA.drew) := (Keeps.refl _ _).drew
 have hS0 := HMK30.out _ HKX30.out
 clear hcA m0 m1 m2 m3 m4 m5 m6 d1 d2
 refine wp_region_noPanic ?_
 refine wp_region_held_drew (S := (fun w' => w'.cell? ⟨cb, 0, none⟩ = some (.pointer (some ⟨mb, 0, none⟩)) ∧ w'.cell? ⟨mb, 0, none⟩ = some (.slice ro rn rc) ∧ w'.cell? ⟨mb, 1, none⟩ = some (.slice lo ln lc) ∧ w'.cell? ⟨mb, 2, none⟩ = some (.slice po pn pc) ∧ w'.cell? ⟨mb, 3, none⟩ = some (.slice fo fn fc) ∧ w'.cell? ⟨mb, 4, none⟩ = some (.slice oo on oc) ∧ w'.cell? ⟨mb, 5, none⟩ = some (.slice so sn sc) ∧ w'.cell? ⟨mb, 6, none⟩ = some (.bool lk) ∧ w'.cell? ⟨W.heap.size, 1, none⟩ = some (.string ⟨yh1.toArray⟩) ∧ w'.cell? ⟨W.heap.size, 2, none⟩ = some (.string ⟨yh2.toArray⟩))) (by kernel_rfl) hS0 (fun hHeld => ?_)
 clear hS0
 generalize WA.drew = w1 at *
 refine tk 0 rfl hHeld ?_
 refine tk 4 rfl hHeld ?_
 refine tk 5 rfl hHeld ?_
 (try simp only [nz])
 refine on1 1 rfl fun KK hK => ?_
 go_simp
 refine hK.out _ _ (HMK30.out _ HKX30.out) fun hHeld => ?_
 clear hK KK
 refine tk 2 rfl hHeld ?_
 refine tk 3 rfl hHeld ?_
 (try simp only [nz])
 refine on1 6 rfl fun KK hK => ?_
 go_simp
 refine (HVH.out _ (HK.out.trans HKX30.out)).mono ?_
 rintro e w2 ⟨rfl, hk⟩
 replace HKX30 := Lib.hid (HKX30.out.trans hk.out)
 clear hk HVH
 go_simp
 refine hK.out _ _ (HMK30.out _ HKX30.out) fun hHeld => ?_
 clear hK KK
 (try simp only [nz])
 refine on1 7 rfl fun KK hK => ?_
 go_simp
 refine hK.out _ _ (HMK30.out _ HKX30.out) fun hHeld => ?_
 clear hK KK
 (try simp only [nz])
 refine on1 8 rfl fun KK hK => ?_
 go_simp
 refine hK.out _ _ (HMK30.out _ HKX30.out) fun hHeld => ?_
 clear hK KK
 (try simp only [nz])
 cases x
 case false =>
  refine tks 9 rfl hHeld ?_
  refine tks 10 rfl hHeld ?_
  (try simp only [nz])
  refine on1 11 rfl fun KK hK => ?_
  go_simp
  refine hK.out _ _ (HMK30.out _ HKX30.out) fun hHeld => ?_
  clear hK KK
  (try simp only [nz])
  refine on1 12 rfl fun KK hK => ?_
  go_simp
  refine hK.out _ _ (HMK30.out _ HKX30.out) fun hHeld => ?_
  clear hK KK
  (try simp only [nz])
  refine on1 13 rfl fun KK hK => ?_
  go_simp
  refine hK.out _ _ (HMK30.out _ HKX30.out) fun hHeld => ?_
  clear hK KK
  (try simp only [nz])
  refine on1 14 rfl fun KK hK => ?_
  go_simp
  refine hK.out _ _ (HMK30.out _ HKX30.out) fun hHeld => ?_
  clear hK KK
  (try simp only [nz])
  refine on1 15 rfl fun KK hK => ?_
  go_simp
  refine hK.out _ _ (HMK30.out _ HKX30.out) fun hHeld => ?_
  clear hK KK
  (try simp only [nz])
  refine wpAnyH_done (by kernel_rfl) ?_ _
  refine NoPanic.normal ?_
  clear hHeld HMK30
  have HE : Hid (KF W w2) := HK.out.trans HKX30.out
  go_wp2_with fail
  go_ret
  exact ⟨rfl, HE⟩
 case true =>
  refine tk 9 rfl hHeld ?_
  refine tk 10 rfl hHeld ?_
  refine tk 11 rfl hHeld ?_
  (try simp only [nz])
  refine on1 12 rfl fun KK hK => ?_
  go_simp
  refine (HBO.out _ (HK.out.trans HKX30.out)).mono ?_
  rintro e w3 ⟨rfl, hk⟩
  replace HKX30 := Lib.hid (HKX30.out.trans hk.out)
  clear hk HBO
  go_simp
  refine hK.out _ _ (HMK30.out _ HKX30.out) fun hHeld => ?_
  clear hK KK
  (try simp only [nz])
  refine on1 13 rfl fun KK hK => ?_
  go_simp
  refine hK.out _ _ (HMK30.out _ HKX30.out) fun hHeld => ?_
  clear hK KK
  (try simp only [nz])
  refine on1 14 rfl fun KK hK => ?_
  go_simp
  refine hK.out _ _ (HMK30.out _ HKX30.out) fun hHeld => ?_
  clear hK KK
  (try simp only [nz])
  refine on1 15 rfl fun KK hK => ?_
  go_simp
  refine hK.out _ _ (HMK30.out _ HKX30.out) fun hHeld => ?_
  clear hK KK
  (try simp only [nz])
  refine wpAnyH_done (by kernel_rfl) ?_ _
  refine NoPanic.normal ?_
  clear hHeld HMK30
  have HE : Hid (KF W w3) := HK.out.trans HKX30.out
  go_wp2_with fail
  go_ret
  exact ⟨by first | rfl | (cases z <;> rfl), HE⟩
theorem followed_spec {W : World} {mb : Nat} {ro lo po fo oo so ao bo co jo : Option Addr} {rn rc ln lc pn pc fn fc on oc sn sc an ac bn bc cn cc jn jc : Nat} {lk : Bool} (hm : W.heap[mb]? = some (.cells #[.slice ro rn rc, .slice lo ln lc, .slice po pn pc, .slice fo fn fc, .slice oo on oc, .slice so sn sc, .bool lk, .slice ao an ac, .slice bo bn bc, .slice co cn cc, .slice jo jn jc] 118)) {R gr sh : List Rol} {Lk : List Str} {st : List Stm} (hR : RdK rolE W (.slice ro rn rc) R) (hL : ReadsS W (.slice lo ln lc) Lk) (ha : SrcK stmE W (.slice ao an ac) st) (hg : RdK rolE W (.slice bo bn bc) gr) (hs : RdK rolE W (.slice co cn cc) sh) (h1 : R.length ≤ 100000) (h2 : Lk.length ≤ 100000) (h3 : gr.length ≤ 100000) (h4 : sh.length ≤ 100000) (h5 : st.length ≤ 10000) : Calls Tryz.prog 168 #[.pointer (some ⟨mb, 0, none⟩)] W fun e W' => ∃ v, e = .returned v ∧ Hid (RdX stmE W' v (st.filter (folB gr sh R Lk)) (fun k => W.heap.size ≤ k) ∧ KF W W') := by
 have hal := (MapKept.heap_alloc W (.cells #[.pointer (some ⟨mb, 0, none⟩)] 116)).1
 obtain ⟨WA, hWA⟩ : ∃ q, W.alloc (.cells #[.pointer (some ⟨mb, 0, none⟩)] 116) = q := ⟨_, rfl⟩
 have hkA : KF W WA := by rw [← hWA]; exact (Keeps.refl _ _).alloc _
 rw [hWA] at hal
 have hmA := (hkA.block _ (lt_of_heap hm) (fun x => x)).trans hm
 have hcA : WA.cell? ⟨W.heap.size, 0, none⟩ = some (.pointer (some ⟨mb, 0, none⟩)) := by rw [cell_of_heap hal]; rfl
 have HK := Lib.hid hkA
 have HCL := Lib.hid (cloneM_spec (ha.keeps hkA) h5)
 obtain ⟨cb, hcb⟩ : ∃ q, W.heap.size = q := ⟨_, rfl⟩
 rw [hcb] at hcA hal
 have HFC : Hid (∀ (g : Nat) (w : World), (∀ y, WA.heap.size ≤ g → Keeps (fun q => q = g) WA w → Calls Tryz.prog 191 #[stmV y, .pointer (some ⟨cb, 0, none⟩)] w fun e W' => e = .returned (.bool (!folB gr sh R Lk y)) ∧ Hid (KF w W'))) := fun g w y hg0 hk => by
  have z1 := hkA.size
  have hk' : KF W w := hkA.trans_new (hk.mono (fun _ _ x => x)) (fun i hi e => by have e : i = g := e; omega)
  exact fclos_spec ((hk'.block _ (lt_of_heap hm) (fun x => x)).trans hm) ((hk.cell (p := ⟨cb, 0, none⟩) (World.block_lt_of_cell? _ _ hcA) (fun e => by have e : cb = g := e; have := World.block_lt_of_cell? _ _ hcA; simp at this; omega)).trans hcA) (hR.keeps hk') (hL.keeps hk') (hg.keeps hk') (hs.keeps hk') h1 h2 h3 h4 y
 obtain ⟨m0, n0, m1, n1, m2, n2, m3, n3, m4, n4, m5, n5, m6, n6, m7, n7, m8, n8, m9, n9, m10, n10⟩ := cf11 hmA
 have HC0 := Lib.hid hal
 clear n0 n1 n2 n3 n4 n5 n6 n7 n8 n9 n10 hR hL ha hg hs hm hmA hkA
 obtain ⟨p0, q0⟩ : WA.cell? ⟨cb, 0, none⟩ = some (.pointer (some ⟨mb, 0, none⟩)) ∧ WA.frozen? ⟨cb, 0, none⟩ = false := ⟨hcA, Lib.frozen_of_heap hal 0⟩
 clear hal hcA
 go_enter Tryz.func168, Tryz.ntmps168
 go_upto_region 1 with fail
 (try simp only [hcb])
 clear hWA
 go_wp2_with fail
 refine HCL.out.mono ?_
 rintro e w1 ⟨u, rfl, hu⟩
 clear HCL p0 q0 m0 m1 m2 m3 m4 m5 m6 m7 m8 m9 m10
 have HKU := Lib.hid hu.out.1
 rcases hu.out.2.form with ⟨rfl, rfl⟩ | ⟨g, cap, cur, rfl, hgb, hh, hle, hmx, hrest⟩
 ·have HN := Lib.hid (mdel_none w1 cb 191)
  have HE : Hid (RdX stmE w1 (.slice none 0 0) (([] : List Stm).filter (folB gr sh R Lk)) (fun k => W.heap.size ≤ k) ∧ KF W w1) := ⟨rdX_nil stmE _ _, HK.out.trans HKU.out⟩
  clear hu HFC HKU HK HC0
  go_wp2_with fail
  refine HN.out.mono ?_
  rintro e w2 ⟨rfl, rfl⟩
  clear HN
  go_wp2_with fail
  go_ret
  exact ⟨_, rfl, HE⟩
 ·have HO : Hid (HoK stmE w1 g 0 st) := by
   refine ⟨lt_of_heap hh, fun j x hj i u hi => ⟨?_, Lib.frozen_of_heap hh _⟩⟩
   rw [Nat.zero_add]
   exact OwnK.cell (cap := cap) hh hrest.2 j x hj i u hi
  obtain ⟨n, hn⟩ : ∃ n, st.length = n := ⟨_, rfl⟩
  have hlec : st.length ≤ cap := hle
  have HDL := Lib.hid (mdel_spec (fn := 191) (W := w1) (g := g) (cap := cap) (cb := cb) (del := fun y => !folB gr sh R Lk y) HO.out hlec h5 (fun _ _ => rfl) (fun y w hk => HFC.out g w y hgb (HKU.out.mono (fun _ _ z => z.elim) |>.trans hk)))
  rw [hn] at HDL ⊢
  have HGB := Lib.hid hgb
  clear hu HFC hh hle hmx hrest HO hgb
  go_wp2_with fail
  refine HDL.out.mono ?_
  rintro e w2 ⟨i, rfl, hd⟩
  have HE : Hid (RdX stmE w2 (.slice (some ⟨g, 0, none⟩) i cap) (st.filter (folB gr sh R Lk)) (fun k => W.heap.size ≤ k) ∧ KF W w2) := by
   have q := hd.out.1.2.2
   have e : st.filter (fun y => !(!folB gr sh R Lk y)) = st.filter (folB gr sh R Lk) := by simp
   rw [e] at q
   have q2 := hd.out.1.1
   rw [e] at q2
   refine ⟨⟨?_, fun k hk => ?_⟩, (HK.out.trans HKU.out).trans_new hd.out.2 (fun x hx e => by have e : x = g := e; have := HGB.out; have := HK.out.size; omega)⟩
   ·rw [q2]
    exact ⟨q.reads (by rw [← q2]; have := hd.out.1.2.1; omega), fun n c e => by simp at e⟩
   ·simp only [Value.ownBlock, Option.map_some, Option.some.injEq] at hk
    subst hk
    have := HGB.out
    have := HK.out.size
    exact ⟨q.1, by show _ ≤ _; omega⟩
  clear HDL hd
  go_wp2_with fail
  go_ret
  exact ⟨_, rfl, HE⟩
end Go.Proofs.YtckikkkdabpjkaaGreat
