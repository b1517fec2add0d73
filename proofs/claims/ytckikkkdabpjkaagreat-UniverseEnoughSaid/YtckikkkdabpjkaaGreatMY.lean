/-
 Whether a policy reaches a state: the document's.
-/
import Derived.Test.YtckikkkdabpjkaaGreatMC
import Derived.Test.YtckikkkdabpjkaaGreatUniPlain
import Derived.Test.YtckikkkdabpjkaaGreatME
import Derived.Test.YtckikkkdabpjkaaGreatMR
set_option linter.unusedVariables false
set_option linter.unusedSimpArgs false
set_option linter.unnecessarySimpa false
namespace Go.Proofs.YtckikkkdabpjkaaGreat
open Go.ChangeShapes Go.WideShapes Go.ChangeAt Go.RowKit Go.Deep
set_option maxRecDepth 100000
set_option maxHeartbeats 6400000
theorem wreaches_spec {W : World} {ao bo co jo : Option Addr} {an ac bn bc cn cc jn jc : Nat} {p : Pol} {vc : Value} {C : List Stm} (h0 : RdK stmE W (.slice ao an ac) p.1) (h1 : RdK rolE W (.slice bo bn bc) p.2.1) (h2 : RdK rolE W (.slice co cn cc) p.2.2.1) (hc : RdK stmE W vc C) (n0 : p.1.length ≤ 100000) (n1 : p.2.1.length ≤ 100000) (n2 : p.2.2.1.length ≤ 100000) (n3 : C.length ≤ 100000) :
 Calls Tryz.prog 25 #[.agg #[.slice ao an ac, .slice bo bn bc, .slice co cn cc, .slice jo jn jc], vc] W fun e W' => e = .returned (.bool (reachB p C)) ∧ Hid (KF W W') := by
 obtain ⟨xo, xc, hv, _⟩ := id hc
 obtain ⟨xn, hn⟩ : ∃ n : Nat, vc = .slice xo n xc := ⟨_, hv⟩
 subst hn
 clear hv
 obtain ⟨xo', xc', hxe, hxl, _⟩ := id hc
 simp only [Value.slice.injEq] at hxe
 obtain ⟨rfl, hxn, rfl⟩ := hxe
 obtain ⟨ao', ac', hae, hal0, _⟩ := id h0
 simp only [Value.slice.injEq] at hae
 obtain ⟨rfl, han, rfl⟩ := hae
 obtain ⟨l0, gr, sh, l3⟩ := p
 simp only at h0 h1 h2 n0 n1 n2 han hal0
 rw [← hxn] at hxl n3
 rw [← han] at hal0 n0
 have HXN := Lib.hid hxn.symm
 have HAN := Lib.hid han.symm
 have HRI : Hid (reachB (l0, gr, sh, l3) C = true ↔ (∀ y ∈ C, stmRB y = true ∧ (y ∈ l0 ∨ y.1 ∉ gr)) ∧ ∀ y ∈ l0, y.1 ∈ sh → y ∈ C) := reach_iff
 obtain ⟨d, hd⟩ : ∃ d, reachB (l0, gr, sh, l3) C = d := ⟨_, rfl⟩
 rw [hd] at HRI ⊢
 clear hd hxn han
 obtain ⟨WA, hWA⟩ : ∃ q, W.alloc (bP ao an ac bo bn bc co cn cc jo jn jc) = q := ⟨_, rfl⟩
 have hal := (MapKept.heap_alloc W (bP ao an ac bo bn bc co cn cc jo jn jc)).1
 have HKWA : Hid (KF W WA) := by rw [← hWA]; exact (Keeps.refl _ _).alloc _
 rw [hWA] at hal
 obtain ⟨pb, hpb⟩ : ∃ q, W.heap.size = q := ⟨_, rfl⟩
 have HBpb := Lib.hid hpb
 rw [hpb] at hal
 have HAWA := Lib.hid hal
 clear hal
 have H0 := Lib.hid (h0.keeps HKWA.out)
 have HX := Lib.hid (hc.keeps HKWA.out)
 have HM0 := Lib.hid (fun (w : World) (hk : KF WA w) (s : Stm) => mhas_spec (rdk_m.1 (h0.keeps (HKWA.out.trans hk))) (by have := HAN.out; omega) s)
 have HM1 := Lib.hid (fun (w : World) (hk : KF WA w) (s : Stm) => mhas_spec (rdk_m.1 (hc.keeps (HKWA.out.trans hk))) (by have := HXN.out; omega) s)
 have HR1 := Lib.hid (fun (w : World) (hk : KF WA w) (s : Rol) => rhas_spec (rdk_r.1 (h1.keeps (HKWA.out.trans hk))) (by omega) s)
 have HR2 := Lib.hid (fun (w : World) (hk : KF WA w) (s : Rol) => rhas_spec (rdk_r.1 (h2.keeps (HKWA.out.trans hk))) (by omega) s)
 have HRT := Lib.hid (fun (w : World) (s : Stm) => rstmright_all (W := w) s)
 clear h0 h1 h2 hc n1 n2
 go_enter Tryz.func25, Tryz.ntmps25
 go_upto_region 1 with fail
 (try simp only [hWA, hpb])
 clear hWA hpb
 have HI0 : Hid (KF WA WA ∧ ∀ y ∈ C.take 0, stmRB y = true ∧ (y ∈ l0 ∨ y.1 ∉ gr)) := ⟨Keeps.refl _ _, fun y hy => by cases hy⟩
 go_wp2_with fail
 go_loopg [11] xn (fun g t wx => ∃ i : Nat, i ≤ xn ∧ g = xn - i ∧ t = .int .i64 i ∧ Hid (KF WA wx ∧ ∀ y ∈ C.take i, stmRB y = true ∧ (y ∈ l0 ∨ y.1 ∉ gr)))
 case atStart => exact ⟨0, Nat.zero_le _, rfl, rfl, HI0⟩
 case round =>
  clear HI0
  obtain ⟨i, hi, rfl, rfl, HI⟩ := hrel
  by_cases hlt : i < xn
  ·have hiI : (i : Int) < (xn : Int) := by omega
   have hwi : IntKind.i64.wrap ((i : Int) + 1) = (i : Int) + 1 := IntWalk.i64_in _ (by omega)
   have hicap : i < xc := by omega
   obtain ⟨y, hy⟩ : ∃ y, C[i]? = some y := ⟨_, List.getElem?_eq_getElem (by rw [HXN.out]; exact hlt)⟩
   obtain ⟨aoz, cpz, ez, hez, hrz⟩ := id (HX.out.keeps (HI.out.1))
   obtain ⟨g, off, hao, hg, hcc⟩ := hrz (by rw [HXN.out]; omega)
   simp only [Value.slice.injEq] at ez
   obtain ⟨rfl, hzz, rfl⟩ := ez
   subst hao
   have hc := hcc i y hy
   have HTK : Hid (∀ z ∈ C.take (i + 1), z ∈ C.take i ∨ z = y) := fun z hz => by
    rw [List.take_add_one, hy, List.mem_append] at hz
    exact hz.imp id (fun q => by simpa using q)
   have HYM : Hid (y ∈ C) := List.mem_of_getElem? hy
   obtain ⟨⟨yh1, yh2⟩, yk, yo, ⟨ya1, ya2⟩, ⟨yb1, yb2⟩, yi⟩ := y
   clear hcc hrz hez hzz hy
   obtain ⟨c0, c1, c2, c3, c4, c5, c6, c7, c8⟩ := n9 hc
   have hka : KF wr (wr.alloc (bM yk yh1 yh2 yo ya1 ya2 yb1 yb2 yi)) := (Keeps.refl _ _).alloc _
   have hal := (MapKept.heap_alloc wr (bM yk yh1 yh2 yo ya1 ya2 yb1 yb2 yi)).1
   have HJ : Hid (KF WA (wr.alloc (bM yk yh1 yh2 yo ya1 ya2 yb1 yb2 yi)) ∧ ∀ y ∈ C.take i, stmRB y = true ∧ (y ∈ l0 ∨ y.1 ∉ gr)) := ⟨HI.out.1.trans hka, HI.out.2⟩
   obtain ⟨b, hb⟩ : ∃ b, wr.heap.size = b := ⟨_, rfl⟩
   rw [hb] at hal
   have HB := Lib.hid hal
   have CR := Lib.hid (fun (w : World) => HRT.out w ((yh1, yh2), yk, yo, (ya1, ya2), (yb1, yb2), yi))
   have CM := Lib.hid (fun (w : World) (hk : KF WA w) => HM0.out w hk ((yh1, yh2), yk, yo, (ya1, ya2), (yb1, yb2), yi))
   have CG := Lib.hid (fun (w : World) (hk : KF WA w) => HR1.out w hk (yh1, yh2))
   obtain ⟨br, hbr⟩ : ∃ x, stmRB ((yh1, yh2), yk, yo, (ya1, ya2), (yb1, yb2), yi) = x := ⟨_, rfl⟩
   obtain ⟨bm, hbm⟩ : ∃ x, decide ((((yh1, yh2), yk, yo, (ya1, ya2), (yb1, yb2), yi) : Stm) ∈ l0) = x := ⟨_, rfl⟩
   obtain ⟨bg, hbg⟩ : ∃ x, decide (((yh1, yh2) : Rol) ∈ gr) = x := ⟨_, rfl⟩
   rw [hbr] at CR
   rw [hbm] at CM
   rw [hbg] at CG
   have HBB : Hid (stmRB ((yh1, yh2), yk, yo, (ya1, ya2), (yb1, yb2), yi) = br ∧ decide ((((yh1, yh2), yk, yo, (ya1, ya2), (yb1, yb2), yi) : Stm) ∈ l0) = bm ∧ decide (((yh1, yh2) : Rol) ∈ gr) = bg) := ⟨hbr, hbm, hbg⟩
   unfold stmV at CR CM
   unfold rolV2 at CG
   simp only at CR CM CG
   go_upto_region 4 with fail
   (try simp only [hb])
   clear hka hal hb hc hg HI hbr hbm hbg c0 c1 c2 c3 c4 c5 c6 c7 c8
   generalize wr.alloc (bM yk yh1 yh2 yo ya1 ya2 yb1 yb2 yi) = w6 at *
   obtain ⟨p0, f0, p1, f1, p2, f2, p3, f3, p4, f4, p5, f5, p6, f6, p7, f7, p8, f8⟩ := cf9 HB.out
   clear f0 f1 f2 f3 f4 f5 f6 f7 f8
   go_wp2_with fail
   refine (CR.out _).mono ?_
   rintro e w7 ⟨rfl, hk⟩
   have HJ7 : Hid (KF WA w7 ∧ ∀ y ∈ C.take i, stmRB y = true ∧ (y ∈ l0 ∨ y.1 ∉ gr)) := ⟨HJ.out.1.trans hk.out, HJ.out.2⟩
   have HB7 := Lib.hid ((hk.out.block _ (lt_of_heap HB.out) (fun x => x)).trans HB.out)
   clear CR HJ HB hk p0 p1 p2 p3 p4 p5 p6 p7 p8
   cases br
   case false =>
    have HE : Hid (d = false ∧ KF W w7) := ⟨Bool.eq_false_iff.2 (fun e => by have := ((HRI.out.1 e).1 _ HYM.out).1; rw [HBB.out.1] at this; cases this), HKWA.out.trans HJ7.out.1⟩
    clear HJ7 HB7 HTK CM CG
    go_wp2_with fail
    go_ret
    exact ⟨by rw [HE.out.1]; rfl, HE.out.2⟩
   case true =>
    have HP7 := Lib.hid ((HJ7.out.1.block _ (lt_of_heap HAWA.out) (fun x => x)).trans HAWA.out)
    obtain ⟨p0, f0, p1, f1, p2, f2, p3, f3, p4, f4, p5, f5, p6, f6, p7, f7, p8, f8⟩ := cf9 HB7.out
    obtain ⟨z0, t0, z1, t1, z2, t2, z3, t3⟩ := cf4 HP7.out
    clear f0 f1 f2 f3 f4 f5 f6 f7 f8 t0 t1 t2 t3
    go_wp2_with fail
    refine (CM.out _ HJ7.out.1).mono ?_
    rintro e w8 ⟨rfl, hk⟩
    have HJ8 : Hid (KF WA w8 ∧ ∀ y ∈ C.take i, stmRB y = true ∧ (y ∈ l0 ∨ y.1 ∉ gr)) := ⟨HJ7.out.1.trans hk.out, HJ7.out.2⟩
    have HB8 := Lib.hid ((hk.out.block _ (lt_of_heap HB7.out) (fun x => x)).trans HB7.out)
    have HP8 := Lib.hid ((hk.out.block _ (lt_of_heap HP7.out) (fun x => x)).trans HP7.out)
    clear CM HJ7 HB7 HP7 hk p0 p1 p2 p3 p4 p5 p6 p7 p8 z0 z1 z2 z3
    cases bm
    case true =>
     have HN2 : Hid (KF WA w8 ∧ ∀ y ∈ C.take (i + 1), stmRB y = true ∧ (y ∈ l0 ∨ y.1 ∉ gr)) := ⟨HJ8.out.1, fun z hz => (HTK.out z hz).elim (HJ8.out.2 z) (fun e => by rw [e]; exact ⟨HBB.out.1, .inl (of_decide_eq_true HBB.out.2.1)⟩)⟩
     clear HJ8 HB8 HP8 HTK CG
     go_wp2_with fail
     go_roundg (xn - (i + 1))
     case measure => omega
     case rel => exact ⟨i + 1, by omega, rfl, by go_num, HN2⟩
    case false =>
     obtain ⟨p0, f0, p1, f1, p2, f2, p3, f3, p4, f4, p5, f5, p6, f6, p7, f7, p8, f8⟩ := cf9 HB8.out
     obtain ⟨z0, t0, z1, t1, z2, t2, z3, t3⟩ := cf4 HP8.out
     clear f0 f1 f2 f3 f4 f5 f6 f7 f8 t0 t1 t2 t3
     go_wp2_with fail
     refine (CG.out _ HJ8.out.1).mono ?_
     rintro e w9 ⟨rfl, hk⟩
     have HJ9 : Hid (KF WA w9 ∧ ∀ y ∈ C.take i, stmRB y = true ∧ (y ∈ l0 ∨ y.1 ∉ gr)) := ⟨HJ8.out.1.trans hk.out, HJ8.out.2⟩
     clear CG HJ8 HB8 HP8 hk p0 p1 p2 p3 p4 p5 p6 p7 p8 z0 z1 z2 z3
     cases bg
     case true =>
      have HE : Hid (d = false ∧ KF W w9) := ⟨Bool.eq_false_iff.2 (fun e => by
       rcases ((HRI.out.1 e).1 _ HYM.out).2 with q | q
       ·exact of_decide_eq_false HBB.out.2.1 q
       ·exact q (of_decide_eq_true HBB.out.2.2)), HKWA.out.trans HJ9.out.1⟩
      clear HJ9 HTK
      go_wp2_with fail
      go_ret
      exact ⟨by rw [HE.out.1]; rfl, HE.out.2⟩
     case false =>
      have HN2 : Hid (KF WA w9 ∧ ∀ y ∈ C.take (i + 1), stmRB y = true ∧ (y ∈ l0 ∨ y.1 ∉ gr)) := ⟨HJ9.out.1, fun z hz => (HTK.out z hz).elim (HJ9.out.2 z) (fun e => by rw [e]; exact ⟨HBB.out.1, .inr (of_decide_eq_false HBB.out.2.2)⟩)⟩
      clear HJ9 HTK
      go_wp2_with fail
      go_roundg (xn - (i + 1))
      case measure => omega
      case rel => exact ⟨i + 1, by omega, rfl, by go_num, HN2⟩
  ·obtain rfl : i = xn := by omega
   have hiI : ¬ (i : Int) < (i : Int) := by omega
   have HC1 : Hid (∀ y ∈ C, stmRB y = true ∧ (y ∈ l0 ∨ y.1 ∉ gr)) := by have := HI.out.2; rw [List.take_of_length_le (by have := HXN.out; omega)] at this; exact this
   have HP7 := Lib.hid ((HI.out.1.block _ (lt_of_heap HAWA.out) (fun x => x)).trans HAWA.out)
   have HI0 : Hid (KF WA wr ∧ ∀ y ∈ l0.take 0, y.1 ∈ sh → y ∈ C) := ⟨HI.out.1, fun y hy => by cases hy⟩
   obtain ⟨z0, t0, z1, t1, z2, t2, z3, t3⟩ := cf4 HP7.out
   clear t0 t1 t2 t3 HI HP7
   go_wp2_with fail
   clear z0 z1 z2 z3
   go_loopg [34] an (fun g t wx => ∃ i : Nat, i ≤ an ∧ g = an - i ∧ t = .int .i64 i ∧ Hid (KF WA wx ∧ ∀ y ∈ l0.take i, y.1 ∈ sh → y ∈ C))
   case atStart => exact ⟨0, Nat.zero_le _, rfl, rfl, HI0⟩
   case round =>
    clear HI0
    obtain ⟨k, hk0, rfl, rfl, HI⟩ := hrel
    by_cases hlt : k < an
    ·have hiI : (k : Int) < (an : Int) := by omega
     have hwi : IntKind.i64.wrap ((k : Int) + 1) = (k : Int) + 1 := IntWalk.i64_in _ (by omega)
     have hicap : k < ac := by omega
     obtain ⟨y, hy⟩ : ∃ y, l0[k]? = some y := ⟨_, List.getElem?_eq_getElem (by rw [HAN.out]; exact hlt)⟩
     obtain ⟨aoz, cpz, ez, hez, hrz⟩ := id (H0.out.keeps (HI.out.1))
     obtain ⟨g, off, hao, hg, hcc⟩ := hrz (by rw [HAN.out]; omega)
     simp only [Value.slice.injEq] at ez
     obtain ⟨rfl, hzz, rfl⟩ := ez
     subst hao
     have hc := hcc k y hy
     have HTK : Hid (∀ z ∈ l0.take (k + 1), z ∈ l0.take k ∨ z = y) := fun z hz => by
      rw [List.take_add_one, hy, List.mem_append] at hz
      exact hz.imp id (fun q => by simpa using q)
     have HYM : Hid (y ∈ l0) := List.mem_of_getElem? hy
     obtain ⟨⟨yh1, yh2⟩, yk, yo, ⟨ya1, ya2⟩, ⟨yb1, yb2⟩, yi⟩ := y
     clear hcc hrz hez hzz hy
     have c0 : wr.cell? ⟨g, off + k * 9, none⟩ = some (.int .i64 yk) := hc 0 _ rfl
     have c1 : wr.cell? ⟨g, off + k * 9 + 1, none⟩ = some (.string ⟨yh1.toArray⟩) := hc 1 _ rfl
     have c2 : wr.cell? ⟨g, off + k * 9 + 2, none⟩ = some (.string ⟨yh2.toArray⟩) := hc 2 _ rfl
     have c3 : wr.cell? ⟨g, off + k * 9 + 3, none⟩ = some (.string ⟨yo.toArray⟩) := hc 3 _ rfl
     have c4 : wr.cell? ⟨g, off + k * 9 + 4, none⟩ = some (.string ⟨ya1.toArray⟩) := hc 4 _ rfl
     have c5 : wr.cell? ⟨g, off + k * 9 + 5, none⟩ = some (.string ⟨ya2.toArray⟩) := hc 5 _ rfl
     have c6 : wr.cell? ⟨g, off + k * 9 + 6, none⟩ = some (.string ⟨yb1.toArray⟩) := hc 6 _ rfl
     have c7 : wr.cell? ⟨g, off + k * 9 + 7, none⟩ = some (.string ⟨yb2.toArray⟩) := hc 7 _ rfl
     have c8 : wr.cell? ⟨g, off + k * 9 + 8, none⟩ = some (.string ⟨yi.toArray⟩) := hc 8 _ rfl
     have hka : KF wr (wr.alloc (bM yk yh1 yh2 yo ya1 ya2 yb1 yb2 yi)) := (Keeps.refl _ _).alloc _
     have hal := (MapKept.heap_alloc wr (bM yk yh1 yh2 yo ya1 ya2 yb1 yb2 yi)).1
     have HJ : Hid (KF WA (wr.alloc (bM yk yh1 yh2 yo ya1 ya2 yb1 yb2 yi)) ∧ ∀ y ∈ l0.take k, y.1 ∈ sh → y ∈ C) := ⟨HI.out.1.trans hka, HI.out.2⟩
     obtain ⟨b, hb⟩ : ∃ b, wr.heap.size = b := ⟨_, rfl⟩
     rw [hb] at hal
     have HB := Lib.hid hal
     have CG := Lib.hid (fun (w : World) (hk : KF WA w) => HR2.out w hk (yh1, yh2))
     have CM := Lib.hid (fun (w : World) (hk : KF WA w) => HM1.out w hk ((yh1, yh2), yk, yo, (ya1, ya2), (yb1, yb2), yi))
     obtain ⟨bm, hbm⟩ : ∃ x, decide ((((yh1, yh2), yk, yo, (ya1, ya2), (yb1, yb2), yi) : Stm) ∈ C) = x := ⟨_, rfl⟩
     obtain ⟨bg, hbg⟩ : ∃ x, decide (((yh1, yh2) : Rol) ∈ sh) = x := ⟨_, rfl⟩
     rw [hbm] at CM
     rw [hbg] at CG
     have HBB : Hid (decide ((((yh1, yh2), yk, yo, (ya1, ya2), (yb1, yb2), yi) : Stm) ∈ C) = bm ∧ decide (((yh1, yh2) : Rol) ∈ sh) = bg) := ⟨hbm, hbg⟩
     unfold stmV at CM
     unfold rolV2 at CG
     simp only at CM CG
     have HP6 : Hid ((wr.alloc (bM yk yh1 yh2 yo ya1 ya2 yb1 yb2 yi)).heap[pb]? = some (.cells #[.slice (some ⟨g, off, none⟩) an ac, .slice bo bn bc, .slice co cn cc, .slice jo jn jc] 26)) := (HJ.out.1.block _ (lt_of_heap HAWA.out) (fun x => x)).trans HAWA.out
     go_upto_region 12 with fail
     (try simp only [hb])
     clear hka hal hb hc hg HI hbm hbg c0 c1 c2 c3 c4 c5 c6 c7 c8
     generalize wr.alloc (bM yk yh1 yh2 yo ya1 ya2 yb1 yb2 yi) = w6 at *
     obtain ⟨p0, f0, p1, f1, p2, f2, p3, f3, p4, f4, p5, f5, p6, f6, p7, f7, p8, f8⟩ := cf9 HB.out
     obtain ⟨z0, t0, z1, t1, z2, t2, z3, t3⟩ := cf4 HP6.out
     clear f0 f1 f2 f3 f4 f5 f6 f7 f8 t0 t1 t2 t3 HP6
     go_wp2_with fail
     refine (CG.out _ HJ.out.1).mono ?_
     rintro e w7 ⟨rfl, hk⟩
     have HJ7 : Hid (KF WA w7 ∧ ∀ y ∈ l0.take k, y.1 ∈ sh → y ∈ C) := ⟨HJ.out.1.trans hk.out, HJ.out.2⟩
     have HB7 := Lib.hid ((hk.out.block _ (lt_of_heap HB.out) (fun x => x)).trans HB.out)
     clear CG HJ HB hk p0 p1 p2 p3 p4 p5 p6 p7 p8 z0 z1 z2 z3
     cases bg
     case false =>
      have HN2 : Hid (KF WA w7 ∧ ∀ y ∈ l0.take (k + 1), y.1 ∈ sh → y ∈ C) := ⟨HJ7.out.1, fun z hz => (HTK.out z hz).elim (HJ7.out.2 z) (fun e q => by rw [e] at q; exact absurd q (of_decide_eq_false HBB.out.2))⟩
      clear HJ7 HB7 HTK CM
      go_wp2_with fail
      go_roundg (an - (k + 1))
      case measure => omega
      case rel => exact ⟨k + 1, by omega, rfl, by go_num, HN2⟩
     case true =>
      obtain ⟨p0, f0, p1, f1, p2, f2, p3, f3, p4, f4, p5, f5, p6, f6, p7, f7, p8, f8⟩ := cf9 HB7.out
      clear f0 f1 f2 f3 f4 f5 f6 f7 f8
      go_wp2_with fail
      refine (CM.out _ HJ7.out.1).mono ?_
      rintro e w8 ⟨rfl, hk⟩
      have HJ8 : Hid (KF WA w8 ∧ ∀ y ∈ l0.take k, y.1 ∈ sh → y ∈ C) := ⟨HJ7.out.1.trans hk.out, HJ7.out.2⟩
      clear CM HJ7 HB7 hk p0 p1 p2 p3 p4 p5 p6 p7 p8
      cases bm
      case true =>
       have HN2 : Hid (KF WA w8 ∧ ∀ y ∈ l0.take (k + 1), y.1 ∈ sh → y ∈ C) := ⟨HJ8.out.1, fun z hz => (HTK.out z hz).elim (HJ8.out.2 z) (fun e q => by rw [e]; exact of_decide_eq_true HBB.out.1)⟩
       clear HJ8 HTK
       go_wp2_with fail
       go_roundg (an - (k + 1))
       case measure => omega
       case rel => exact ⟨k + 1, by omega, rfl, by go_num, HN2⟩
      case false =>
       have HE : Hid (d = false ∧ KF W w8) := ⟨Bool.eq_false_iff.2 (fun e => of_decide_eq_false HBB.out.1 ((HRI.out.1 e).2 _ HYM.out (of_decide_eq_true HBB.out.2))), HKWA.out.trans HJ8.out.1⟩
       clear HJ8 HTK
       go_wp2_with fail
       go_ret
       exact ⟨by rw [HE.out.1]; rfl, HE.out.2⟩
    ·obtain rfl : k = an := by omega
     have hiI : ¬ (k : Int) < (k : Int) := by omega
     have HE : Hid (d = true ∧ KF W wr) := ⟨HRI.out.2 ⟨HC1.out, by have := HI.out.2; rw [List.take_of_length_le (by have := HAN.out; omega)] at this; exact this⟩, HKWA.out.trans HI.out.1⟩
     clear HI
     go_wp2_with fail
     go_ret
     exact ⟨by rw [HE.out.1]; rfl, HE.out.2⟩
end Go.Proofs.YtckikkkdabpjkaaGreat
/-
 At most 40 statements with short texts?
-/
set_option linter.unusedVariables false
set_option linter.unusedSimpArgs false
set_option linter.unnecessarySimpa false
namespace Go.Proofs.YtckikkkdabpjkaaGreat
open Go.ChangeShapes Go.WideShapes Go.ChangeAt Go.RowKit Go.Deep
set_option maxRecDepth 100000
set_option maxHeartbeats 6400000
theorem stmslight_spec {W : World} {v : Value} {l : List Stm} (h : RdK stmE W v l) : Calls Tryz.prog 10 #[v] W (LightTo (l.length ≤ 40) W) := by
 have HV := Lib.hid h
 obtain ⟨ao, cap, rfl, hle, _⟩ := id h
 obtain ⟨n, hn⟩ : ∃ n, l.length = n := ⟨_, rfl⟩
 rw [hn] at hle HV ⊢
 have HN := Lib.hid hn
 clear hn h
 have HFL : Hid (∀ W', KF W W' → LightTo (n ≤ 40) W (.returned (.bool false)) W') := fun W' hk => ⟨false, rfl, fun e => (by cases e), hk⟩
 have HTR : Hid (∀ W', n ≤ 40 → KF W W' → LightTo (n ≤ 40) W (.returned (.bool true)) W') := fun W' h hk => ⟨true, rfl, fun _ => h, hk⟩
 go_enter Tryz.func10, Tryz.ntmps10
 have HI0 : Hid (KF W W) := Keeps.refl _ _
 by_cases h40 : 40 < n
 case pos =>
  have h40I : (40 : Int) < (n : Int) := by omega
  go_wp2_with fail
  go_ret
  exact HFL.out _ HI0.out
 case neg =>
  have h40I : ¬ (40 : Int) < (n : Int) := by omega
  go_wp2_with fail
  go_loopg [10] n (fun g t wx => ∃ i : Nat, i ≤ n ∧ g = n - i ∧ t = .int .i64 i ∧ Hid (KF W wx))
  case atStart => exact ⟨0, Nat.zero_le _, rfl, rfl, HI0⟩
  case round =>
   clear HI0
   obtain ⟨i, hi, rfl, rfl, HI⟩ := hrel
   by_cases hlt : i < n
   ·have hiI : (i : Int) < (n : Int) := by omega
    have hwi : IntKind.i64.wrap ((i : Int) + 1) = (i : Int) + 1 := IntWalk.i64_in _ (by omega)
    have hicap : i < cap := by omega
    obtain ⟨y, hy⟩ : ∃ y, l[i]? = some y := ⟨_, List.getElem?_eq_getElem (by rw [HN.out]; exact hlt)⟩
    obtain ⟨aoz, cpz, ez, hez, hrz⟩ := id (HV.out.keeps HI.out)
    obtain ⟨g, off, hao, hg, hcc⟩ := hrz (by rw [HN.out]; omega)
    simp only [Value.slice.injEq] at ez
    obtain ⟨rfl, hzz, rfl⟩ := ez
    subst hao
    have hc := hcc i y hy
    have CL := Lib.hid (fun (w : World) => slight_spec (W := w) y)
    obtain ⟨⟨yh1, yh2⟩, yk, yo, ⟨ya1, ya2⟩, ⟨yb1, yb2⟩, yi⟩ := y
    unfold stmV at CL
    simp only at CL
    clear hcc hrz hez hzz hy
    obtain ⟨c0, c1, c2, c3, c4, c5, c6, c7, c8⟩ := n9 hc
    have hka : KF wr (wr.alloc (bM yk yh1 yh2 yo ya1 ya2 yb1 yb2 yi)) := (Keeps.refl _ _).alloc _
    have hal := (MapKept.heap_alloc wr (bM yk yh1 yh2 yo ya1 ya2 yb1 yb2 yi)).1
    have HJ := Lib.hid (HI.out.trans hka)
    obtain ⟨b, hb⟩ : ∃ b, wr.heap.size = b := ⟨_, rfl⟩
    rw [hb] at hal
    have HB := Lib.hid hal
    go_upto_region 6 with fail
    (try simp only [hb])
    clear hka hal hb hc hg HI c0 c1 c2 c3 c4 c5 c6 c7 c8
    generalize wr.alloc (bM yk yh1 yh2 yo ya1 ya2 yb1 yb2 yi) = w6 at *
    obtain ⟨p0, f0, p1, f1, p2, f2, p3, f3, p4, f4, p5, f5, p6, f6, p7, f7, p8, f8⟩ := cf9 HB.out
    clear f0 f1 f2 f3 f4 f5 f6 f7 f8
    go_wp2_with fail
    refine (CL.out _).mono ?_
    rintro e w7 ⟨bl, rfl, hk⟩
    have HN2 := Lib.hid (HJ.out.trans hk.out)
    clear CL HJ HB hk p0 p1 p2 p3 p4 p5 p6 p7 p8
    cases bl
    case false =>
     go_wp2_with fail
     go_ret
     exact HFL.out _ HN2.out
    case true =>
     go_wp2_with fail
     go_roundg (n - (i + 1))
     case measure => omega
     case rel => exact ⟨i + 1, by omega, rfl, by go_num, HN2⟩
   ·obtain rfl : i = n := by omega
    have hiI : ¬ (i : Int) < (i : Int) := by omega
    go_wp2_with fail
    go_ret
    exact HTR.out _ (by omega) HI.out
end Go.Proofs.YtckikkkdabpjkaaGreat
