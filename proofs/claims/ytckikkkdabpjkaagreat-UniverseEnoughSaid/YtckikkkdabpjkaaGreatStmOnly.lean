/-
 Those of a row of which something is so, in order; what is in one row alone; two rows together: the program's.
-/
import Derived.Test.YtckikkkdabpjkaaGreatMC
import Derived.Test.YtckikkkdabpjkaaGreatMS
import Derived.Test.YtckikkkdabpjkaaGreatMH
set_option linter.unusedVariables false
set_option linter.unusedSimpArgs false
set_option linter.unnecessarySimpa false
namespace Go.Proofs.YtckikkkdabpjkaaGreat
open Go.ChangeShapes Go.WideShapes Go.ChangeAt Go.RowKit Go.Deep
set_option maxRecDepth 100000
set_option maxHeartbeats 6400000
theorem sonly_spec {W : World} {v : Value} {l : List Stm} {fn cb : Nat} {so : Stm → Bool} (h : RdK stmE W v l) (hl : l.length ≤ 10000) (hEn : ∀ (zs : Array Value) (w : World), (callFunc fn zs).run Tryz.prog w = .ok (.enter fn zs) w) (hF : ∀ (y : Stm) (w : World), KF W w → Calls Tryz.prog fn #[stmV y, .pointer (some ⟨cb, 0, none⟩)] w fun e w' => e = .returned (.bool (so y)) ∧ Hid (KF w w')) :
 Calls Tryz.prog 126 #[v, .func (.func fn) #[] #[.pointer (some ⟨cb, 0, none⟩)]] W fun e W' => ∃ v', e = .returned v' ∧ Hid (KF W W' ∧ OwnK stmE W.heap.size W' v' (sortO stmLt (l.filter so))) := by
 have HV := Lib.hid h
 obtain ⟨ao, cap, rfl, hle, hr⟩ := h
 obtain ⟨n, hn⟩ : ∃ n, l.length = n := ⟨_, rfl⟩
 rw [hn] at hle hl HV ⊢
 have HN := Lib.hid hn
 have HF := Lib.hid hF
 have HEN := Lib.hid hEn
 clear hr hn hF hEn
 have HFL : Hid (∀ i, ((l.take i).filter so).length ≤ n) := fun i => Nat.le_trans (List.length_filter_le _ _) (by rw [List.length_take]; have := HN.out; omega)
 go_enter Tryz.func126, Tryz.ntmps126
 have HI0 : Hid (KF W W ∧ OwnK stmE W.heap.size W (.slice none 0 0) ((l.take 0).filter so)) := ⟨Keeps.refl _ _, ownK_nil _ _ _⟩
 go_wp2_with fail
 go_loopg [5, 10] n (fun g o t wx => ∃ (i : Nat) (ov : Value), i ≤ n ∧ g = n - i ∧ t = .int .i64 i ∧ ov = o ∧ Hid (KF W wx ∧ OwnK stmE W.heap.size wx ov ((l.take i).filter so)))
 case atStart => exact ⟨0, _, Nat.zero_le _, rfl, rfl, rfl, HI0⟩
 case round =>
  clear HI0
  obtain ⟨i, ov, hi, rfl, rfl, rfl, HI⟩ := hrel
  by_cases hlt : i < n
  ·have hiI : (i : Int) < (n : Int) := by omega
   have hwi : IntKind.i64.wrap ((i : Int) + 1) = (i : Int) + 1 := IntWalk.i64_in _ (by omega)
   have hicap : i < cap := by omega
   obtain ⟨y, hy⟩ : ∃ y, l[i]? = some y := ⟨_, List.getElem?_eq_getElem (by rw [HN.out]; exact hlt)⟩
   obtain ⟨aoz, cpz, ez, hez, hrz⟩ := id (HV.out.keeps HI.out.1)
   obtain ⟨g, off, hao, hg, hcc⟩ := hrz (by rw [HN.out]; omega)
   simp only [Value.slice.injEq] at ez
   obtain ⟨rfl, hzz, rfl⟩ := ez
   subst hao
   have hc := hcc i y hy
   have HTK : Hid ((l.take (i + 1)).filter so = (l.take i).filter so ++ (if so y then [y] else [])) := by
    show _ = _
    rw [List.take_add_one, hy, List.filter_append]
    congr 1
    show List.filter so [y] = _
    by_cases hs : so y = true
    ·simp [hs]
    ·simp [hs]
   have HC := Lib.hid (HF.out y)
   obtain ⟨d, hd⟩ : ∃ d, so y = d := ⟨_, rfl⟩
   rw [hd] at HC HTK
   obtain ⟨⟨yh1, yh2⟩, yk, yo, ⟨ya1, ya2⟩, ⟨yb1, yb2⟩, yi⟩ := y
   unfold stmV at HC
   simp only at HC
   clear hcc hrz hez hzz hy hd
   obtain ⟨c0, c1, c2, c3, c4, c5, c6, c7, c8⟩ := n9 hc
   have hka : KF wr (wr.alloc (bM yk yh1 yh2 yo ya1 ya2 yb1 yb2 yi)) := (Keeps.refl _ _).alloc _
   have hal := (MapKept.heap_alloc wr (bM yk yh1 yh2 yo ya1 ya2 yb1 yb2 yi)).1
   have HJ : Hid (KF W (wr.alloc (bM yk yh1 yh2 yo ya1 ya2 yb1 yb2 yi)) ∧ OwnK stmE W.heap.size (wr.alloc (bM yk yh1 yh2 yo ya1 ya2 yb1 yb2 yi)) ov ((l.take i).filter so)) := ⟨HI.out.1.trans hka, HI.out.2.keeps hka (fun _ _ z => z)⟩
   obtain ⟨b, hb⟩ : ∃ b, wr.heap.size = b := ⟨_, rfl⟩
   rw [hb] at hal
   have HB := Lib.hid hal
   go_upto_region 5 with fail
   (try simp only [hb])
   clear hka hal hb hc hg HI c0 c1 c2 c3 c4 c5 c6 c7 c8
   generalize wr.alloc (bM yk yh1 yh2 yo ya1 ya2 yb1 yb2 yi) = w6 at *
   obtain ⟨p0, f0, p1, f1, p2, f2, p3, f3, p4, f4, p5, f5, p6, f6, p7, f7, p8, f8⟩ := cf9 HB.out
   clear f0 f1 f2 f3 f4 f5 f6 f7 f8
   go_wp2_with fail
   rw [HEN.out, Oper.upon_enter]
   refine (HC.out _ HJ.out.1).mono ?_
   rintro e w7 ⟨rfl, hk⟩
   have HJ7 : Hid (KF W w7 ∧ OwnK stmE W.heap.size w7 ov ((l.take i).filter so)) := ⟨HJ.out.1.trans hk.out, HJ.out.2.keeps hk.out (fun _ _ z => z)⟩
   have HB7 := Lib.hid ((hk.out.block _ (lt_of_heap HB.out) (fun x => x)).trans HB.out)
   clear HC HJ HB hk p0 p1 p2 p3 p4 p5 p6 p7 p8
   cases d
   case false =>
    have HN2 : Hid (KF W w7 ∧ OwnK stmE W.heap.size w7 ov ((l.take (i + 1)).filter so)) := ⟨HJ7.out.1, by rw [HTK.out]; simp only [Bool.false_eq_true, if_false, List.append_nil]; exact HJ7.out.2⟩
    clear HJ7 HB7 HTK
    go_wp2_with fail
    go_roundg (n - (i + 1))
    case measure => omega
    case rel => exact ⟨i + 1, _, by omega, rfl, by go_num, rfl, HN2⟩
   case true =>
    obtain ⟨p0, f0, p1, f1, p2, f2, p3, f3, p4, f4, p5, f5, p6, f6, p7, f7, p8, f8⟩ := cf9 HB7.out
    clear f0 f1 f2 f3 f4 f5 f6 f7 f8
    have hka : KF w7 (w7.alloc (bM yk yh1 yh2 yo ya1 ya2 yb1 yb2 yi)) := (Keeps.refl _ _).alloc _
    have HJE : Hid (KF W (w7.alloc (bM yk yh1 yh2 yo ya1 ya2 yb1 yb2 yi)) ∧ OwnK stmE W.heap.size (w7.alloc (bM yk yh1 yh2 yo ya1 ya2 yb1 yb2 yi)) ov ((l.take i).filter so)) := ⟨HJ7.out.1.trans hka, HJ7.out.2.keeps hka (fun _ _ z => z)⟩
    have HSZ := Lib.hid HJE.out.1.size
    have hfl := HFL.out i
    clear hka HJ7 HB7
    go_wp2_with (at_builtin; refine app_k (E := stmE) rfl _ _ rfl W.heap.size ov ((l.take i).filter so) rfl HJE.out.2 _ [((yh1, yh2), yk, yo, (ya1, ya2), (yb1, yb2), yi)] rfl (one_srcK (E := stmE) w7 ((yh1, yh2), yk, yo, (ya1, ya2), (yb1, yb2), yi) #[.int .i64 yk, .string ⟨yh1.toArray⟩, .string ⟨yh2.toArray⟩, .string ⟨yo.toArray⟩, .string ⟨ya1.toArray⟩, .string ⟨ya2.toArray⟩, .string ⟨yb1.toArray⟩, .string ⟨yb2.toArray⟩, .string ⟨yi.toArray⟩] rfl) (by simp only [List.length_cons, List.length_nil]; omega) HSZ.out ?_)
    intro ov' w9 ho hk
    have HN2 : Hid (KF W w9 ∧ OwnK stmE W.heap.size w9 ov' ((l.take (i + 1)).filter so)) := ⟨HJE.out.1.trans_new hk (fun q hq e => by have := own_block HJE.out.2 q e; omega), by rw [HTK.out]; exact ho⟩
    clear HJE HSZ HTK ho hk p0 p1 p2 p3 p4 p5 p6 p7 p8 hfl
    go_wp2_with fail
    go_roundg (n - (i + 1))
    case measure => omega
    case rel => exact ⟨i + 1, _, by omega, rfl, by go_num, rfl, HN2⟩
  ·obtain rfl : i = n := by omega
   have hiI : ¬ (i : Int) < (i : Int) := by omega
   have HS : Hid (∃ fl, l.filter so = fl ∧ OwnK stmE W.heap.size wr ov fl ∧ fl.length ≤ 10000) := ⟨_, rfl, by have := HI.out.2; rw [List.take_of_length_le (by have := HN.out; omega)] at this; exact this, by have := List.length_filter_le so l; have := HN.out; omega⟩
   obtain ⟨fl, hfl, hfo, hf1⟩ := HS.out
   have HSR := Lib.hid (ssort_own hfo.src hf1)
   have HK := Lib.hid HI.out.1
   have HFQ := Lib.hid hfl
   clear HS hfl hfo hf1 HI
   go_wp2_with fail
   refine HSR.out.mono ?_
   rintro e w2 ⟨v2, rfl, h2⟩
   have HE : Hid (KF W w2 ∧ OwnK stmE W.heap.size w2 v2 (sortO stmLt (l.filter so))) := ⟨HK.out.trans h2.out.1, by rw [HFQ.out]; exact h2.out.2.base HK.out.size⟩
   clear HSR h2 HK HFQ
   go_wp2_with fail
   go_ret
   exact ⟨_, rfl, HE⟩
theorem minus1_spec {W : World} {cb : Nat} {v : Value} {b : List Stm} (hc : W.cell? ⟨cb, 0, none⟩ = some v) (h : RdK stmE W v b) (hl : b.length ≤ 1000000) (s : Stm) : Calls Tryz.prog 127 #[stmV s, .pointer (some ⟨cb, 0, none⟩)] W fun e W' => e = .returned (.bool (!decide (s ∈ b))) ∧ Hid (KF W W') := by
 obtain ⟨d, hd⟩ : ∃ d, decide (s ∈ b) = d := ⟨_, rfl⟩
 obtain ⟨⟨sh1, sh2⟩, sk, so, ⟨sa1, sa2⟩, ⟨sb1, sb2⟩, si⟩ := s
 obtain ⟨ao, cap, hv, _⟩ := id h
 obtain ⟨n, hn⟩ : ∃ n : Nat, v = .slice ao n cap := ⟨_, hv⟩
 clear hv
 subst hn
 obtain ⟨WA, hWA⟩ : ∃ q, W.alloc (bM sk sh1 sh2 so sa1 sa2 sb1 sb2 si) = q := ⟨_, rfl⟩
 have hal := (MapKept.heap_alloc W (bM sk sh1 sh2 so sa1 sa2 sb1 sb2 si)).1
 have HKWA : Hid (KF W WA) := by rw [← hWA]; exact (Keeps.refl _ _).alloc _
 rw [hWA] at hal
 obtain ⟨sb, hsb⟩ : ∃ q, W.heap.size = q := ⟨_, rfl⟩
 have HBsb := Lib.hid hsb
 rw [hsb] at hal
 have HAWA := Lib.hid hal
 clear hal
 have HC := Lib.hid (shas_spec (h.keeps HKWA.out) hl ((sh1, sh2), sk, so, (sa1, sa2), (sb1, sb2), si))
 obtain ⟨p0, f0, p1, f1, p2, f2, p3, f3, p4, f4, p5, f5, p6, f6, p7, f7, p8, f8⟩ := cf9 HAWA.out
 have c0 := (HKWA.out.cell (p := ⟨cb, 0, none⟩) (World.block_lt_of_cell? _ _ hc) (fun x => x)).trans hc
 rw [hd] at HC ⊢
 clear hd h hc f0 f1 f2 f3 f4 f5 f6 f7 f8
 unfold stmV at HC ⊢
 simp only at HC ⊢
 go_enter Tryz.func127, Tryz.ntmps127
 go_upto_region 1 with fail
 (try simp only [hWA, hsb])
 clear hWA hsb
 go_wp2_with fail
 refine HC.out.mono ?_
 rintro e w2 ⟨rfl, hr⟩
 have HE : Hid (KF W w2) := HKWA.out.trans hr.out
 clear HC hr
 go_wp2_with fail
 go_ret
 exact ⟨rfl, HE⟩
def minL (a b : List Stm) : List Stm := sortO stmLt (a.filter (fun y => !decide (y ∈ b)))
theorem sminus_spec {W : World} {va vb : Value} {a b : List Stm} (ha : RdK stmE W va a) (hb : RdK stmE W vb b) (h1 : a.length ≤ 10000) (h2 : b.length ≤ 1000000) :
 Calls Tryz.prog 78 #[va, vb] W fun e W' => ∃ v', e = .returned v' ∧ Hid (KF W W' ∧ OwnK stmE W.heap.size W' v' (minL a b)) := by
 obtain ⟨bo, bc, hv, _⟩ := id hb
 obtain ⟨bn, hn⟩ : ∃ n : Nat, vb = .slice bo n bc := ⟨_, hv⟩
 clear hv
 subst hn
 obtain ⟨ao, ac, hv, _⟩ := id ha
 obtain ⟨an, hn⟩ : ∃ n : Nat, va = .slice ao n ac := ⟨_, hv⟩
 clear hv
 subst hn
 obtain ⟨WA, hWA⟩ : ∃ q, W.alloc (.cells #[.slice bo bn bc] 22) = q := ⟨_, rfl⟩
 have hal := (MapKept.heap_alloc W (.cells #[.slice bo bn bc] 22)).1
 have HKWA : Hid (KF W WA) := by rw [← hWA]; exact (Keeps.refl _ _).alloc _
 rw [hWA] at hal
 obtain ⟨cb, hcb⟩ : ∃ q, W.heap.size = q := ⟨_, rfl⟩
 have HBcb := Lib.hid hcb
 rw [hcb] at hal
 have HAWA := Lib.hid hal
 clear hal
 have hcell : WA.cell? ⟨cb, 0, none⟩ = some (.slice bo bn bc) := by rw [cell_of_heap HAWA.out]; rfl
 have HC := Lib.hid (sonly_spec (fn := 127) (cb := cb) (so := fun y => !decide (y ∈ b)) (ha.keeps HKWA.out) h1 (fun _ _ => rfl) (fun y w hk => minus1_spec (kc hk hcell) (hb.keeps (HKWA.out.trans hk)) h2 y))
 clear ha hb hcell
 go_enter Tryz.func78, Tryz.ntmps78
 go_upto_region 1 with fail
 (try simp only [hWA, hcb])
 clear hWA hcb
 go_wp2_with fail
 refine HC.out.mono ?_
 rintro e w2 ⟨v2, rfl, hr⟩
 have HE : Hid (KF W w2 ∧ OwnK stmE W.heap.size w2 v2 (minL a b)) := ⟨HKWA.out.trans hr.out.1, hr.out.2.base HKWA.out.size⟩
 clear HC hr
 go_wp2_with fail
 go_ret
 exact ⟨_, rfl, HE⟩
theorem sunion_spec {W : World} {va vb : Value} {a b : List Stm} (ha : SrcK stmE W va a) (hb : SrcK stmE W vb b) (h1 : a.length ≤ 5000) (h2 : b.length ≤ 5000) :
 Calls Tryz.prog 77 #[va, vb] W fun e W' => ∃ v', e = .returned v' ∧ Hid (KF W W' ∧ OwnK stmE W.heap.size W' v' (sortO stmLt (a ++ b))) := by
 obtain ⟨bo, bc, hv, _⟩ := id hb.1
 obtain ⟨bn, hn⟩ : ∃ n : Nat, vb = .slice bo n bc := ⟨_, hv⟩
 clear hv
 subst hn
 obtain ⟨ao, ac, hv, _⟩ := id ha.1
 obtain ⟨an, hn⟩ : ∃ n : Nat, va = .slice ao n ac := ⟨_, hv⟩
 clear hv
 subst hn
 obtain ⟨WA, hWA⟩ : ∃ q, W.alloc (.cells #[.slice ao an ac, .slice bo bn bc] 22) = q := ⟨_, rfl⟩
 have hal := (MapKept.heap_alloc W (.cells #[.slice ao an ac, .slice bo bn bc] 22)).1
 have HKWA : Hid (KF W WA) := by rw [← hWA]; exact (Keeps.refl _ _).alloc _
 rw [hWA] at hal
 obtain ⟨cb, hcb⟩ : ∃ q, W.heap.size = q := ⟨_, rfl⟩
 have HBcb := Lib.hid hcb
 rw [hcb] at hal
 have HAWA := Lib.hid hal
 clear hal
 have c0 : WA.cell? ⟨cb, 0, none⟩ = some (.slice ao an ac) := by rw [cell_of_heap HAWA.out]; rfl
 have c1 : WA.cell? ⟨cb, 1, none⟩ = some (.slice bo bn bc) := by rw [cell_of_heap HAWA.out]; rfl
 have HC := Lib.hid (mconcat_spec (lt_of_heap HAWA.out) c0 c1 (ha.keeps HKWA.out) (hb.keeps HKWA.out) (by omega) (by omega))
 have HL : Hid ((a ++ b).length ≤ 10000) := by show _ ≤ _; rw [List.length_append]; omega
 clear ha hb c0 c1 h1 h2
 go_enter Tryz.func77, Tryz.ntmps77
 go_wp2_with fail
 (try simp only [hWA, hcb])
 clear hWA hcb
 refine HC.out.mono ?_
 rintro e w2 ⟨v2, rfl, hr⟩
 have HS := Lib.hid (ssort_own hr.out.1.src HL.out)
 have HK : Hid (KF W w2) := HKWA.out.trans hr.out.2
 clear HC hr
 go_wp2_with fail
 refine HS.out.mono ?_
 rintro e w3 ⟨v3, rfl, hr⟩
 have HE : Hid (KF W w3 ∧ OwnK stmE W.heap.size w3 v3 (sortO stmLt (a ++ b))) := ⟨HK.out.trans hr.out.1, hr.out.2.base HK.out.size⟩
 clear HS hr HK
 go_wp2_with fail
 go_ret
 exact ⟨_, rfl, HE⟩
end Go.Proofs.YtckikkkdabpjkaaGreat
