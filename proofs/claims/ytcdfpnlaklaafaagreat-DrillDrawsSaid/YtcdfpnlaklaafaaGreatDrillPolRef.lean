/-
 The drawing of policies: the document's.
-/
import Derived.Test.YtcdfpnlaklaafaaGreatDrillPol
set_option linter.unusedVariables false
set_option linter.unusedSimpArgs false
set_option linter.unnecessarySimpa false
namespace Go.Proofs.YtcdfpnlaklaafaaGreat
open Go.ChangeShapes Go.WideShapes Go.ChangeAt Go.RowKit Go.Deep
set_option maxRecDepth 100000
set_option maxHeartbeats 12800000
theorem rpol_spec {W : World} {b : Nat} {x : Int} {s : Shp} (hf : fitsD s = true) (h : StB W 30 b x) :
  Calls Tryz.prog 18 #[.pointer (some ⟨b, 0, none⟩), ShpV s] W (PolDr W 30 b (polD x s).1 (polD x s).2) := by
 have hbl := lt_of_heap h.1
 have hal := (MapKept.heap_alloc W (.cells #[.int .i64 s.prins, .int .i64 s.links, .int .i64 s.stmts, .int .i64 s.grow, .int .i64 s.shrink, .int .i64 s.asks] 24)).1
 obtain ⟨WA, hWA⟩ : ∃ WA, W.alloc (.cells #[.int .i64 s.prins, .int .i64 s.links, .int .i64 s.stmts, .int .i64 s.grow, .int .i64 s.shrink, .int .i64 s.asks] 24) = WA := ⟨_, rfl⟩
 have hkA : Keeps (fun _ => False) W WA := by rw [← hWA]; exact (Keeps.refl _ _).alloc _
 have hsz : WA.heap.size = W.heap.size + 1 := by rw [← hWA]; simp
 rw [hWA] at hal
 have hal2 := (MapKept.heap_alloc WA (.cells #[.slice none 0 0, .slice none 0 0, .slice none 0 0, .slice none 0 0] 57)).1
 obtain ⟨WB, hWB⟩ : ∃ WB, WA.alloc (.cells #[.slice none 0 0, .slice none 0 0, .slice none 0 0, .slice none 0 0] 57) = WB := ⟨_, rfl⟩
 have hkB : Keeps (fun _ => False) WA WB := by rw [← hWB]; exact (Keeps.refl _ _).alloc _
 rw [hWB] at hal2
 have HS0 : Hid (WB.heap[W.heap.size]? = some (.cells #[.int .i64 s.prins, .int .i64 s.links, .int .i64 s.stmts, .int .i64 s.grow, .int .i64 s.shrink, .int .i64 s.asks] 24)) := (hkB.block _ (lt_of_heap hal) (fun x => x)).trans hal
 have HX0 := Lib.hid hal2
 have HK0 := Lib.hid (hkA.trans hkB)
 have HST0 := Lib.hid (h.keeps HK0.out (fun x => x))
 have HN : Hid (W.heap.size ≠ b ∧ WA.heap.size ≠ b ∧ WA.heap.size ≠ W.heap.size ∧ W.heap.size ≤ WA.heap.size ∧ b < W.heap.size) := ⟨by omega, by omega, by omega, by omega, hbl⟩
 clear hal hal2 hkA hkB hsz hbl h
 have hsr : 0 ≤ s.stmts ∧ s.stmts ≤ 40 ∧ 0 ≤ s.grow ∧ s.grow ≤ 40 ∧ 0 ≤ s.shrink ∧ s.shrink ≤ 40 ∧ 0 ≤ s.asks ∧ s.asks ≤ 8 := by
  have q := hf
  unfold fitsD at q
  rw [decide_eq_true_eq] at q
  omega
 obtain ⟨hr0, hr1, hr2, hr3, hr4, hr5, hr6, hr7⟩ := hsr
 obtain ⟨n0, ht0⟩ : ∃ n, s.stmts.toNat = n := ⟨_, rfl⟩
 obtain ⟨n1, ht1⟩ : ∃ n, s.grow.toNat = n := ⟨_, rfl⟩
 obtain ⟨n2, ht2⟩ : ∃ n, s.shrink.toNat = n := ⟨_, rfl⟩
 obtain ⟨n3, ht3⟩ : ∃ n, s.asks.toNat = n := ⟨_, rfl⟩
 have hb0 : (n0 : Int) ≤ s.stmts ∧ s.stmts ≤ (n0 : Int) ∧ n0 ≤ 40 := ⟨by omega, by omega, by omega⟩
 have hb1 : (n1 : Int) ≤ s.grow ∧ s.grow ≤ (n1 : Int) ∧ n1 ≤ 40 := ⟨by omega, by omega, by omega⟩
 have hb2 : (n2 : Int) ≤ s.shrink ∧ s.shrink ≤ (n2 : Int) ∧ n2 ≤ 40 := ⟨by omega, by omega, by omega⟩
 have hb3 : (n3 : Int) ≤ s.asks ∧ s.asks ≤ (n3 : Int) ∧ n3 ≤ 8 := ⟨by omega, by omega, by omega⟩
 have HBD := Lib.hid (And.intro hb0 (And.intro hb1 (And.intro hb2 hb3)))
 obtain ⟨⟨l0, x1⟩, e0⟩ : ∃ q, (manyD (fun x => stmD x s) n0 x) = q := ⟨_, rfl⟩
 obtain ⟨⟨l1, x2⟩, e1⟩ : ∃ q, (manyD (fun x => rolD x s) n1 x1) = q := ⟨_, rfl⟩
 obtain ⟨⟨l2, x3⟩, e2⟩ : ∃ q, (manyD (fun x => rolD x s) n2 x2) = q := ⟨_, rfl⟩
 obtain ⟨⟨l3, x4⟩, e3⟩ : ∃ q, (manyD (fun x => askD x s) n3 x3) = q := ⟨_, rfl⟩
 have hn0 : l0.length = n0 := by have q := manyD_len (fun x => stmD x s) n0 x; rw [e0] at q; exact q
 have hn1 : l1.length = n1 := by have q := manyD_len (fun x => rolD x s) n1 x1; rw [e1] at q; exact q
 have hn2 : l2.length = n2 := by have q := manyD_len (fun x => rolD x s) n2 x2; rw [e2] at q; exact q
 have hn3 : l3.length = n3 := by have q := manyD_len (fun x => askD x s) n3 x3; rw [e3] at q; exact q
 have hwho : ∀ q ∈ l3, q.2.2.2.length ≤ 1000 := by have q := many_asks s n3 x3; rw [e3] at q; exact q
 have HFEW : Hid (FewP (l0, l1, l2, l3)) := ⟨by show l0.length ≤ _; omega, by show l1.length ≤ _; omega, by show l2.length ≤ _; omega, by show l3.length ≤ _; omega, hwho⟩
 have HE : Hid (polD x s = (normP (l0, l1, l2, l3), x4)) := by
  show _ = _
  skip
  unfold polD
  simp only [ht0, ht1, ht2, ht3, e0, e1, e2, e3]
  rfl
 rw [HE.out]
 obtain ⟨np, hnp⟩ : ∃ q, normP (l0, l1, l2, l3) = q := ⟨_, rfl⟩
 have HNRM : Hid (∀ (lo : Nat) (W' : World) (v0 v1 v2 v3 : Value), PolX W' v0 v1 v2 v3 (l0, l1, l2, l3) (fun k => lo ≤ k) → lo ≤ W'.heap.size → Calls Tryz.prog 35 #[.agg #[v0, v1, v2, v3]] W' (PolTo W' np (fun k => lo ≤ k) (fun _ => False))) := fun lo W' v0 v1 v2 v3 h hs => by
  have q := rpnorm_spec h (fun k hk => Nat.le_trans hs hk) HFEW.out
  rw [hnp] at q
  exact q
 rw [hnp]
 have HM0 := Lib.hid e0; have HM1 := Lib.hid e1; have HM2 := Lib.hid e2; have HM3 := Lib.hid e3
 have HC0 : Hid (∀ (y : Int) (W : World), StB W 30 b y → Calls Tryz.prog 13 #[.pointer (some ⟨b, 0, none⟩), ShpV s] W (DrTo W 30 b (stmV (stmD y s).1) (stmD y s).2)) := fun y W h => by
  exact rstmt_spec hf h
 have HC1 : Hid (∀ (y : Int) (W : World), StB W 30 b y → Calls Tryz.prog 11 #[.pointer (some ⟨b, 0, none⟩), ShpV s] W (DrTo W 30 b (rolV (rolD y s).1) (rolD y s).2)) := fun y W h => by
  exact rrole_spec hf h
 have HC3 : Hid (∀ (y : Int) (W : World), StB W 30 b y → Calls Tryz.prog 15 #[.pointer (some ⟨b, 0, none⟩), ShpV s] W (AskTo W 30 b (askD y s).1 (askD y s).2)) := fun y W h => by
  exact rask_spec hf h
 have HSU0 : Hid (∀ i, (manyD (fun x => stmD x s) (i + 1) x).1 = (manyD (fun x => stmD x s) i x).1 ++ [(stmD (manyD (fun x => stmD x s) i x).2 s).1] ∧ (manyD (fun x => stmD x s) (i + 1) x).2 = (stmD (manyD (fun x => stmD x s) i x).2 s).2) := fun i => manyD_succ (fun x => stmD x s) i x
 have HSU1 : Hid (∀ i, (manyD (fun x => rolD x s) (i + 1) x1).1 = (manyD (fun x => rolD x s) i x1).1 ++ [(rolD (manyD (fun x => rolD x s) i x1).2 s).1] ∧ (manyD (fun x => rolD x s) (i + 1) x1).2 = (rolD (manyD (fun x => rolD x s) i x1).2 s).2) := fun i => manyD_succ (fun x => rolD x s) i x1
 have HSU2 : Hid (∀ i, (manyD (fun x => rolD x s) (i + 1) x2).1 = (manyD (fun x => rolD x s) i x2).1 ++ [(rolD (manyD (fun x => rolD x s) i x2).2 s).1] ∧ (manyD (fun x => rolD x s) (i + 1) x2).2 = (rolD (manyD (fun x => rolD x s) i x2).2 s).2) := fun i => manyD_succ (fun x => rolD x s) i x2
 have HSU3 : Hid (∀ i, (manyD (fun x => askD x s) (i + 1) x3).1 = (manyD (fun x => askD x s) i x3).1 ++ [(askD (manyD (fun x => askD x s) i x3).2 s).1] ∧ (manyD (fun x => askD x s) (i + 1) x3).2 = (askD (manyD (fun x => askD x s) i x3).2 s).2) := fun i => manyD_succ (fun x => askD x s) i x3
 have HLE0 : Hid (∀ i, (manyD (fun x => stmD x s) i x).1.length = i) := fun i => manyD_len (fun x => stmD x s) i x
 have HLE1 : Hid (∀ i, (manyD (fun x => rolD x s) i x1).1.length = i) := fun i => manyD_len (fun x => rolD x s) i x1
 have HLE2 : Hid (∀ i, (manyD (fun x => rolD x s) i x2).1.length = i) := fun i => manyD_len (fun x => rolD x s) i x2
 have HLE3 : Hid (∀ i, (manyD (fun x => askD x s) i x3).1.length = i) := fun i => manyD_len (fun x => askD x s) i x3
 skip
 clear HE hnp e0 e1 e2 e3 hn0 hn1 hn2 hn3 hwho hf ht0 ht1 ht2 ht3 hb0 hb1 hb2 hb3 hr0 hr1 hr2 hr3 hr4 hr5 hr6 hr7
 unfold ShpV at *
 obtain ⟨Sc0, Sf0, Sc1, Sf1, Sc2, Sf2, Sc3, Sf3, Sc4, Sf4, Sc5, Sf5⟩ := cf6 HS0.out
 obtain ⟨Xc0, Xf0, Xc1, Xf1, Xc2, Xf2, Xc3, Xf3⟩ := cf4 HX0.out
 go_enter Tryz.func18, Tryz.ntmps18
 go_upto_region 1 with fail
 clear hWA hWB
 clear Sc0 Sf0 Sc1 Sf1 Sc2 Sf2 Sc3 Sf3 Sc4 Sf4 Sc5 Sf5 Xc0 Xf0 Xc1 Xf1 Xc2 Xf2 Xc3 Xf3
 have hal := (MapKept.heap_alloc WB (.cells #[.slice none 0 0, .slice none 0 0, .slice none 0 0, .slice none 0 0] 57)).1
 have hkE : Keeps (fun _ => False) WB (WB.alloc (.cells #[.slice none 0 0, .slice none 0 0, .slice none 0 0, .slice none 0 0] 57)) := (Keeps.refl _ _).alloc _
 obtain ⟨YB, hYB⟩ : ∃ q, WB.heap.size = q := ⟨_, rfl⟩
 rw [hYB] at hal
 have HS589 := Lib.hid (((hkE).block _ (lt_of_heap HS0.out) (fun x => x)).trans HS0.out)
 have HX590 := Lib.hid (((hkE).block _ (lt_of_heap HX0.out) (fun x => x)).trans HX0.out)
 have HN588 : Hid ((W.heap.size ≠ b ∧ WA.heap.size ≠ b ∧ WA.heap.size ≠ W.heap.size ∧ W.heap.size ≤ WA.heap.size ∧ b < W.heap.size) ∧ W.heap.size ≤ YB ∧ W.heap.size < YB ∧ WA.heap.size < YB ∧ b < YB) := ⟨HN.out, by
  have hz := HK0.out.size
  have l0 := lt_of_heap HS0.out
  have l1 := lt_of_heap HX0.out
  have ls := lt_of_heap HST0.out.1
  refine ⟨?_, ?_, ?_, ?_⟩ <;> omega⟩
 have HS591 := Lib.hid (HST0.out.keeps hkE (fun x => x))
 have HK592 := Lib.hid (HK0.out.trans hkE)
 have HY593 := Lib.hid hal
 clear hkE hal HS0 HX0 HN HST0 HK0
 go_upto_region 2 with fail
 clear hYB
 generalize (WB.alloc (.cells #[.slice none 0 0, .slice none 0 0, .slice none 0 0, .slice none 0 0] 57)) = w587 at *
 obtain ⟨Sc0, Sf0, Sc1, Sf1, Sc2, Sf2, Sc3, Sf3, Sc4, Sf4, Sc5, Sf5⟩ := cf6 HS589.out
 go_upto_region 3 with fail
 clear Sc0 Sf0 Sc1 Sf1 Sc2 Sf2 Sc3 Sf3 Sc4 Sf4 Sc5 Sf5
 obtain ⟨L0, hL0⟩ : ∃ q, w587.heap.size = q := ⟨_, rfl⟩
 have HN594 : Hid (((W.heap.size ≠ b ∧ WA.heap.size ≠ b ∧ WA.heap.size ≠ W.heap.size ∧ W.heap.size ≤ WA.heap.size ∧ b < W.heap.size) ∧ W.heap.size ≤ YB ∧ W.heap.size < YB ∧ WA.heap.size < YB ∧ b < YB) ∧ W.heap.size < L0 ∧ WA.heap.size < L0 ∧ YB < L0 ∧ W.heap.size ≤ L0) := ⟨HN588.out, by
  have hz := HK592.out.size
  have l0 := lt_of_heap HS589.out
  have l1 := lt_of_heap HX590.out
  have l2 := lt_of_heap HY593.out
  refine ⟨?_, ?_, ?_, ?_⟩ <;> omega⟩
 clear HN588
 have HSL0 : Hid (L0 ≤ w587.heap.size) := by show _ ≤ _; omega
 clear hL0
 go_wp2_with fail
 go_loopg [6] n0 (fun g t wx => ∃ (i : Nat) (ao : Option Addr) (cap : Nat), i ≤ n0 ∧ g = n0 - i ∧ t = .int .i64 i ∧ Hid (StB wx 30 b (manyD (fun x => stmD x s) i x).2 ∧ Keeps (fun q => q = b) W wx ∧ L0 ≤ wx.heap.size ∧ wx.heap[W.heap.size]? = some (.cells #[.int .i64 s.prins, .int .i64 s.links, .int .i64 s.stmts, .int .i64 s.grow, .int .i64 s.shrink, .int .i64 s.asks] 24) ∧ wx.heap[WA.heap.size]? = some (.cells #[.slice none 0 0, .slice none 0 0, .slice none 0 0, .slice none 0 0] 57) ∧ wx.heap[YB]? = some (.cells #[.slice ao i cap, .slice none 0 0, .slice none 0 0, .slice none 0 0] 57) ∧ OwnK stmE L0 wx (.slice ao i cap) (manyD (fun x => stmD x s) i x).1))
 case atStart => exact ⟨0, none, 0, Nat.zero_le _, rfl, rfl, HS591.out, HK592.out.mono (fun _ _ x => x.elim), HSL0.out, HS589.out, HX590.out, HY593.out, ownK_nil stmE _ _⟩
 case round =>
  obtain ⟨i, ao, cap, hi, rfl, rfl, HI⟩ := hrel
  clear HS591 HK592 HSL0 HS589 HX590 HY593 
  by_cases hlt : i < n0
  ·have hiI : (i : Int) < s.stmts := by have := HBD.out; omega
   have hi100 : i < 100 := by have := HBD.out; omega
   have HT1 := Lib.hid HI.out.1
   have HK1 := Lib.hid HI.out.2.1
   have HSZ := Lib.hid HI.out.2.2.1
   have HBS := Lib.hid HI.out.2.2.2.1
   have HBX := Lib.hid HI.out.2.2.2.2.1
   have HBP := Lib.hid HI.out.2.2.2.2.2.1
   have HRO := Lib.hid HI.out.2.2.2.2.2.2
   clear HI
   have hwi : IntKind.i64.wrap ((i : Int) + 1) = (i : Int) + 1 := IntWalk.i64_in _ (by omega)
   obtain ⟨y, hy⟩ : ∃ q, (manyD (fun x => stmD x s) i x).2 = q := ⟨_, rfl⟩
   obtain ⟨ol, hol⟩ : ∃ q, (manyD (fun x => stmD x s) i x).1 = q := ⟨_, rfl⟩
   have HNX : Hid ((manyD (fun x => stmD x s) (i + 1) x).1 = ol ++ [(stmD y s).1] ∧ (manyD (fun x => stmD x s) (i + 1) x).2 = (stmD y s).2 ∧ ol.length = i) := by
    refine ⟨?_, ?_, ?_⟩
    ·rw [(HSU0.out i).1, hol, hy]
    ·rw [(HSU0.out i).2, hy]
    ·rw [← hol]; exact HLE0.out i
   rw [hy] at HT1
   rw [hol] at HRO
   have HCC := Lib.hid (HC0.out y)
   obtain ⟨⟨nn, yq⟩, hnn⟩ : ∃ q, stmD y s = q := ⟨_, rfl⟩
   rw [hnn] at HCC HNX
   clear hnn hy hol
   obtain ⟨⟨nh1, nh2⟩, nk, no, ⟨na1, na2⟩, ⟨nb1, nb2⟩, ni⟩ := nn
   unfold stmV at HCC
   simp only at HCC
   obtain ⟨Sc0, Sf0, Sc1, Sf1, Sc2, Sf2, Sc3, Sf3, Sc4, Sf4, Sc5, Sf5⟩ := cf6 HBS.out
   go_upto_region 5 with fail
   clear Sc0 Sf0 Sc1 Sf1 Sc2 Sf2 Sc3 Sf3 Sc4 Sf4 Sc5 Sf5
   have HMK595 : Hid (∀ w' : World, w'.heap[W.heap.size]? = some (.cells #[.int .i64 s.prins, .int .i64 s.links, .int .i64 s.stmts, .int .i64 s.grow, .int .i64 s.shrink, .int .i64 s.asks] 24) → w'.cell? ⟨W.heap.size, 0, none⟩ = some (.int .i64 s.prins) ∧ w'.cell? ⟨W.heap.size, 1, none⟩ = some (.int .i64 s.links) ∧ w'.cell? ⟨W.heap.size, 2, none⟩ = some (.int .i64 s.stmts) ∧ w'.cell? ⟨W.heap.size, 3, none⟩ = some (.int .i64 s.grow) ∧ w'.cell? ⟨W.heap.size, 4, none⟩ = some (.int .i64 s.shrink) ∧ w'.cell? ⟨W.heap.size, 5, none⟩ = some (.int .i64 s.asks) ∧ Hid (w'.heap[W.heap.size]? = some (.cells #[.int .i64 s.prins, .int .i64 s.links, .int .i64 s.stmts, .int .i64 s.grow, .int .i64 s.shrink, .int .i64 s.asks] 24))) := fun w' h0 => ⟨(by rw [cell_of_heap h0]; rfl), (by rw [cell_of_heap h0]; rfl), (by rw [cell_of_heap h0]; rfl), (by rw [cell_of_heap h0]; rfl), (by rw [cell_of_heap h0]; rfl), (by rw [cell_of_heap h0]; rfl), Lib.hid h0⟩
   have hkd : Keeps (fun _ => False) wr wr.drew := (Keeps.refl _ _).drew
   have HS596 := Lib.hid (((hkd).block _ (lt_of_heap HBS.out) (fun x => x)).trans HBS.out)
   have HX597 := Lib.hid (((hkd).block _ (lt_of_heap HBX.out) (fun x => x)).trans HBX.out)
   have HY598 := Lib.hid (((hkd).block _ (lt_of_heap HBP.out) (fun x => x)).trans HBP.out)
   have HE599 := Lib.hid (OwnK.keeps HRO.out (hkd) (fun _ _ x => x))
   have HE600 := Lib.hid (Nat.le_trans HSZ.out (hkd).size)
   have HS601 := Lib.hid (HT1.out.keeps hkd (fun x => x))
   have HK602 := Lib.hid (HK1.out.drew)
   have hS0 := HMK595.out wr.drew HS596.out
   clear hkd HBS HBX HBP HRO HSZ HT1 HK1
   refine wp_region_noPanic ?_
   refine wp_region_held_drew (S := (fun w' => w'.cell? ⟨W.heap.size, 0, none⟩ = some (.int .i64 s.prins) ∧ w'.cell? ⟨W.heap.size, 1, none⟩ = some (.int .i64 s.links) ∧ w'.cell? ⟨W.heap.size, 2, none⟩ = some (.int .i64 s.stmts) ∧ w'.cell? ⟨W.heap.size, 3, none⟩ = some (.int .i64 s.grow) ∧ w'.cell? ⟨W.heap.size, 4, none⟩ = some (.int .i64 s.shrink) ∧ w'.cell? ⟨W.heap.size, 5, none⟩ = some (.int .i64 s.asks) ∧ Hid (w'.heap[W.heap.size]? = some (.cells #[.int .i64 s.prins, .int .i64 s.links, .int .i64 s.stmts, .int .i64 s.grow, .int .i64 s.shrink, .int .i64 s.asks] 24)))) (by kernel_rfl) hS0 (fun hHeld => ?_)
   clear hS0
   generalize wr.drew = w603 at *
   refine wpAnyH_take_at (i := 0) (v := ?v0_604) rfl (by kernel_rfl) (by kernel_rfl) (by kernel_rfl) (fun _ _ _ h => h) (Or.inl ⟨by rfl, ?y0_604⟩) hHeld ?r0_604
   case y0_604 => (intro w hSw; (try dsimp only at hSw); go_simp; first | done | with_reducible rfl)
   (try simp only [Act.put, nm1, nm2, nm3])
   refine wpAnyH_take_at (i := 2) (v := ?v2_605) rfl (by kernel_rfl) (by kernel_rfl) (by kernel_rfl) (fun _ _ _ h => h) (Or.inl ⟨by rfl, ?y2_605⟩) hHeld ?r2_605
   case y2_605 => (intro w hSw; (try dsimp only at hSw); go_simp; first | done | with_reducible rfl)
   (try simp only [Act.put, nm1, nm2, nm3])
   refine wpAnyH_take_at (i := 3) (v := ?v3_606) rfl (by kernel_rfl) (by kernel_rfl) (by kernel_rfl) (fun _ _ _ h => h) (Or.inl ⟨by rfl, ?y3_606⟩) hHeld ?r3_606
   case y3_606 => (intro w hSw; (try dsimp only at hSw); go_simp; first | done | with_reducible rfl)
   (try simp only [Act.put, nm1, nm2, nm3])
   refine wpAnyH_two (i := 1) (j := 4) (by kernel_rfl) rfl rfl (fun KK hK => ?p1_607) (fun KK hK => ?p4_607)
   case p1_607 =>
    obtain ⟨Yc0, Yf0, Yc1, Yf1, Yc2, Yf2, Yc3, Yf3⟩ := cf4 HY598.out
    go_simp
    refine hK.out _ _ ?s_608 (fun hHeld => ?_)
    case s_608 => exact HMK595.out _ HS596.out
    clear hK KK
    (try simp only [Act.put, nm1, nm2, nm3])
    clear Yc0 Yf0 Yc1 Yf1 Yc2 Yf2 Yc3 Yf3
    refine wpAnyH_one (i := 4) (by kernel_rfl) rfl (fun KK hK => ?_)
    go_simp
    refine (HCC.out _ HS601.out).mono ?_
    rintro e w609 ⟨rfl, hk⟩
    have HS610 := Lib.hid (((hk.out.2).block _ (lt_of_heap HS596.out) (by have := HN594.out; show ¬ _ = _; omega)).trans HS596.out)
    have HX611 := Lib.hid (((hk.out.2).block _ (lt_of_heap HX597.out) (by have := HN594.out; show ¬ _ = _; omega)).trans HX597.out)
    have HY612 := Lib.hid (((hk.out.2).block _ (lt_of_heap HY598.out) (by have := HN594.out; show ¬ _ = _; omega)).trans HY598.out)
    have HE613 := Lib.hid (OwnK.keeps HE599.out (hk.out.2) (fun q hq e => by have e : q = _ := e; have := HN594.out; omega))
    have HE614 := Lib.hid (Nat.le_trans HE600.out (hk.out.2).size)
    have HS615 := Lib.hid (hk.out.1)
    have HK616 := Lib.hid (HK602.out.trans (hk.out.2))
    clear hk HCC HS596 HX597 HY598 HE599 HE600 HS601 HK602
    go_simp
    refine hK.out _ _ ?s_617 (fun hHeld => ?_)
    case s_617 => exact HMK595.out _ HS610.out
    clear hK KK
    (try simp only [Act.put, nm1, nm2, nm3])
    refine wpAnyH_one (i := 5) (by kernel_rfl) rfl (fun KK hK => ?_)
    have hkE : Keeps (fun _ => False) w609 (w609.alloc (.cells #[.int .i64 nk, .string ⟨nh1.toArray⟩, .string ⟨nh2.toArray⟩, .string ⟨no.toArray⟩, .string ⟨na1.toArray⟩, .string ⟨na2.toArray⟩, .string ⟨nb1.toArray⟩, .string ⟨nb2.toArray⟩, .string ⟨ni.toArray⟩] 44)) := (Keeps.refl _ _).alloc _
    have HSR : Hid (RdK stmE (w609.alloc (.cells #[.int .i64 nk, .string ⟨nh1.toArray⟩, .string ⟨nh2.toArray⟩, .string ⟨no.toArray⟩, .string ⟨na1.toArray⟩, .string ⟨na2.toArray⟩, .string ⟨nb1.toArray⟩, .string ⟨nb2.toArray⟩, .string ⟨ni.toArray⟩] 44)) (.slice (some ⟨w609.heap.size, 0, none⟩) 1 1) [((nh1, nh2), nk, no, (na1, na2), (nb1, nb2), ni)]) := (one_srcK stmE w609 ((nh1, nh2), nk, no, (na1, na2), (nb1, nb2), ni) #[.int .i64 nk, .string ⟨nh1.toArray⟩, .string ⟨nh2.toArray⟩, .string ⟨no.toArray⟩, .string ⟨na1.toArray⟩, .string ⟨na2.toArray⟩, .string ⟨nb1.toArray⟩, .string ⟨nb2.toArray⟩, .string ⟨ni.toArray⟩] rfl).1
    have HS618 := Lib.hid (((hkE).block _ (lt_of_heap HS610.out) (fun x => x)).trans HS610.out)
    have HX619 := Lib.hid (((hkE).block _ (lt_of_heap HX611.out) (fun x => x)).trans HX611.out)
    have HY620 := Lib.hid (((hkE).block _ (lt_of_heap HY612.out) (fun x => x)).trans HY612.out)
    have HE621 := Lib.hid (OwnK.keeps HE613.out (hkE) (fun _ _ x => x))
    have HE622 := Lib.hid (Nat.le_trans HE614.out (hkE).size)
    have HS623 := Lib.hid (HS615.out.keeps hkE (fun x => x))
    have HK624 := Lib.hid (HK616.out.trans (hkE.mono (fun _ _ x => x.elim)))
    go_simp
    refine hK.out _ _ ?s_625 (fun hHeld => ?_)
    case s_625 => exact HMK595.out _ HS618.out
    clear hK KK
    (try simp only [Act.put, nm1, nm2, nm3])
    clear hkE HS610 HX611 HY612 HE613 HE614 HS615 HK616
    generalize (w609.alloc (.cells #[.int .i64 nk, .string ⟨nh1.toArray⟩, .string ⟨nh2.toArray⟩, .string ⟨no.toArray⟩, .string ⟨na1.toArray⟩, .string ⟨na2.toArray⟩, .string ⟨nb1.toArray⟩, .string ⟨nb2.toArray⟩, .string ⟨ni.toArray⟩] 44)) = w626 at *
    refine wpAnyH_one (i := 6) (by kernel_rfl) rfl (fun KK hK => ?_)
    refine step_app_fp (E := stmE) rfl (.tmp 17) (.tmp 21) rfl L0 (.slice ao i cap) ol (by simp [Act.eval, Act.put] <;> rfl) HE621.out _ [((nh1, nh2), nk, no, (na1, na2), (nb1, nb2), ni)] (by simp [Act.eval, Act.put] <;> rfl) HSR.out (by simp) (by have := HNX.out.2.2; simp; omega) HE622.out ?_
    intro ao' cap' w627 ho hk hf
    have hln : (ol ++ [((nh1, nh2), nk, no, (na1, na2), (nb1, nb2), ni)]).length = i + 1 := by rw [List.length_append, HNX.out.2.2]; rfl
    rw [hln] at ho hf ⊢
    have kG : Keeps (fun q => L0 ≤ q) w626 w627 := hk.mono (fun q _ e => own_block HE621.out q e)
    have HRN : Hid (OwnK stmE L0 w627 (.slice ao' (i + 1) cap') (ol ++ [((nh1, nh2), nk, no, (na1, na2), (nb1, nb2), ni)])) := ho
    have HS628 := Lib.hid (((kG).block _ (lt_of_heap HS618.out) (by have := HN594.out; show ¬ _ ≤ _; omega)).trans HS618.out)
    have HX629 := Lib.hid (((kG).block _ (lt_of_heap HX619.out) (by have := HN594.out; show ¬ _ ≤ _; omega)).trans HX619.out)
    have HY630 := Lib.hid (((kG).block _ (lt_of_heap HY620.out) (by have := HN594.out; show ¬ _ ≤ _; omega)).trans HY620.out)
    have HE631 := Lib.hid (Nat.le_trans HE622.out (kG).size)
    have HS632 := Lib.hid (HS623.out.keeps kG (by have := HN594.out; show ¬ _ ≤ _; omega))
    have HK633 := Lib.hid (HK624.out.trans_new kG (fun q hq e => by have := HN594.out; omega))
    refine hK.out _ _ ?s_634 (fun hHeld => ?_)
    case s_634 => exact HMK595.out _ HS628.out
    clear hK KK
    (try simp only [Act.put, nm1, nm2, nm3])
    clear kG ho hk hf hln HS618 HX619 HY620 HE622 HE621 HSR HS623 HK624
    refine wpAnyH_one (i := 7) (by kernel_rfl) rfl (fun KK hK => ?_)
    go_simp
    refine hK.out _ _ ?s_635 (fun hHeld => ?_)
    case s_635 => exact HMK595.out _ HS628.out
    clear hK KK
    (try simp only [Act.put, nm1, nm2, nm3])
    refine wpAnyH_one (i := 8) (by kernel_rfl) rfl (fun KK hK => ?_)
    obtain ⟨Yc0, Yf0, Yc1, Yf1, Yc2, Yf2, Yc3, Yf3⟩ := cf4 HY630.out
    have hs0 : (w627.setCell ⟨YB, 0, none⟩ (.slice ao' (i + 1) cap')).heap[YB]? = some (.cells #[.slice ao' (i + 1) cap', .slice none 0 0, .slice none 0 0, .slice none 0 0] 57) := heap_set HY630.out 0 (.slice ao' (i + 1) cap')
    have hkE : Keeps (fun q => q = YB) w627 (w627.setCell ⟨YB, 0, none⟩ (.slice ao' (i + 1) cap')) := Keeps.setCell (S := fun q => q = YB) (Keeps.refl _ _) (p := ⟨YB, 0, none⟩) (fun _ => rfl) _
    have HY636 := Lib.hid hs0
    have HS637 := Lib.hid (((hkE).block _ (lt_of_heap HS628.out) (by have := HN594.out; show ¬ _ = _; omega)).trans HS628.out)
    have HX638 := Lib.hid (((hkE).block _ (lt_of_heap HX629.out) (by have := HN594.out; show ¬ _ = _; omega)).trans HX629.out)
    have HE639 := Lib.hid (Nat.le_trans HE631.out (hkE).size)
    have HE640 := Lib.hid (OwnK.keeps HRN.out (hkE) (fun q hq e => by have e : q = _ := e; have := HN594.out; omega))
    have HS641 := Lib.hid (HS632.out.keeps hkE (by have := HN594.out; show ¬ _ = _; omega))
    have HK642 := Lib.hid (HK633.out.trans_new hkE (fun q hq e => by have := HN594.out; omega))
    go_simp
    refine hK.out _ _ ?s_643 (fun hHeld => ?_)
    case s_643 => exact HMK595.out _ HS637.out
    clear hK KK
    (try simp only [Act.put, nm1, nm2, nm3])
    clear hkE hs0  HY630 HS628 HX629 HE631 HRN HS632 HK633
    clear Yc0 Yf0 Yc1 Yf1 Yc2 Yf2 Yc3 Yf3
    generalize (w627.setCell ⟨YB, 0, none⟩ (.slice ao' (i + 1) cap')) = w644 at *
    refine wpAnyH_done (by kernel_rfl) ?_ _
    refine NoPanic.normal ?_
    clear hHeld HMK595
    have HN2 : Hid (StB w644 30 b (manyD (fun x => stmD x s) (i + 1) x).2 ∧ Keeps (fun q => q = b) W w644 ∧ L0 ≤ w644.heap.size ∧ w644.heap[W.heap.size]? = some (.cells #[.int .i64 s.prins, .int .i64 s.links, .int .i64 s.stmts, .int .i64 s.grow, .int .i64 s.shrink, .int .i64 s.asks] 24) ∧ w644.heap[WA.heap.size]? = some (.cells #[.slice none 0 0, .slice none 0 0, .slice none 0 0, .slice none 0 0] 57) ∧ w644.heap[YB]? = some (.cells #[.slice ao' (i + 1) cap', .slice none 0 0, .slice none 0 0, .slice none 0 0] 57) ∧ OwnK stmE L0 w644 (.slice ao' (i + 1) cap') (manyD (fun x => stmD x s) (i + 1) x).1) := by rw [HNX.out.1, HNX.out.2.1]; exact ⟨HS641.out, HK642.out, HE639.out, HS637.out, HX638.out, HY636.out, HE640.out⟩
    clear HS641 HK642 HE639 HE640 HS637 HX638 HY636 
    go_wp2_with fail
    go_roundg (n0 - (i + 1))
    case measure => omega
    case rel => exact ⟨i + 1, ao', cap', by omega, rfl, by go_num, HN2⟩
   case p4_607 =>
    go_simp
    refine (HCC.out _ HS601.out).mono ?_
    rintro e w645 ⟨rfl, hk⟩
    have HS646 := Lib.hid (((hk.out.2).block _ (lt_of_heap HS596.out) (by have := HN594.out; show ¬ _ = _; omega)).trans HS596.out)
    have HX647 := Lib.hid (((hk.out.2).block _ (lt_of_heap HX597.out) (by have := HN594.out; show ¬ _ = _; omega)).trans HX597.out)
    have HY648 := Lib.hid (((hk.out.2).block _ (lt_of_heap HY598.out) (by have := HN594.out; show ¬ _ = _; omega)).trans HY598.out)
    have HE649 := Lib.hid (OwnK.keeps HE599.out (hk.out.2) (fun q hq e => by have e : q = _ := e; have := HN594.out; omega))
    have HE650 := Lib.hid (Nat.le_trans HE600.out (hk.out.2).size)
    have HS651 := Lib.hid (hk.out.1)
    have HK652 := Lib.hid (HK602.out.trans (hk.out.2))
    clear hk HCC HS596 HX597 HY598 HE599 HE600 HS601 HK602
    go_simp
    refine hK.out _ _ ?s_653 (fun hHeld => ?_)
    case s_653 => exact HMK595.out _ HS646.out
    clear hK KK
    (try simp only [Act.put, nm1, nm2, nm3])
    refine wpAnyH_two (i := 1) (j := 5) (by kernel_rfl) rfl rfl (fun KK hK => ?p1_654) (fun KK hK => ?p5_654)
    case p1_654 =>
     obtain ⟨Yc0, Yf0, Yc1, Yf1, Yc2, Yf2, Yc3, Yf3⟩ := cf4 HY648.out
     go_simp
     refine hK.out _ _ ?s_655 (fun hHeld => ?_)
     case s_655 => exact HMK595.out _ HS646.out
     clear hK KK
     (try simp only [Act.put, nm1, nm2, nm3])
     clear Yc0 Yf0 Yc1 Yf1 Yc2 Yf2 Yc3 Yf3
     refine wpAnyH_one (i := 5) (by kernel_rfl) rfl (fun KK hK => ?_)
     have hkE : Keeps (fun _ => False) w645 (w645.alloc (.cells #[.int .i64 nk, .string ⟨nh1.toArray⟩, .string ⟨nh2.toArray⟩, .string ⟨no.toArray⟩, .string ⟨na1.toArray⟩, .string ⟨na2.toArray⟩, .string ⟨nb1.toArray⟩, .string ⟨nb2.toArray⟩, .string ⟨ni.toArray⟩] 44)) := (Keeps.refl _ _).alloc _
     have HSR : Hid (RdK stmE (w645.alloc (.cells #[.int .i64 nk, .string ⟨nh1.toArray⟩, .string ⟨nh2.toArray⟩, .string ⟨no.toArray⟩, .string ⟨na1.toArray⟩, .string ⟨na2.toArray⟩, .string ⟨nb1.toArray⟩, .string ⟨nb2.toArray⟩, .string ⟨ni.toArray⟩] 44)) (.slice (some ⟨w645.heap.size, 0, none⟩) 1 1) [((nh1, nh2), nk, no, (na1, na2), (nb1, nb2), ni)]) := (one_srcK stmE w645 ((nh1, nh2), nk, no, (na1, na2), (nb1, nb2), ni) #[.int .i64 nk, .string ⟨nh1.toArray⟩, .string ⟨nh2.toArray⟩, .string ⟨no.toArray⟩, .string ⟨na1.toArray⟩, .string ⟨na2.toArray⟩, .string ⟨nb1.toArray⟩, .string ⟨nb2.toArray⟩, .string ⟨ni.toArray⟩] rfl).1
     have HS656 := Lib.hid (((hkE).block _ (lt_of_heap HS646.out) (fun x => x)).trans HS646.out)
     have HX657 := Lib.hid (((hkE).block _ (lt_of_heap HX647.out) (fun x => x)).trans HX647.out)
     have HY658 := Lib.hid (((hkE).block _ (lt_of_heap HY648.out) (fun x => x)).trans HY648.out)
     have HE659 := Lib.hid (OwnK.keeps HE649.out (hkE) (fun _ _ x => x))
     have HE660 := Lib.hid (Nat.le_trans HE650.out (hkE).size)
     have HS661 := Lib.hid (HS651.out.keeps hkE (fun x => x))
     have HK662 := Lib.hid (HK652.out.trans (hkE.mono (fun _ _ x => x.elim)))
     go_simp
     refine hK.out _ _ ?s_663 (fun hHeld => ?_)
     case s_663 => exact HMK595.out _ HS656.out
     clear hK KK
     (try simp only [Act.put, nm1, nm2, nm3])
     clear hkE HS646 HX647 HY648 HE649 HE650 HS651 HK652
     generalize (w645.alloc (.cells #[.int .i64 nk, .string ⟨nh1.toArray⟩, .string ⟨nh2.toArray⟩, .string ⟨no.toArray⟩, .string ⟨na1.toArray⟩, .string ⟨na2.toArray⟩, .string ⟨nb1.toArray⟩, .string ⟨nb2.toArray⟩, .string ⟨ni.toArray⟩] 44)) = w664 at *
     refine wpAnyH_one (i := 6) (by kernel_rfl) rfl (fun KK hK => ?_)
     refine step_app_fp (E := stmE) rfl (.tmp 17) (.tmp 21) rfl L0 (.slice ao i cap) ol (by simp [Act.eval, Act.put] <;> rfl) HE659.out _ [((nh1, nh2), nk, no, (na1, na2), (nb1, nb2), ni)] (by simp [Act.eval, Act.put] <;> rfl) HSR.out (by simp) (by have := HNX.out.2.2; simp; omega) HE660.out ?_
     intro ao' cap' w665 ho hk hf
     have hln : (ol ++ [((nh1, nh2), nk, no, (na1, na2), (nb1, nb2), ni)]).length = i + 1 := by rw [List.length_append, HNX.out.2.2]; rfl
     rw [hln] at ho hf ⊢
     have kG : Keeps (fun q => L0 ≤ q) w664 w665 := hk.mono (fun q _ e => own_block HE659.out q e)
     have HRN : Hid (OwnK stmE L0 w665 (.slice ao' (i + 1) cap') (ol ++ [((nh1, nh2), nk, no, (na1, na2), (nb1, nb2), ni)])) := ho
     have HS666 := Lib.hid (((kG).block _ (lt_of_heap HS656.out) (by have := HN594.out; show ¬ _ ≤ _; omega)).trans HS656.out)
     have HX667 := Lib.hid (((kG).block _ (lt_of_heap HX657.out) (by have := HN594.out; show ¬ _ ≤ _; omega)).trans HX657.out)
     have HY668 := Lib.hid (((kG).block _ (lt_of_heap HY658.out) (by have := HN594.out; show ¬ _ ≤ _; omega)).trans HY658.out)
     have HE669 := Lib.hid (Nat.le_trans HE660.out (kG).size)
     have HS670 := Lib.hid (HS661.out.keeps kG (by have := HN594.out; show ¬ _ ≤ _; omega))
     have HK671 := Lib.hid (HK662.out.trans_new kG (fun q hq e => by have := HN594.out; omega))
     refine hK.out _ _ ?s_672 (fun hHeld => ?_)
     case s_672 => exact HMK595.out _ HS666.out
     clear hK KK
     (try simp only [Act.put, nm1, nm2, nm3])
     clear kG ho hk hf hln HS656 HX657 HY658 HE660 HE659 HSR HS661 HK662
     refine wpAnyH_one (i := 7) (by kernel_rfl) rfl (fun KK hK => ?_)
     go_simp
     refine hK.out _ _ ?s_673 (fun hHeld => ?_)
     case s_673 => exact HMK595.out _ HS666.out
     clear hK KK
     (try simp only [Act.put, nm1, nm2, nm3])
     refine wpAnyH_one (i := 8) (by kernel_rfl) rfl (fun KK hK => ?_)
     obtain ⟨Yc0, Yf0, Yc1, Yf1, Yc2, Yf2, Yc3, Yf3⟩ := cf4 HY668.out
     have hs0 : (w665.setCell ⟨YB, 0, none⟩ (.slice ao' (i + 1) cap')).heap[YB]? = some (.cells #[.slice ao' (i + 1) cap', .slice none 0 0, .slice none 0 0, .slice none 0 0] 57) := heap_set HY668.out 0 (.slice ao' (i + 1) cap')
     have hkE : Keeps (fun q => q = YB) w665 (w665.setCell ⟨YB, 0, none⟩ (.slice ao' (i + 1) cap')) := Keeps.setCell (S := fun q => q = YB) (Keeps.refl _ _) (p := ⟨YB, 0, none⟩) (fun _ => rfl) _
     have HY674 := Lib.hid hs0
     have HS675 := Lib.hid (((hkE).block _ (lt_of_heap HS666.out) (by have := HN594.out; show ¬ _ = _; omega)).trans HS666.out)
     have HX676 := Lib.hid (((hkE).block _ (lt_of_heap HX667.out) (by have := HN594.out; show ¬ _ = _; omega)).trans HX667.out)
     have HE677 := Lib.hid (Nat.le_trans HE669.out (hkE).size)
     have HE678 := Lib.hid (OwnK.keeps HRN.out (hkE) (fun q hq e => by have e : q = _ := e; have := HN594.out; omega))
     have HS679 := Lib.hid (HS670.out.keeps hkE (by have := HN594.out; show ¬ _ = _; omega))
     have HK680 := Lib.hid (HK671.out.trans_new hkE (fun q hq e => by have := HN594.out; omega))
     go_simp
     refine hK.out _ _ ?s_681 (fun hHeld => ?_)
     case s_681 => exact HMK595.out _ HS675.out
     clear hK KK
     (try simp only [Act.put, nm1, nm2, nm3])
     clear hkE hs0  HY668 HS666 HX667 HE669 HRN HS670 HK671
     clear Yc0 Yf0 Yc1 Yf1 Yc2 Yf2 Yc3 Yf3
     generalize (w665.setCell ⟨YB, 0, none⟩ (.slice ao' (i + 1) cap')) = w682 at *
     refine wpAnyH_done (by kernel_rfl) ?_ _
     refine NoPanic.normal ?_
     clear hHeld HMK595
     have HN2 : Hid (StB w682 30 b (manyD (fun x => stmD x s) (i + 1) x).2 ∧ Keeps (fun q => q = b) W w682 ∧ L0 ≤ w682.heap.size ∧ w682.heap[W.heap.size]? = some (.cells #[.int .i64 s.prins, .int .i64 s.links, .int .i64 s.stmts, .int .i64 s.grow, .int .i64 s.shrink, .int .i64 s.asks] 24) ∧ w682.heap[WA.heap.size]? = some (.cells #[.slice none 0 0, .slice none 0 0, .slice none 0 0, .slice none 0 0] 57) ∧ w682.heap[YB]? = some (.cells #[.slice ao' (i + 1) cap', .slice none 0 0, .slice none 0 0, .slice none 0 0] 57) ∧ OwnK stmE L0 w682 (.slice ao' (i + 1) cap') (manyD (fun x => stmD x s) (i + 1) x).1) := by rw [HNX.out.1, HNX.out.2.1]; exact ⟨HS679.out, HK680.out, HE677.out, HS675.out, HX676.out, HY674.out, HE678.out⟩
     clear HS679 HK680 HE677 HE678 HS675 HX676 HY674 
     go_wp2_with fail
     go_roundg (n0 - (i + 1))
     case measure => omega
     case rel => exact ⟨i + 1, ao', cap', by omega, rfl, by go_num, HN2⟩
    case p5_654 =>
     have hkE : Keeps (fun _ => False) w645 (w645.alloc (.cells #[.int .i64 nk, .string ⟨nh1.toArray⟩, .string ⟨nh2.toArray⟩, .string ⟨no.toArray⟩, .string ⟨na1.toArray⟩, .string ⟨na2.toArray⟩, .string ⟨nb1.toArray⟩, .string ⟨nb2.toArray⟩, .string ⟨ni.toArray⟩] 44)) := (Keeps.refl _ _).alloc _
     have HSR : Hid (RdK stmE (w645.alloc (.cells #[.int .i64 nk, .string ⟨nh1.toArray⟩, .string ⟨nh2.toArray⟩, .string ⟨no.toArray⟩, .string ⟨na1.toArray⟩, .string ⟨na2.toArray⟩, .string ⟨nb1.toArray⟩, .string ⟨nb2.toArray⟩, .string ⟨ni.toArray⟩] 44)) (.slice (some ⟨w645.heap.size, 0, none⟩) 1 1) [((nh1, nh2), nk, no, (na1, na2), (nb1, nb2), ni)]) := (one_srcK stmE w645 ((nh1, nh2), nk, no, (na1, na2), (nb1, nb2), ni) #[.int .i64 nk, .string ⟨nh1.toArray⟩, .string ⟨nh2.toArray⟩, .string ⟨no.toArray⟩, .string ⟨na1.toArray⟩, .string ⟨na2.toArray⟩, .string ⟨nb1.toArray⟩, .string ⟨nb2.toArray⟩, .string ⟨ni.toArray⟩] rfl).1
     have HS683 := Lib.hid (((hkE).block _ (lt_of_heap HS646.out) (fun x => x)).trans HS646.out)
     have HX684 := Lib.hid (((hkE).block _ (lt_of_heap HX647.out) (fun x => x)).trans HX647.out)
     have HY685 := Lib.hid (((hkE).block _ (lt_of_heap HY648.out) (fun x => x)).trans HY648.out)
     have HE686 := Lib.hid (OwnK.keeps HE649.out (hkE) (fun _ _ x => x))
     have HE687 := Lib.hid (Nat.le_trans HE650.out (hkE).size)
     have HS688 := Lib.hid (HS651.out.keeps hkE (fun x => x))
     have HK689 := Lib.hid (HK652.out.trans (hkE.mono (fun _ _ x => x.elim)))
     go_simp
     refine hK.out _ _ ?s_690 (fun hHeld => ?_)
     case s_690 => exact HMK595.out _ HS683.out
     clear hK KK
     (try simp only [Act.put, nm1, nm2, nm3])
     clear hkE HS646 HX647 HY648 HE649 HE650 HS651 HK652
     generalize (w645.alloc (.cells #[.int .i64 nk, .string ⟨nh1.toArray⟩, .string ⟨nh2.toArray⟩, .string ⟨no.toArray⟩, .string ⟨na1.toArray⟩, .string ⟨na2.toArray⟩, .string ⟨nb1.toArray⟩, .string ⟨nb2.toArray⟩, .string ⟨ni.toArray⟩] 44)) = w691 at *
     refine wpAnyH_one (i := 1) (by kernel_rfl) rfl (fun KK hK => ?_)
     obtain ⟨Yc0, Yf0, Yc1, Yf1, Yc2, Yf2, Yc3, Yf3⟩ := cf4 HY685.out
     go_simp
     refine hK.out _ _ ?s_692 (fun hHeld => ?_)
     case s_692 => exact HMK595.out _ HS683.out
     clear hK KK
     (try simp only [Act.put, nm1, nm2, nm3])
     clear Yc0 Yf0 Yc1 Yf1 Yc2 Yf2 Yc3 Yf3
     refine wpAnyH_one (i := 6) (by kernel_rfl) rfl (fun KK hK => ?_)
     refine step_app_fp (E := stmE) rfl (.tmp 17) (.tmp 21) rfl L0 (.slice ao i cap) ol (by simp [Act.eval, Act.put] <;> rfl) HE686.out _ [((nh1, nh2), nk, no, (na1, na2), (nb1, nb2), ni)] (by simp [Act.eval, Act.put] <;> rfl) HSR.out (by simp) (by have := HNX.out.2.2; simp; omega) HE687.out ?_
     intro ao' cap' w693 ho hk hf
     have hln : (ol ++ [((nh1, nh2), nk, no, (na1, na2), (nb1, nb2), ni)]).length = i + 1 := by rw [List.length_append, HNX.out.2.2]; rfl
     rw [hln] at ho hf ⊢
     have kG : Keeps (fun q => L0 ≤ q) w691 w693 := hk.mono (fun q _ e => own_block HE686.out q e)
     have HRN : Hid (OwnK stmE L0 w693 (.slice ao' (i + 1) cap') (ol ++ [((nh1, nh2), nk, no, (na1, na2), (nb1, nb2), ni)])) := ho
     have HS694 := Lib.hid (((kG).block _ (lt_of_heap HS683.out) (by have := HN594.out; show ¬ _ ≤ _; omega)).trans HS683.out)
     have HX695 := Lib.hid (((kG).block _ (lt_of_heap HX684.out) (by have := HN594.out; show ¬ _ ≤ _; omega)).trans HX684.out)
     have HY696 := Lib.hid (((kG).block _ (lt_of_heap HY685.out) (by have := HN594.out; show ¬ _ ≤ _; omega)).trans HY685.out)
     have HE697 := Lib.hid (Nat.le_trans HE687.out (kG).size)
     have HS698 := Lib.hid (HS688.out.keeps kG (by have := HN594.out; show ¬ _ ≤ _; omega))
     have HK699 := Lib.hid (HK689.out.trans_new kG (fun q hq e => by have := HN594.out; omega))
     refine hK.out _ _ ?s_700 (fun hHeld => ?_)
     case s_700 => exact HMK595.out _ HS694.out
     clear hK KK
     (try simp only [Act.put, nm1, nm2, nm3])
     clear kG ho hk hf hln HS683 HX684 HY685 HE687 HE686 HSR HS688 HK689
     refine wpAnyH_one (i := 7) (by kernel_rfl) rfl (fun KK hK => ?_)
     go_simp
     refine hK.out _ _ ?s_701 (fun hHeld => ?_)
     case s_701 => exact HMK595.out _ HS694.out
     clear hK KK
     (try simp only [Act.put, nm1, nm2, nm3])
     refine wpAnyH_one (i := 8) (by kernel_rfl) rfl (fun KK hK => ?_)
     obtain ⟨Yc0, Yf0, Yc1, Yf1, Yc2, Yf2, Yc3, Yf3⟩ := cf4 HY696.out
     have hs0 : (w693.setCell ⟨YB, 0, none⟩ (.slice ao' (i + 1) cap')).heap[YB]? = some (.cells #[.slice ao' (i + 1) cap', .slice none 0 0, .slice none 0 0, .slice none 0 0] 57) := heap_set HY696.out 0 (.slice ao' (i + 1) cap')
     have hkE : Keeps (fun q => q = YB) w693 (w693.setCell ⟨YB, 0, none⟩ (.slice ao' (i + 1) cap')) := Keeps.setCell (S := fun q => q = YB) (Keeps.refl _ _) (p := ⟨YB, 0, none⟩) (fun _ => rfl) _
     have HY702 := Lib.hid hs0
     have HS703 := Lib.hid (((hkE).block _ (lt_of_heap HS694.out) (by have := HN594.out; show ¬ _ = _; omega)).trans HS694.out)
     have HX704 := Lib.hid (((hkE).block _ (lt_of_heap HX695.out) (by have := HN594.out; show ¬ _ = _; omega)).trans HX695.out)
     have HE705 := Lib.hid (Nat.le_trans HE697.out (hkE).size)
     have HE706 := Lib.hid (OwnK.keeps HRN.out (hkE) (fun q hq e => by have e : q = _ := e; have := HN594.out; omega))
     have HS707 := Lib.hid (HS698.out.keeps hkE (by have := HN594.out; show ¬ _ = _; omega))
     have HK708 := Lib.hid (HK699.out.trans_new hkE (fun q hq e => by have := HN594.out; omega))
     go_simp
     refine hK.out _ _ ?s_709 (fun hHeld => ?_)
     case s_709 => exact HMK595.out _ HS703.out
     clear hK KK
     (try simp only [Act.put, nm1, nm2, nm3])
     clear hkE hs0  HY696 HS694 HX695 HE697 HRN HS698 HK699
     clear Yc0 Yf0 Yc1 Yf1 Yc2 Yf2 Yc3 Yf3
     generalize (w693.setCell ⟨YB, 0, none⟩ (.slice ao' (i + 1) cap')) = w710 at *
     refine wpAnyH_done (by kernel_rfl) ?_ _
     refine NoPanic.normal ?_
     clear hHeld HMK595
     have HN2 : Hid (StB w710 30 b (manyD (fun x => stmD x s) (i + 1) x).2 ∧ Keeps (fun q => q = b) W w710 ∧ L0 ≤ w710.heap.size ∧ w710.heap[W.heap.size]? = some (.cells #[.int .i64 s.prins, .int .i64 s.links, .int .i64 s.stmts, .int .i64 s.grow, .int .i64 s.shrink, .int .i64 s.asks] 24) ∧ w710.heap[WA.heap.size]? = some (.cells #[.slice none 0 0, .slice none 0 0, .slice none 0 0, .slice none 0 0] 57) ∧ w710.heap[YB]? = some (.cells #[.slice ao' (i + 1) cap', .slice none 0 0, .slice none 0 0, .slice none 0 0] 57) ∧ OwnK stmE L0 w710 (.slice ao' (i + 1) cap') (manyD (fun x => stmD x s) (i + 1) x).1) := by rw [HNX.out.1, HNX.out.2.1]; exact ⟨HS707.out, HK708.out, HE705.out, HS703.out, HX704.out, HY702.out, HE706.out⟩
     clear HS707 HK708 HE705 HE706 HS703 HX704 HY702 
     go_wp2_with fail
     go_roundg (n0 - (i + 1))
     case measure => omega
     case rel => exact ⟨i + 1, ao', cap', by omega, rfl, by go_num, HN2⟩
  ·obtain rfl : n0 = i := by omega
   have hiI : ¬ (n0 : Int) < s.stmts := by have := HBD.out; omega
   have HT1 := Lib.hid HI.out.1
   have HK1 := Lib.hid HI.out.2.1
   have HSZ := Lib.hid HI.out.2.2.1
   have HBS := Lib.hid HI.out.2.2.2.1
   have HBX := Lib.hid HI.out.2.2.2.2.1
   have HBP := Lib.hid HI.out.2.2.2.2.2.1
   have HRO := Lib.hid HI.out.2.2.2.2.2.2
   clear HI
   rw [HM0.out] at HT1 HRO
   have HROW0 : Hid (RdX stmE wr (.slice ao n0 cap) l0 (fun k => L0 ≤ k)) := HRO.out.rdX (fun k hk _ => hk)
   clear HRO HM0 HSU0 HLE0 HC0
   skip
   generalize ao = ao0 at *
   generalize cap = cp0 at *
   generalize wr = wl0 at *
   obtain ⟨Sc0, Sf0, Sc1, Sf1, Sc2, Sf2, Sc3, Sf3, Sc4, Sf4, Sc5, Sf5⟩ := cf6 HBS.out
   go_upto_region 7 with fail
   clear Sc0 Sf0 Sc1 Sf1 Sc2 Sf2 Sc3 Sf3 Sc4 Sf4 Sc5 Sf5
   obtain ⟨L1, hL1⟩ : ∃ q, wl0.heap.size = q := ⟨_, rfl⟩
   have HE711 : Hid (RdX stmE wl0 (.slice ao0 n0 cp0) l0 (fun k => L0 ≤ k ∧ k < L1)) := HROW0.out.into (Keeps.refl (fun _ => False) _) (fun _ _ _ x => x) (fun q hq hp => by have hp : L0 ≤ q := hp; have := hL1; show L0 ≤ q ∧ q < L1; first | omega | (obtain ⟨hp1, hp2⟩ := hp; refine ⟨hp1, ?_⟩; omega) | (refine ⟨hp, ?_⟩; omega))
   clear HROW0
   have HN712 : Hid ((((W.heap.size ≠ b ∧ WA.heap.size ≠ b ∧ WA.heap.size ≠ W.heap.size ∧ W.heap.size ≤ WA.heap.size ∧ b < W.heap.size) ∧ W.heap.size ≤ YB ∧ W.heap.size < YB ∧ WA.heap.size < YB ∧ b < YB) ∧ W.heap.size < L0 ∧ WA.heap.size < L0 ∧ YB < L0 ∧ W.heap.size ≤ L0) ∧ W.heap.size < L1 ∧ WA.heap.size < L1 ∧ YB < L1 ∧ W.heap.size ≤ L1 ∧ L0 ≤ L1) := ⟨HN594.out, by
    have hz := HK1.out.size
    have l0 := lt_of_heap HBS.out
    have l1 := lt_of_heap HBX.out
    have l2 := lt_of_heap HBP.out
    have ll := HSZ.out
    refine ⟨?_, ?_, ?_, ?_, ?_⟩ <;> omega⟩
   clear HN594
   have HSL1 : Hid (L1 ≤ wl0.heap.size) := by show _ ≤ _; omega
   clear hL1 HSZ
   go_wp2_with fail
   go_loopg [7] n1 (fun g t wx => ∃ (i : Nat) (ao : Option Addr) (cap : Nat), i ≤ n1 ∧ g = n1 - i ∧ t = .int .i64 i ∧ Hid (StB wx 30 b (manyD (fun x => rolD x s) i x1).2 ∧ Keeps (fun q => q = b) W wx ∧ L1 ≤ wx.heap.size ∧ wx.heap[W.heap.size]? = some (.cells #[.int .i64 s.prins, .int .i64 s.links, .int .i64 s.stmts, .int .i64 s.grow, .int .i64 s.shrink, .int .i64 s.asks] 24) ∧ wx.heap[WA.heap.size]? = some (.cells #[.slice none 0 0, .slice none 0 0, .slice none 0 0, .slice none 0 0] 57) ∧ wx.heap[YB]? = some (.cells #[.slice ao0 n0 cp0, .slice ao i cap, .slice none 0 0, .slice none 0 0] 57) ∧ RdX stmE wx (.slice ao0 n0 cp0) l0 (fun k => L0 ≤ k ∧ k < L1) ∧ OwnK rolE L1 wx (.slice ao i cap) (manyD (fun x => rolD x s) i x1).1))
   case atStart => exact ⟨0, none, 0, Nat.zero_le _, rfl, rfl, HT1.out, HK1.out, HSL1.out, HBS.out, HBX.out, HBP.out, HE711.out, ownK_nil rolE _ _⟩
   case round =>
    obtain ⟨i, ao, cap, hi, rfl, rfl, HI⟩ := hrel
    clear HT1 HK1 HSL1 HBS HBX HBP HE711
    by_cases hlt : i < n1
    ·have hiI : (i : Int) < s.grow := by have := HBD.out; omega
     have hi100 : i < 100 := by have := HBD.out; omega
     have HT1 := Lib.hid HI.out.1
     have HK1 := Lib.hid HI.out.2.1
     have HSZ := Lib.hid HI.out.2.2.1
     have HBS := Lib.hid HI.out.2.2.2.1
     have HBX := Lib.hid HI.out.2.2.2.2.1
     have HBP := Lib.hid HI.out.2.2.2.2.2.1
     have HEX0 := Lib.hid HI.out.2.2.2.2.2.2.1
     have HRO := Lib.hid HI.out.2.2.2.2.2.2.2
     clear HI
     have hwi : IntKind.i64.wrap ((i : Int) + 1) = (i : Int) + 1 := IntWalk.i64_in _ (by omega)
     obtain ⟨y, hy⟩ : ∃ q, (manyD (fun x => rolD x s) i x1).2 = q := ⟨_, rfl⟩
     obtain ⟨ol, hol⟩ : ∃ q, (manyD (fun x => rolD x s) i x1).1 = q := ⟨_, rfl⟩
     have HNX : Hid ((manyD (fun x => rolD x s) (i + 1) x1).1 = ol ++ [(rolD y s).1] ∧ (manyD (fun x => rolD x s) (i + 1) x1).2 = (rolD y s).2 ∧ ol.length = i) := by
      refine ⟨?_, ?_, ?_⟩
      ·rw [(HSU1.out i).1, hol, hy]
      ·rw [(HSU1.out i).2, hy]
      ·rw [← hol]; exact HLE1.out i
     rw [hy] at HT1
     rw [hol] at HRO
     have HCC := Lib.hid (HC1.out y)
     obtain ⟨⟨nn, yq⟩, hnn⟩ : ∃ q, rolD y s = q := ⟨_, rfl⟩
     rw [hnn] at HCC HNX
     clear hnn hy hol
     obtain ⟨rr1, rr2⟩ := nn
     unfold rolV encStr8 at HCC
     simp only at HCC
     obtain ⟨Sc0, Sf0, Sc1, Sf1, Sc2, Sf2, Sc3, Sf3, Sc4, Sf4, Sc5, Sf5⟩ := cf6 HBS.out
     go_upto_region 9 with fail
     clear Sc0 Sf0 Sc1 Sf1 Sc2 Sf2 Sc3 Sf3 Sc4 Sf4 Sc5 Sf5
     have HMK713 : Hid (∀ w' : World, w'.heap[W.heap.size]? = some (.cells #[.int .i64 s.prins, .int .i64 s.links, .int .i64 s.stmts, .int .i64 s.grow, .int .i64 s.shrink, .int .i64 s.asks] 24) → w'.cell? ⟨W.heap.size, 0, none⟩ = some (.int .i64 s.prins) ∧ w'.cell? ⟨W.heap.size, 1, none⟩ = some (.int .i64 s.links) ∧ w'.cell? ⟨W.heap.size, 2, none⟩ = some (.int .i64 s.stmts) ∧ w'.cell? ⟨W.heap.size, 3, none⟩ = some (.int .i64 s.grow) ∧ w'.cell? ⟨W.heap.size, 4, none⟩ = some (.int .i64 s.shrink) ∧ w'.cell? ⟨W.heap.size, 5, none⟩ = some (.int .i64 s.asks) ∧ Hid (w'.heap[W.heap.size]? = some (.cells #[.int .i64 s.prins, .int .i64 s.links, .int .i64 s.stmts, .int .i64 s.grow, .int .i64 s.shrink, .int .i64 s.asks] 24))) := fun w' h0 => ⟨(by rw [cell_of_heap h0]; rfl), (by rw [cell_of_heap h0]; rfl), (by rw [cell_of_heap h0]; rfl), (by rw [cell_of_heap h0]; rfl), (by rw [cell_of_heap h0]; rfl), (by rw [cell_of_heap h0]; rfl), Lib.hid h0⟩
     have hkd : Keeps (fun _ => False) wr wr.drew := (Keeps.refl _ _).drew
     have HS714 := Lib.hid (((hkd).block _ (lt_of_heap HBS.out) (fun x => x)).trans HBS.out)
     have HX715 := Lib.hid (((hkd).block _ (lt_of_heap HBX.out) (fun x => x)).trans HBX.out)
     have HY716 := Lib.hid (((hkd).block _ (lt_of_heap HBP.out) (fun x => x)).trans HBP.out)
     have HE717 := Lib.hid (RdX.keeps HEX0.out (hkd) (fun _ _ _ x => x))
     have HE718 := Lib.hid (OwnK.keeps HRO.out (hkd) (fun _ _ x => x))
     have HE719 := Lib.hid (Nat.le_trans HSZ.out (hkd).size)
     have HS720 := Lib.hid (HT1.out.keeps hkd (fun x => x))
     have HK721 := Lib.hid (HK1.out.drew)
     have hS0 := HMK713.out wr.drew HS714.out
     clear hkd HBS HBX HBP HEX0 HRO HSZ HT1 HK1
     refine wp_region_noPanic ?_
     refine wp_region_held_drew (S := (fun w' => w'.cell? ⟨W.heap.size, 0, none⟩ = some (.int .i64 s.prins) ∧ w'.cell? ⟨W.heap.size, 1, none⟩ = some (.int .i64 s.links) ∧ w'.cell? ⟨W.heap.size, 2, none⟩ = some (.int .i64 s.stmts) ∧ w'.cell? ⟨W.heap.size, 3, none⟩ = some (.int .i64 s.grow) ∧ w'.cell? ⟨W.heap.size, 4, none⟩ = some (.int .i64 s.shrink) ∧ w'.cell? ⟨W.heap.size, 5, none⟩ = some (.int .i64 s.asks) ∧ Hid (w'.heap[W.heap.size]? = some (.cells #[.int .i64 s.prins, .int .i64 s.links, .int .i64 s.stmts, .int .i64 s.grow, .int .i64 s.shrink, .int .i64 s.asks] 24)))) (by kernel_rfl) hS0 (fun hHeld => ?_)
     clear hS0
     generalize wr.drew = w722 at *
     refine wpAnyH_take_at (i := 0) (v := ?v0_723) rfl (by kernel_rfl) (by kernel_rfl) (by kernel_rfl) (fun _ _ _ h => h) (Or.inl ⟨by rfl, ?y0_723⟩) hHeld ?r0_723
     case y0_723 => (intro w hSw; (try dsimp only at hSw); go_simp; first | done | with_reducible rfl)
     (try simp only [Act.put, nm1, nm2, nm3])
     refine wpAnyH_take_at (i := 2) (v := ?v2_724) rfl (by kernel_rfl) (by kernel_rfl) (by kernel_rfl) (fun _ _ _ h => h) (Or.inl ⟨by rfl, ?y2_724⟩) hHeld ?r2_724
     case y2_724 => (intro w hSw; (try dsimp only at hSw); go_simp; first | done | with_reducible rfl)
     (try simp only [Act.put, nm1, nm2, nm3])
     refine wpAnyH_take_at (i := 3) (v := ?v3_725) rfl (by kernel_rfl) (by kernel_rfl) (by kernel_rfl) (fun _ _ _ h => h) (Or.inl ⟨by rfl, ?y3_725⟩) hHeld ?r3_725
     case y3_725 => (intro w hSw; (try dsimp only at hSw); go_simp; first | done | with_reducible rfl)
     (try simp only [Act.put, nm1, nm2, nm3])
     refine wpAnyH_two (i := 1) (j := 4) (by kernel_rfl) rfl rfl (fun KK hK => ?p1_726) (fun KK hK => ?p4_726)
     case p1_726 =>
      obtain ⟨Yc0, Yf0, Yc1, Yf1, Yc2, Yf2, Yc3, Yf3⟩ := cf4 HY716.out
      go_simp
      refine hK.out _ _ ?s_727 (fun hHeld => ?_)
      case s_727 => exact HMK713.out _ HS714.out
      clear hK KK
      (try simp only [Act.put, nm1, nm2, nm3])
      clear Yc0 Yf0 Yc1 Yf1 Yc2 Yf2 Yc3 Yf3
      refine wpAnyH_one (i := 4) (by kernel_rfl) rfl (fun KK hK => ?_)
      go_simp
      refine (HCC.out _ HS720.out).mono ?_
      rintro e w728 ⟨rfl, hk⟩
      have HS729 := Lib.hid (((hk.out.2).block _ (lt_of_heap HS714.out) (by have := HN712.out; show ¬ _ = _; omega)).trans HS714.out)
      have HX730 := Lib.hid (((hk.out.2).block _ (lt_of_heap HX715.out) (by have := HN712.out; show ¬ _ = _; omega)).trans HX715.out)
      have HY731 := Lib.hid (((hk.out.2).block _ (lt_of_heap HY716.out) (by have := HN712.out; show ¬ _ = _; omega)).trans HY716.out)
      have HE732 := Lib.hid (RdX.keeps HE717.out (hk.out.2) (fun q hq hp e => by have hp : L0 ≤ q ∧ q < L1 := hp; have e : q = _ := e; have := HN712.out; omega))
      have HE733 := Lib.hid (OwnK.keeps HE718.out (hk.out.2) (fun q hq e => by have e : q = _ := e; have := HN712.out; omega))
      have HE734 := Lib.hid (Nat.le_trans HE719.out (hk.out.2).size)
      have HS735 := Lib.hid (hk.out.1)
      have HK736 := Lib.hid (HK721.out.trans (hk.out.2))
      clear hk HCC HS714 HX715 HY716 HE717 HE718 HE719 HS720 HK721
      go_simp
      refine hK.out _ _ ?s_737 (fun hHeld => ?_)
      case s_737 => exact HMK713.out _ HS729.out
      clear hK KK
      (try simp only [Act.put, nm1, nm2, nm3])
      refine wpAnyH_one (i := 5) (by kernel_rfl) rfl (fun KK hK => ?_)
      have hkE : Keeps (fun _ => False) w728 (w728.alloc (.cells #[.string ⟨rr1.toArray⟩, .string ⟨rr2.toArray⟩] 40)) := (Keeps.refl _ _).alloc _
      have HSR : Hid (RdK rolE (w728.alloc (.cells #[.string ⟨rr1.toArray⟩, .string ⟨rr2.toArray⟩] 40)) (.slice (some ⟨w728.heap.size, 0, none⟩) 1 1) [(rr1, rr2)]) := (one_srcK rolE w728 (rr1, rr2) #[.string ⟨rr1.toArray⟩, .string ⟨rr2.toArray⟩] rfl).1
      have HS738 := Lib.hid (((hkE).block _ (lt_of_heap HS729.out) (fun x => x)).trans HS729.out)
      have HX739 := Lib.hid (((hkE).block _ (lt_of_heap HX730.out) (fun x => x)).trans HX730.out)
      have HY740 := Lib.hid (((hkE).block _ (lt_of_heap HY731.out) (fun x => x)).trans HY731.out)
      have HE741 := Lib.hid (RdX.keeps HE732.out (hkE) (fun _ _ _ x => x))
      have HE742 := Lib.hid (OwnK.keeps HE733.out (hkE) (fun _ _ x => x))
      have HE743 := Lib.hid (Nat.le_trans HE734.out (hkE).size)
      have HS744 := Lib.hid (HS735.out.keeps hkE (fun x => x))
      have HK745 := Lib.hid (HK736.out.trans (hkE.mono (fun _ _ x => x.elim)))
      go_simp
      refine hK.out _ _ ?s_746 (fun hHeld => ?_)
      case s_746 => exact HMK713.out _ HS738.out
      clear hK KK
      (try simp only [Act.put, nm1, nm2, nm3])
      clear hkE HS729 HX730 HY731 HE732 HE733 HE734 HS735 HK736
      generalize (w728.alloc (.cells #[.string ⟨rr1.toArray⟩, .string ⟨rr2.toArray⟩] 40)) = w747 at *
      refine wpAnyH_one (i := 6) (by kernel_rfl) rfl (fun KK hK => ?_)
      refine step_app_fp (E := rolE) rfl (.tmp 31) (.tmp 35) rfl L1 (.slice ao i cap) ol (by simp [Act.eval, Act.put] <;> rfl) HE742.out _ [(rr1, rr2)] (by simp [Act.eval, Act.put] <;> rfl) HSR.out (by simp) (by have := HNX.out.2.2; simp; omega) HE743.out ?_
      intro ao' cap' w748 ho hk hf
      have hln : (ol ++ [(rr1, rr2)]).length = i + 1 := by rw [List.length_append, HNX.out.2.2]; rfl
      rw [hln] at ho hf ⊢
      have kG : Keeps (fun q => L1 ≤ q) w747 w748 := hk.mono (fun q _ e => own_block HE742.out q e)
      have HRN : Hid (OwnK rolE L1 w748 (.slice ao' (i + 1) cap') (ol ++ [(rr1, rr2)])) := ho
      have HS749 := Lib.hid (((kG).block _ (lt_of_heap HS738.out) (by have := HN712.out; show ¬ _ ≤ _; omega)).trans HS738.out)
      have HX750 := Lib.hid (((kG).block _ (lt_of_heap HX739.out) (by have := HN712.out; show ¬ _ ≤ _; omega)).trans HX739.out)
      have HY751 := Lib.hid (((kG).block _ (lt_of_heap HY740.out) (by have := HN712.out; show ¬ _ ≤ _; omega)).trans HY740.out)
      have HE752 := Lib.hid (RdX.keeps HE741.out (kG) (fun q hq hp e => by have hp : L0 ≤ q ∧ q < L1 := hp; have e : L1 ≤ q := e; have := HN712.out; omega))
      have HE753 := Lib.hid (Nat.le_trans HE743.out (kG).size)
      have HS754 := Lib.hid (HS744.out.keeps kG (by have := HN712.out; show ¬ _ ≤ _; omega))
      have HK755 := Lib.hid (HK745.out.trans_new kG (fun q hq e => by have := HN712.out; omega))
      refine hK.out _ _ ?s_756 (fun hHeld => ?_)
      case s_756 => exact HMK713.out _ HS749.out
      clear hK KK
      (try simp only [Act.put, nm1, nm2, nm3])
      clear kG ho hk hf hln HS738 HX739 HY740 HE741 HE743 HE742 HSR HS744 HK745
      refine wpAnyH_one (i := 7) (by kernel_rfl) rfl (fun KK hK => ?_)
      go_simp
      refine hK.out _ _ ?s_757 (fun hHeld => ?_)
      case s_757 => exact HMK713.out _ HS749.out
      clear hK KK
      (try simp only [Act.put, nm1, nm2, nm3])
      refine wpAnyH_one (i := 8) (by kernel_rfl) rfl (fun KK hK => ?_)
      obtain ⟨Yc0, Yf0, Yc1, Yf1, Yc2, Yf2, Yc3, Yf3⟩ := cf4 HY751.out
      have hs0 : (w748.setCell ⟨YB, 1, none⟩ (.slice ao' (i + 1) cap')).heap[YB]? = some (.cells #[.slice ao0 n0 cp0, .slice ao' (i + 1) cap', .slice none 0 0, .slice none 0 0] 57) := heap_set HY751.out 1 (.slice ao' (i + 1) cap')
      have hkE : Keeps (fun q => q = YB) w748 (w748.setCell ⟨YB, 1, none⟩ (.slice ao' (i + 1) cap')) := Keeps.setCell (S := fun q => q = YB) (Keeps.refl _ _) (p := ⟨YB, 1, none⟩) (fun _ => rfl) _
      have HY758 := Lib.hid hs0
      have HS759 := Lib.hid (((hkE).block _ (lt_of_heap HS749.out) (by have := HN712.out; show ¬ _ = _; omega)).trans HS749.out)
      have HX760 := Lib.hid (((hkE).block _ (lt_of_heap HX750.out) (by have := HN712.out; show ¬ _ = _; omega)).trans HX750.out)
      have HE761 := Lib.hid (RdX.keeps HE752.out (hkE) (fun q hq hp e => by have hp : L0 ≤ q ∧ q < L1 := hp; have e : q = _ := e; have := HN712.out; omega))
      have HE762 := Lib.hid (Nat.le_trans HE753.out (hkE).size)
      have HE763 := Lib.hid (OwnK.keeps HRN.out (hkE) (fun q hq e => by have e : q = _ := e; have := HN712.out; omega))
      have HS764 := Lib.hid (HS754.out.keeps hkE (by have := HN712.out; show ¬ _ = _; omega))
      have HK765 := Lib.hid (HK755.out.trans_new hkE (fun q hq e => by have := HN712.out; omega))
      go_simp
      refine hK.out _ _ ?s_766 (fun hHeld => ?_)
      case s_766 => exact HMK713.out _ HS759.out
      clear hK KK
      (try simp only [Act.put, nm1, nm2, nm3])
      clear hkE hs0  HY751 HS749 HX750 HE752 HE753 HRN HS754 HK755
      clear Yc0 Yf0 Yc1 Yf1 Yc2 Yf2 Yc3 Yf3
      generalize (w748.setCell ⟨YB, 1, none⟩ (.slice ao' (i + 1) cap')) = w767 at *
      refine wpAnyH_done (by kernel_rfl) ?_ _
      refine NoPanic.normal ?_
      clear hHeld HMK713
      have HN2 : Hid (StB w767 30 b (manyD (fun x => rolD x s) (i + 1) x1).2 ∧ Keeps (fun q => q = b) W w767 ∧ L1 ≤ w767.heap.size ∧ w767.heap[W.heap.size]? = some (.cells #[.int .i64 s.prins, .int .i64 s.links, .int .i64 s.stmts, .int .i64 s.grow, .int .i64 s.shrink, .int .i64 s.asks] 24) ∧ w767.heap[WA.heap.size]? = some (.cells #[.slice none 0 0, .slice none 0 0, .slice none 0 0, .slice none 0 0] 57) ∧ w767.heap[YB]? = some (.cells #[.slice ao0 n0 cp0, .slice ao' (i + 1) cap', .slice none 0 0, .slice none 0 0] 57) ∧ RdX stmE w767 (.slice ao0 n0 cp0) l0 (fun k => L0 ≤ k ∧ k < L1) ∧ OwnK rolE L1 w767 (.slice ao' (i + 1) cap') (manyD (fun x => rolD x s) (i + 1) x1).1) := by rw [HNX.out.1, HNX.out.2.1]; exact ⟨HS764.out, HK765.out, HE762.out, HS759.out, HX760.out, HY758.out, HE761.out, HE763.out⟩
      clear HS764 HK765 HE762 HE763 HS759 HX760 HY758 HE761
      go_wp2_with fail
      go_roundg (n1 - (i + 1))
      case measure => omega
      case rel => exact ⟨i + 1, ao', cap', by omega, rfl, by go_num, HN2⟩
     case p4_726 =>
      go_simp
      refine (HCC.out _ HS720.out).mono ?_
      rintro e w768 ⟨rfl, hk⟩
      have HS769 := Lib.hid (((hk.out.2).block _ (lt_of_heap HS714.out) (by have := HN712.out; show ¬ _ = _; omega)).trans HS714.out)
      have HX770 := Lib.hid (((hk.out.2).block _ (lt_of_heap HX715.out) (by have := HN712.out; show ¬ _ = _; omega)).trans HX715.out)
      have HY771 := Lib.hid (((hk.out.2).block _ (lt_of_heap HY716.out) (by have := HN712.out; show ¬ _ = _; omega)).trans HY716.out)
      have HE772 := Lib.hid (RdX.keeps HE717.out (hk.out.2) (fun q hq hp e => by have hp : L0 ≤ q ∧ q < L1 := hp; have e : q = _ := e; have := HN712.out; omega))
      have HE773 := Lib.hid (OwnK.keeps HE718.out (hk.out.2) (fun q hq e => by have e : q = _ := e; have := HN712.out; omega))
      have HE774 := Lib.hid (Nat.le_trans HE719.out (hk.out.2).size)
      have HS775 := Lib.hid (hk.out.1)
      have HK776 := Lib.hid (HK721.out.trans (hk.out.2))
      clear hk HCC HS714 HX715 HY716 HE717 HE718 HE719 HS720 HK721
      go_simp
      refine hK.out _ _ ?s_777 (fun hHeld => ?_)
      case s_777 => exact HMK713.out _ HS769.out
      clear hK KK
      (try simp only [Act.put, nm1, nm2, nm3])
      refine wpAnyH_two (i := 1) (j := 5) (by kernel_rfl) rfl rfl (fun KK hK => ?p1_778) (fun KK hK => ?p5_778)
      case p1_778 =>
       obtain ⟨Yc0, Yf0, Yc1, Yf1, Yc2, Yf2, Yc3, Yf3⟩ := cf4 HY771.out
       go_simp
       refine hK.out _ _ ?s_779 (fun hHeld => ?_)
       case s_779 => exact HMK713.out _ HS769.out
       clear hK KK
       (try simp only [Act.put, nm1, nm2, nm3])
       clear Yc0 Yf0 Yc1 Yf1 Yc2 Yf2 Yc3 Yf3
       refine wpAnyH_one (i := 5) (by kernel_rfl) rfl (fun KK hK => ?_)
       have hkE : Keeps (fun _ => False) w768 (w768.alloc (.cells #[.string ⟨rr1.toArray⟩, .string ⟨rr2.toArray⟩] 40)) := (Keeps.refl _ _).alloc _
       have HSR : Hid (RdK rolE (w768.alloc (.cells #[.string ⟨rr1.toArray⟩, .string ⟨rr2.toArray⟩] 40)) (.slice (some ⟨w768.heap.size, 0, none⟩) 1 1) [(rr1, rr2)]) := (one_srcK rolE w768 (rr1, rr2) #[.string ⟨rr1.toArray⟩, .string ⟨rr2.toArray⟩] rfl).1
       have HS780 := Lib.hid (((hkE).block _ (lt_of_heap HS769.out) (fun x => x)).trans HS769.out)
       have HX781 := Lib.hid (((hkE).block _ (lt_of_heap HX770.out) (fun x => x)).trans HX770.out)
       have HY782 := Lib.hid (((hkE).block _ (lt_of_heap HY771.out) (fun x => x)).trans HY771.out)
       have HE783 := Lib.hid (RdX.keeps HE772.out (hkE) (fun _ _ _ x => x))
       have HE784 := Lib.hid (OwnK.keeps HE773.out (hkE) (fun _ _ x => x))
       have HE785 := Lib.hid (Nat.le_trans HE774.out (hkE).size)
       have HS786 := Lib.hid (HS775.out.keeps hkE (fun x => x))
       have HK787 := Lib.hid (HK776.out.trans (hkE.mono (fun _ _ x => x.elim)))
       go_simp
       refine hK.out _ _ ?s_788 (fun hHeld => ?_)
       case s_788 => exact HMK713.out _ HS780.out
       clear hK KK
       (try simp only [Act.put, nm1, nm2, nm3])
       clear hkE HS769 HX770 HY771 HE772 HE773 HE774 HS775 HK776
       generalize (w768.alloc (.cells #[.string ⟨rr1.toArray⟩, .string ⟨rr2.toArray⟩] 40)) = w789 at *
       refine wpAnyH_one (i := 6) (by kernel_rfl) rfl (fun KK hK => ?_)
       refine step_app_fp (E := rolE) rfl (.tmp 31) (.tmp 35) rfl L1 (.slice ao i cap) ol (by simp [Act.eval, Act.put] <;> rfl) HE784.out _ [(rr1, rr2)] (by simp [Act.eval, Act.put] <;> rfl) HSR.out (by simp) (by have := HNX.out.2.2; simp; omega) HE785.out ?_
       intro ao' cap' w790 ho hk hf
       have hln : (ol ++ [(rr1, rr2)]).length = i + 1 := by rw [List.length_append, HNX.out.2.2]; rfl
       rw [hln] at ho hf ⊢
       have kG : Keeps (fun q => L1 ≤ q) w789 w790 := hk.mono (fun q _ e => own_block HE784.out q e)
       have HRN : Hid (OwnK rolE L1 w790 (.slice ao' (i + 1) cap') (ol ++ [(rr1, rr2)])) := ho
       have HS791 := Lib.hid (((kG).block _ (lt_of_heap HS780.out) (by have := HN712.out; show ¬ _ ≤ _; omega)).trans HS780.out)
       have HX792 := Lib.hid (((kG).block _ (lt_of_heap HX781.out) (by have := HN712.out; show ¬ _ ≤ _; omega)).trans HX781.out)
       have HY793 := Lib.hid (((kG).block _ (lt_of_heap HY782.out) (by have := HN712.out; show ¬ _ ≤ _; omega)).trans HY782.out)
       have HE794 := Lib.hid (RdX.keeps HE783.out (kG) (fun q hq hp e => by have hp : L0 ≤ q ∧ q < L1 := hp; have e : L1 ≤ q := e; have := HN712.out; omega))
       have HE795 := Lib.hid (Nat.le_trans HE785.out (kG).size)
       have HS796 := Lib.hid (HS786.out.keeps kG (by have := HN712.out; show ¬ _ ≤ _; omega))
       have HK797 := Lib.hid (HK787.out.trans_new kG (fun q hq e => by have := HN712.out; omega))
       refine hK.out _ _ ?s_798 (fun hHeld => ?_)
       case s_798 => exact HMK713.out _ HS791.out
       clear hK KK
       (try simp only [Act.put, nm1, nm2, nm3])
       clear kG ho hk hf hln HS780 HX781 HY782 HE783 HE785 HE784 HSR HS786 HK787
       refine wpAnyH_one (i := 7) (by kernel_rfl) rfl (fun KK hK => ?_)
       go_simp
       refine hK.out _ _ ?s_799 (fun hHeld => ?_)
       case s_799 => exact HMK713.out _ HS791.out
       clear hK KK
       (try simp only [Act.put, nm1, nm2, nm3])
       refine wpAnyH_one (i := 8) (by kernel_rfl) rfl (fun KK hK => ?_)
       obtain ⟨Yc0, Yf0, Yc1, Yf1, Yc2, Yf2, Yc3, Yf3⟩ := cf4 HY793.out
       have hs0 : (w790.setCell ⟨YB, 1, none⟩ (.slice ao' (i + 1) cap')).heap[YB]? = some (.cells #[.slice ao0 n0 cp0, .slice ao' (i + 1) cap', .slice none 0 0, .slice none 0 0] 57) := heap_set HY793.out 1 (.slice ao' (i + 1) cap')
       have hkE : Keeps (fun q => q = YB) w790 (w790.setCell ⟨YB, 1, none⟩ (.slice ao' (i + 1) cap')) := Keeps.setCell (S := fun q => q = YB) (Keeps.refl _ _) (p := ⟨YB, 1, none⟩) (fun _ => rfl) _
       have HY800 := Lib.hid hs0
       have HS801 := Lib.hid (((hkE).block _ (lt_of_heap HS791.out) (by have := HN712.out; show ¬ _ = _; omega)).trans HS791.out)
       have HX802 := Lib.hid (((hkE).block _ (lt_of_heap HX792.out) (by have := HN712.out; show ¬ _ = _; omega)).trans HX792.out)
       have HE803 := Lib.hid (RdX.keeps HE794.out (hkE) (fun q hq hp e => by have hp : L0 ≤ q ∧ q < L1 := hp; have e : q = _ := e; have := HN712.out; omega))
       have HE804 := Lib.hid (Nat.le_trans HE795.out (hkE).size)
       have HE805 := Lib.hid (OwnK.keeps HRN.out (hkE) (fun q hq e => by have e : q = _ := e; have := HN712.out; omega))
       have HS806 := Lib.hid (HS796.out.keeps hkE (by have := HN712.out; show ¬ _ = _; omega))
       have HK807 := Lib.hid (HK797.out.trans_new hkE (fun q hq e => by have := HN712.out; omega))
       go_simp
       refine hK.out _ _ ?s_808 (fun hHeld => ?_)
       case s_808 => exact HMK713.out _ HS801.out
       clear hK KK
       (try simp only [Act.put, nm1, nm2, nm3])
       clear hkE hs0  HY793 HS791 HX792 HE794 HE795 HRN HS796 HK797
       clear Yc0 Yf0 Yc1 Yf1 Yc2 Yf2 Yc3 Yf3
       generalize (w790.setCell ⟨YB, 1, none⟩ (.slice ao' (i + 1) cap')) = w809 at *
       refine wpAnyH_done (by kernel_rfl) ?_ _
       refine NoPanic.normal ?_
       clear hHeld HMK713
       have HN2 : Hid (StB w809 30 b (manyD (fun x => rolD x s) (i + 1) x1).2 ∧ Keeps (fun q => q = b) W w809 ∧ L1 ≤ w809.heap.size ∧ w809.heap[W.heap.size]? = some (.cells #[.int .i64 s.prins, .int .i64 s.links, .int .i64 s.stmts, .int .i64 s.grow, .int .i64 s.shrink, .int .i64 s.asks] 24) ∧ w809.heap[WA.heap.size]? = some (.cells #[.slice none 0 0, .slice none 0 0, .slice none 0 0, .slice none 0 0] 57) ∧ w809.heap[YB]? = some (.cells #[.slice ao0 n0 cp0, .slice ao' (i + 1) cap', .slice none 0 0, .slice none 0 0] 57) ∧ RdX stmE w809 (.slice ao0 n0 cp0) l0 (fun k => L0 ≤ k ∧ k < L1) ∧ OwnK rolE L1 w809 (.slice ao' (i + 1) cap') (manyD (fun x => rolD x s) (i + 1) x1).1) := by rw [HNX.out.1, HNX.out.2.1]; exact ⟨HS806.out, HK807.out, HE804.out, HS801.out, HX802.out, HY800.out, HE803.out, HE805.out⟩
       clear HS806 HK807 HE804 HE805 HS801 HX802 HY800 HE803
       go_wp2_with fail
       go_roundg (n1 - (i + 1))
       case measure => omega
       case rel => exact ⟨i + 1, ao', cap', by omega, rfl, by go_num, HN2⟩
      case p5_778 =>
       have hkE : Keeps (fun _ => False) w768 (w768.alloc (.cells #[.string ⟨rr1.toArray⟩, .string ⟨rr2.toArray⟩] 40)) := (Keeps.refl _ _).alloc _
       have HSR : Hid (RdK rolE (w768.alloc (.cells #[.string ⟨rr1.toArray⟩, .string ⟨rr2.toArray⟩] 40)) (.slice (some ⟨w768.heap.size, 0, none⟩) 1 1) [(rr1, rr2)]) := (one_srcK rolE w768 (rr1, rr2) #[.string ⟨rr1.toArray⟩, .string ⟨rr2.toArray⟩] rfl).1
       have HS810 := Lib.hid (((hkE).block _ (lt_of_heap HS769.out) (fun x => x)).trans HS769.out)
       have HX811 := Lib.hid (((hkE).block _ (lt_of_heap HX770.out) (fun x => x)).trans HX770.out)
       have HY812 := Lib.hid (((hkE).block _ (lt_of_heap HY771.out) (fun x => x)).trans HY771.out)
       have HE813 := Lib.hid (RdX.keeps HE772.out (hkE) (fun _ _ _ x => x))
       have HE814 := Lib.hid (OwnK.keeps HE773.out (hkE) (fun _ _ x => x))
       have HE815 := Lib.hid (Nat.le_trans HE774.out (hkE).size)
       have HS816 := Lib.hid (HS775.out.keeps hkE (fun x => x))
       have HK817 := Lib.hid (HK776.out.trans (hkE.mono (fun _ _ x => x.elim)))
       go_simp
       refine hK.out _ _ ?s_818 (fun hHeld => ?_)
       case s_818 => exact HMK713.out _ HS810.out
       clear hK KK
       (try simp only [Act.put, nm1, nm2, nm3])
       clear hkE HS769 HX770 HY771 HE772 HE773 HE774 HS775 HK776
       generalize (w768.alloc (.cells #[.string ⟨rr1.toArray⟩, .string ⟨rr2.toArray⟩] 40)) = w819 at *
       refine wpAnyH_one (i := 1) (by kernel_rfl) rfl (fun KK hK => ?_)
       obtain ⟨Yc0, Yf0, Yc1, Yf1, Yc2, Yf2, Yc3, Yf3⟩ := cf4 HY812.out
       go_simp
       refine hK.out _ _ ?s_820 (fun hHeld => ?_)
       case s_820 => exact HMK713.out _ HS810.out
       clear hK KK
       (try simp only [Act.put, nm1, nm2, nm3])
       clear Yc0 Yf0 Yc1 Yf1 Yc2 Yf2 Yc3 Yf3
       refine wpAnyH_one (i := 6) (by kernel_rfl) rfl (fun KK hK => ?_)
       refine step_app_fp (E := rolE) rfl (.tmp 31) (.tmp 35) rfl L1 (.slice ao i cap) ol (by simp [Act.eval, Act.put] <;> rfl) HE814.out _ [(rr1, rr2)] (by simp [Act.eval, Act.put] <;> rfl) HSR.out (by simp) (by have := HNX.out.2.2; simp; omega) HE815.out ?_
       intro ao' cap' w821 ho hk hf
       have hln : (ol ++ [(rr1, rr2)]).length = i + 1 := by rw [List.length_append, HNX.out.2.2]; rfl
       rw [hln] at ho hf ⊢
       have kG : Keeps (fun q => L1 ≤ q) w819 w821 := hk.mono (fun q _ e => own_block HE814.out q e)
       have HRN : Hid (OwnK rolE L1 w821 (.slice ao' (i + 1) cap') (ol ++ [(rr1, rr2)])) := ho
       have HS822 := Lib.hid (((kG).block _ (lt_of_heap HS810.out) (by have := HN712.out; show ¬ _ ≤ _; omega)).trans HS810.out)
       have HX823 := Lib.hid (((kG).block _ (lt_of_heap HX811.out) (by have := HN712.out; show ¬ _ ≤ _; omega)).trans HX811.out)
       have HY824 := Lib.hid (((kG).block _ (lt_of_heap HY812.out) (by have := HN712.out; show ¬ _ ≤ _; omega)).trans HY812.out)
       have HE825 := Lib.hid (RdX.keeps HE813.out (kG) (fun q hq hp e => by have hp : L0 ≤ q ∧ q < L1 := hp; have e : L1 ≤ q := e; have := HN712.out; omega))
       have HE826 := Lib.hid (Nat.le_trans HE815.out (kG).size)
       have HS827 := Lib.hid (HS816.out.keeps kG (by have := HN712.out; show ¬ _ ≤ _; omega))
       have HK828 := Lib.hid (HK817.out.trans_new kG (fun q hq e => by have := HN712.out; omega))
       refine hK.out _ _ ?s_829 (fun hHeld => ?_)
       case s_829 => exact HMK713.out _ HS822.out
       clear hK KK
       (try simp only [Act.put, nm1, nm2, nm3])
       clear kG ho hk hf hln HS810 HX811 HY812 HE813 HE815 HE814 HSR HS816 HK817
       refine wpAnyH_one (i := 7) (by kernel_rfl) rfl (fun KK hK => ?_)
       go_simp
       refine hK.out _ _ ?s_830 (fun hHeld => ?_)
       case s_830 => exact HMK713.out _ HS822.out
       clear hK KK
       (try simp only [Act.put, nm1, nm2, nm3])
       refine wpAnyH_one (i := 8) (by kernel_rfl) rfl (fun KK hK => ?_)
       obtain ⟨Yc0, Yf0, Yc1, Yf1, Yc2, Yf2, Yc3, Yf3⟩ := cf4 HY824.out
       have hs0 : (w821.setCell ⟨YB, 1, none⟩ (.slice ao' (i + 1) cap')).heap[YB]? = some (.cells #[.slice ao0 n0 cp0, .slice ao' (i + 1) cap', .slice none 0 0, .slice none 0 0] 57) := heap_set HY824.out 1 (.slice ao' (i + 1) cap')
       have hkE : Keeps (fun q => q = YB) w821 (w821.setCell ⟨YB, 1, none⟩ (.slice ao' (i + 1) cap')) := Keeps.setCell (S := fun q => q = YB) (Keeps.refl _ _) (p := ⟨YB, 1, none⟩) (fun _ => rfl) _
       have HY831 := Lib.hid hs0
       have HS832 := Lib.hid (((hkE).block _ (lt_of_heap HS822.out) (by have := HN712.out; show ¬ _ = _; omega)).trans HS822.out)
       have HX833 := Lib.hid (((hkE).block _ (lt_of_heap HX823.out) (by have := HN712.out; show ¬ _ = _; omega)).trans HX823.out)
       have HE834 := Lib.hid (RdX.keeps HE825.out (hkE) (fun q hq hp e => by have hp : L0 ≤ q ∧ q < L1 := hp; have e : q = _ := e; have := HN712.out; omega))
       have HE835 := Lib.hid (Nat.le_trans HE826.out (hkE).size)
       have HE836 := Lib.hid (OwnK.keeps HRN.out (hkE) (fun q hq e => by have e : q = _ := e; have := HN712.out; omega))
       have HS837 := Lib.hid (HS827.out.keeps hkE (by have := HN712.out; show ¬ _ = _; omega))
       have HK838 := Lib.hid (HK828.out.trans_new hkE (fun q hq e => by have := HN712.out; omega))
       go_simp
       refine hK.out _ _ ?s_839 (fun hHeld => ?_)
       case s_839 => exact HMK713.out _ HS832.out
       clear hK KK
       (try simp only [Act.put, nm1, nm2, nm3])
       clear hkE hs0  HY824 HS822 HX823 HE825 HE826 HRN HS827 HK828
       clear Yc0 Yf0 Yc1 Yf1 Yc2 Yf2 Yc3 Yf3
       generalize (w821.setCell ⟨YB, 1, none⟩ (.slice ao' (i + 1) cap')) = w840 at *
       refine wpAnyH_done (by kernel_rfl) ?_ _
       refine NoPanic.normal ?_
       clear hHeld HMK713
       have HN2 : Hid (StB w840 30 b (manyD (fun x => rolD x s) (i + 1) x1).2 ∧ Keeps (fun q => q = b) W w840 ∧ L1 ≤ w840.heap.size ∧ w840.heap[W.heap.size]? = some (.cells #[.int .i64 s.prins, .int .i64 s.links, .int .i64 s.stmts, .int .i64 s.grow, .int .i64 s.shrink, .int .i64 s.asks] 24) ∧ w840.heap[WA.heap.size]? = some (.cells #[.slice none 0 0, .slice none 0 0, .slice none 0 0, .slice none 0 0] 57) ∧ w840.heap[YB]? = some (.cells #[.slice ao0 n0 cp0, .slice ao' (i + 1) cap', .slice none 0 0, .slice none 0 0] 57) ∧ RdX stmE w840 (.slice ao0 n0 cp0) l0 (fun k => L0 ≤ k ∧ k < L1) ∧ OwnK rolE L1 w840 (.slice ao' (i + 1) cap') (manyD (fun x => rolD x s) (i + 1) x1).1) := by rw [HNX.out.1, HNX.out.2.1]; exact ⟨HS837.out, HK838.out, HE835.out, HS832.out, HX833.out, HY831.out, HE834.out, HE836.out⟩
       clear HS837 HK838 HE835 HE836 HS832 HX833 HY831 HE834
       go_wp2_with fail
       go_roundg (n1 - (i + 1))
       case measure => omega
       case rel => exact ⟨i + 1, ao', cap', by omega, rfl, by go_num, HN2⟩
    ·obtain rfl : n1 = i := by omega
     have hiI : ¬ (n1 : Int) < s.grow := by have := HBD.out; omega
     have HT1 := Lib.hid HI.out.1
     have HK1 := Lib.hid HI.out.2.1
     have HSZ := Lib.hid HI.out.2.2.1
     have HBS := Lib.hid HI.out.2.2.2.1
     have HBX := Lib.hid HI.out.2.2.2.2.1
     have HBP := Lib.hid HI.out.2.2.2.2.2.1
     have HEX0 := Lib.hid HI.out.2.2.2.2.2.2.1
     have HRO := Lib.hid HI.out.2.2.2.2.2.2.2
     clear HI
     rw [HM1.out] at HT1 HRO
     have HROW1 : Hid (RdX rolE wr (.slice ao n1 cap) l1 (fun k => L1 ≤ k)) := HRO.out.rdX (fun k hk _ => hk)
     clear HRO HM1 HSU1 HLE1 
     skip
     generalize ao = ao1 at *
     generalize cap = cp1 at *
     generalize wr = wl1 at *
     obtain ⟨Sc0, Sf0, Sc1, Sf1, Sc2, Sf2, Sc3, Sf3, Sc4, Sf4, Sc5, Sf5⟩ := cf6 HBS.out
     go_upto_region 11 with fail
     clear Sc0 Sf0 Sc1 Sf1 Sc2 Sf2 Sc3 Sf3 Sc4 Sf4 Sc5 Sf5
     obtain ⟨L2, hL2⟩ : ∃ q, wl1.heap.size = q := ⟨_, rfl⟩
     have HE841 : Hid (RdX stmE wl1 (.slice ao0 n0 cp0) l0 (fun k => L0 ≤ k ∧ k < L1 ∧ k < L2)) := HEX0.out.into (Keeps.refl (fun _ => False) _) (fun _ _ _ x => x) (fun q hq hp => by have hp : L0 ≤ q ∧ q < L1 := hp; have := hL2; show L0 ≤ q ∧ q < L1 ∧ q < L2; first | omega | (obtain ⟨hp1, hp2⟩ := hp; refine ⟨hp1, ?_⟩; omega) | (refine ⟨hp, ?_⟩; omega))
     clear HEX0
     have HE842 : Hid (RdX rolE wl1 (.slice ao1 n1 cp1) l1 (fun k => L1 ≤ k ∧ k < L2)) := HROW1.out.into (Keeps.refl (fun _ => False) _) (fun _ _ _ x => x) (fun q hq hp => by have hp : L1 ≤ q := hp; have := hL2; show L1 ≤ q ∧ q < L2; first | omega | (obtain ⟨hp1, hp2⟩ := hp; refine ⟨hp1, ?_⟩; omega) | (refine ⟨hp, ?_⟩; omega))
     clear HROW1
     have HN843 : Hid (((((W.heap.size ≠ b ∧ WA.heap.size ≠ b ∧ WA.heap.size ≠ W.heap.size ∧ W.heap.size ≤ WA.heap.size ∧ b < W.heap.size) ∧ W.heap.size ≤ YB ∧ W.heap.size < YB ∧ WA.heap.size < YB ∧ b < YB) ∧ W.heap.size < L0 ∧ WA.heap.size < L0 ∧ YB < L0 ∧ W.heap.size ≤ L0) ∧ W.heap.size < L1 ∧ WA.heap.size < L1 ∧ YB < L1 ∧ W.heap.size ≤ L1 ∧ L0 ≤ L1) ∧ W.heap.size < L2 ∧ WA.heap.size < L2 ∧ YB < L2 ∧ W.heap.size ≤ L2 ∧ L1 ≤ L2) := ⟨HN712.out, by
      have hz := HK1.out.size
      have l0 := lt_of_heap HBS.out
      have l1 := lt_of_heap HBX.out
      have l2 := lt_of_heap HBP.out
      have ll := HSZ.out
      refine ⟨?_, ?_, ?_, ?_, ?_⟩ <;> omega⟩
     clear HN712
     have HSL2 : Hid (L2 ≤ wl1.heap.size) := by show _ ≤ _; omega
     clear hL2 HSZ
     go_wp2_with fail
     go_loopg [8] n2 (fun g t wx => ∃ (i : Nat) (ao : Option Addr) (cap : Nat), i ≤ n2 ∧ g = n2 - i ∧ t = .int .i64 i ∧ Hid (StB wx 30 b (manyD (fun x => rolD x s) i x2).2 ∧ Keeps (fun q => q = b) W wx ∧ L2 ≤ wx.heap.size ∧ wx.heap[W.heap.size]? = some (.cells #[.int .i64 s.prins, .int .i64 s.links, .int .i64 s.stmts, .int .i64 s.grow, .int .i64 s.shrink, .int .i64 s.asks] 24) ∧ wx.heap[WA.heap.size]? = some (.cells #[.slice none 0 0, .slice none 0 0, .slice none 0 0, .slice none 0 0] 57) ∧ wx.heap[YB]? = some (.cells #[.slice ao0 n0 cp0, .slice ao1 n1 cp1, .slice ao i cap, .slice none 0 0] 57) ∧ RdX stmE wx (.slice ao0 n0 cp0) l0 (fun k => L0 ≤ k ∧ k < L1 ∧ k < L2) ∧ RdX rolE wx (.slice ao1 n1 cp1) l1 (fun k => L1 ≤ k ∧ k < L2) ∧ OwnK rolE L2 wx (.slice ao i cap) (manyD (fun x => rolD x s) i x2).1))
     case atStart => exact ⟨0, none, 0, Nat.zero_le _, rfl, rfl, HT1.out, HK1.out, HSL2.out, HBS.out, HBX.out, HBP.out, HE841.out, HE842.out, ownK_nil rolE _ _⟩
     case round =>
      obtain ⟨i, ao, cap, hi, rfl, rfl, HI⟩ := hrel
      clear HT1 HK1 HSL2 HBS HBX HBP HE841 HE842
      by_cases hlt : i < n2
      ·have hiI : (i : Int) < s.shrink := by have := HBD.out; omega
       have hi100 : i < 100 := by have := HBD.out; omega
       have HT1 := Lib.hid HI.out.1
       have HK1 := Lib.hid HI.out.2.1
       have HSZ := Lib.hid HI.out.2.2.1
       have HBS := Lib.hid HI.out.2.2.2.1
       have HBX := Lib.hid HI.out.2.2.2.2.1
       have HBP := Lib.hid HI.out.2.2.2.2.2.1
       have HEX0 := Lib.hid HI.out.2.2.2.2.2.2.1
       have HEX1 := Lib.hid HI.out.2.2.2.2.2.2.2.1
       have HRO := Lib.hid HI.out.2.2.2.2.2.2.2.2
       clear HI
       have hwi : IntKind.i64.wrap ((i : Int) + 1) = (i : Int) + 1 := IntWalk.i64_in _ (by omega)
       obtain ⟨y, hy⟩ : ∃ q, (manyD (fun x => rolD x s) i x2).2 = q := ⟨_, rfl⟩
       obtain ⟨ol, hol⟩ : ∃ q, (manyD (fun x => rolD x s) i x2).1 = q := ⟨_, rfl⟩
       have HNX : Hid ((manyD (fun x => rolD x s) (i + 1) x2).1 = ol ++ [(rolD y s).1] ∧ (manyD (fun x => rolD x s) (i + 1) x2).2 = (rolD y s).2 ∧ ol.length = i) := by
        refine ⟨?_, ?_, ?_⟩
        ·rw [(HSU2.out i).1, hol, hy]
        ·rw [(HSU2.out i).2, hy]
        ·rw [← hol]; exact HLE2.out i
       rw [hy] at HT1
       rw [hol] at HRO
       have HCC := Lib.hid (HC1.out y)
       obtain ⟨⟨nn, yq⟩, hnn⟩ : ∃ q, rolD y s = q := ⟨_, rfl⟩
       rw [hnn] at HCC HNX
       clear hnn hy hol
       obtain ⟨rr1, rr2⟩ := nn
       unfold rolV encStr8 at HCC
       simp only at HCC
       obtain ⟨Sc0, Sf0, Sc1, Sf1, Sc2, Sf2, Sc3, Sf3, Sc4, Sf4, Sc5, Sf5⟩ := cf6 HBS.out
       go_upto_region 13 with fail
       clear Sc0 Sf0 Sc1 Sf1 Sc2 Sf2 Sc3 Sf3 Sc4 Sf4 Sc5 Sf5
       have HMK844 : Hid (∀ w' : World, w'.heap[W.heap.size]? = some (.cells #[.int .i64 s.prins, .int .i64 s.links, .int .i64 s.stmts, .int .i64 s.grow, .int .i64 s.shrink, .int .i64 s.asks] 24) → w'.cell? ⟨W.heap.size, 0, none⟩ = some (.int .i64 s.prins) ∧ w'.cell? ⟨W.heap.size, 1, none⟩ = some (.int .i64 s.links) ∧ w'.cell? ⟨W.heap.size, 2, none⟩ = some (.int .i64 s.stmts) ∧ w'.cell? ⟨W.heap.size, 3, none⟩ = some (.int .i64 s.grow) ∧ w'.cell? ⟨W.heap.size, 4, none⟩ = some (.int .i64 s.shrink) ∧ w'.cell? ⟨W.heap.size, 5, none⟩ = some (.int .i64 s.asks) ∧ Hid (w'.heap[W.heap.size]? = some (.cells #[.int .i64 s.prins, .int .i64 s.links, .int .i64 s.stmts, .int .i64 s.grow, .int .i64 s.shrink, .int .i64 s.asks] 24))) := fun w' h0 => ⟨(by rw [cell_of_heap h0]; rfl), (by rw [cell_of_heap h0]; rfl), (by rw [cell_of_heap h0]; rfl), (by rw [cell_of_heap h0]; rfl), (by rw [cell_of_heap h0]; rfl), (by rw [cell_of_heap h0]; rfl), Lib.hid h0⟩
       have hkd : Keeps (fun _ => False) wr wr.drew := (Keeps.refl _ _).drew
       have HS845 := Lib.hid (((hkd).block _ (lt_of_heap HBS.out) (fun x => x)).trans HBS.out)
       have HX846 := Lib.hid (((hkd).block _ (lt_of_heap HBX.out) (fun x => x)).trans HBX.out)
       have HY847 := Lib.hid (((hkd).block _ (lt_of_heap HBP.out) (fun x => x)).trans HBP.out)
       have HE848 := Lib.hid (RdX.keeps HEX0.out (hkd) (fun _ _ _ x => x))
       have HE849 := Lib.hid (RdX.keeps HEX1.out (hkd) (fun _ _ _ x => x))
       have HE850 := Lib.hid (OwnK.keeps HRO.out (hkd) (fun _ _ x => x))
       have HE851 := Lib.hid (Nat.le_trans HSZ.out (hkd).size)
       have HS852 := Lib.hid (HT1.out.keeps hkd (fun x => x))
       have HK853 := Lib.hid (HK1.out.drew)
       have hS0 := HMK844.out wr.drew HS845.out
       clear hkd HBS HBX HBP HEX0 HEX1 HRO HSZ HT1 HK1
       refine wp_region_noPanic ?_
       refine wp_region_held_drew (S := (fun w' => w'.cell? ⟨W.heap.size, 0, none⟩ = some (.int .i64 s.prins) ∧ w'.cell? ⟨W.heap.size, 1, none⟩ = some (.int .i64 s.links) ∧ w'.cell? ⟨W.heap.size, 2, none⟩ = some (.int .i64 s.stmts) ∧ w'.cell? ⟨W.heap.size, 3, none⟩ = some (.int .i64 s.grow) ∧ w'.cell? ⟨W.heap.size, 4, none⟩ = some (.int .i64 s.shrink) ∧ w'.cell? ⟨W.heap.size, 5, none⟩ = some (.int .i64 s.asks) ∧ Hid (w'.heap[W.heap.size]? = some (.cells #[.int .i64 s.prins, .int .i64 s.links, .int .i64 s.stmts, .int .i64 s.grow, .int .i64 s.shrink, .int .i64 s.asks] 24)))) (by kernel_rfl) hS0 (fun hHeld => ?_)
       clear hS0
       generalize wr.drew = w854 at *
       refine wpAnyH_take_at (i := 0) (v := ?v0_855) rfl (by kernel_rfl) (by kernel_rfl) (by kernel_rfl) (fun _ _ _ h => h) (Or.inl ⟨by rfl, ?y0_855⟩) hHeld ?r0_855
       case y0_855 => (intro w hSw; (try dsimp only at hSw); go_simp; first | done | with_reducible rfl)
       (try simp only [Act.put, nm1, nm2, nm3])
       refine wpAnyH_take_at (i := 2) (v := ?v2_856) rfl (by kernel_rfl) (by kernel_rfl) (by kernel_rfl) (fun _ _ _ h => h) (Or.inl ⟨by rfl, ?y2_856⟩) hHeld ?r2_856
       case y2_856 => (intro w hSw; (try dsimp only at hSw); go_simp; first | done | with_reducible rfl)
       (try simp only [Act.put, nm1, nm2, nm3])
       refine wpAnyH_take_at (i := 3) (v := ?v3_857) rfl (by kernel_rfl) (by kernel_rfl) (by kernel_rfl) (fun _ _ _ h => h) (Or.inl ⟨by rfl, ?y3_857⟩) hHeld ?r3_857
       case y3_857 => (intro w hSw; (try dsimp only at hSw); go_simp; first | done | with_reducible rfl)
       (try simp only [Act.put, nm1, nm2, nm3])
       refine wpAnyH_two (i := 1) (j := 4) (by kernel_rfl) rfl rfl (fun KK hK => ?p1_858) (fun KK hK => ?p4_858)
       case p1_858 =>
        obtain ⟨Yc0, Yf0, Yc1, Yf1, Yc2, Yf2, Yc3, Yf3⟩ := cf4 HY847.out
        go_simp
        refine hK.out _ _ ?s_859 (fun hHeld => ?_)
        case s_859 => exact HMK844.out _ HS845.out
        clear hK KK
        (try simp only [Act.put, nm1, nm2, nm3])
        clear Yc0 Yf0 Yc1 Yf1 Yc2 Yf2 Yc3 Yf3
        refine wpAnyH_one (i := 4) (by kernel_rfl) rfl (fun KK hK => ?_)
        go_simp
        refine (HCC.out _ HS852.out).mono ?_
        rintro e w860 ⟨rfl, hk⟩
        have HS861 := Lib.hid (((hk.out.2).block _ (lt_of_heap HS845.out) (by have := HN843.out; show ¬ _ = _; omega)).trans HS845.out)
        have HX862 := Lib.hid (((hk.out.2).block _ (lt_of_heap HX846.out) (by have := HN843.out; show ¬ _ = _; omega)).trans HX846.out)
        have HY863 := Lib.hid (((hk.out.2).block _ (lt_of_heap HY847.out) (by have := HN843.out; show ¬ _ = _; omega)).trans HY847.out)
        have HE864 := Lib.hid (RdX.keeps HE848.out (hk.out.2) (fun q hq hp e => by have hp : L0 ≤ q ∧ q < L1 ∧ q < L2 := hp; have e : q = _ := e; have := HN843.out; omega))
        have HE865 := Lib.hid (RdX.keeps HE849.out (hk.out.2) (fun q hq hp e => by have hp : L1 ≤ q ∧ q < L2 := hp; have e : q = _ := e; have := HN843.out; omega))
        have HE866 := Lib.hid (OwnK.keeps HE850.out (hk.out.2) (fun q hq e => by have e : q = _ := e; have := HN843.out; omega))
        have HE867 := Lib.hid (Nat.le_trans HE851.out (hk.out.2).size)
        have HS868 := Lib.hid (hk.out.1)
        have HK869 := Lib.hid (HK853.out.trans (hk.out.2))
        clear hk HCC HS845 HX846 HY847 HE848 HE849 HE850 HE851 HS852 HK853
        go_simp
        refine hK.out _ _ ?s_870 (fun hHeld => ?_)
        case s_870 => exact HMK844.out _ HS861.out
        clear hK KK
        (try simp only [Act.put, nm1, nm2, nm3])
        refine wpAnyH_one (i := 5) (by kernel_rfl) rfl (fun KK hK => ?_)
        have hkE : Keeps (fun _ => False) w860 (w860.alloc (.cells #[.string ⟨rr1.toArray⟩, .string ⟨rr2.toArray⟩] 40)) := (Keeps.refl _ _).alloc _
        have HSR : Hid (RdK rolE (w860.alloc (.cells #[.string ⟨rr1.toArray⟩, .string ⟨rr2.toArray⟩] 40)) (.slice (some ⟨w860.heap.size, 0, none⟩) 1 1) [(rr1, rr2)]) := (one_srcK rolE w860 (rr1, rr2) #[.string ⟨rr1.toArray⟩, .string ⟨rr2.toArray⟩] rfl).1
        have HS871 := Lib.hid (((hkE).block _ (lt_of_heap HS861.out) (fun x => x)).trans HS861.out)
        have HX872 := Lib.hid (((hkE).block _ (lt_of_heap HX862.out) (fun x => x)).trans HX862.out)
        have HY873 := Lib.hid (((hkE).block _ (lt_of_heap HY863.out) (fun x => x)).trans HY863.out)
        have HE874 := Lib.hid (RdX.keeps HE864.out (hkE) (fun _ _ _ x => x))
        have HE875 := Lib.hid (RdX.keeps HE865.out (hkE) (fun _ _ _ x => x))
        have HE876 := Lib.hid (OwnK.keeps HE866.out (hkE) (fun _ _ x => x))
        have HE877 := Lib.hid (Nat.le_trans HE867.out (hkE).size)
        have HS878 := Lib.hid (HS868.out.keeps hkE (fun x => x))
        have HK879 := Lib.hid (HK869.out.trans (hkE.mono (fun _ _ x => x.elim)))
        go_simp
        refine hK.out _ _ ?s_880 (fun hHeld => ?_)
        case s_880 => exact HMK844.out _ HS871.out
        clear hK KK
        (try simp only [Act.put, nm1, nm2, nm3])
        clear hkE HS861 HX862 HY863 HE864 HE865 HE866 HE867 HS868 HK869
        generalize (w860.alloc (.cells #[.string ⟨rr1.toArray⟩, .string ⟨rr2.toArray⟩] 40)) = w881 at *
        refine wpAnyH_one (i := 6) (by kernel_rfl) rfl (fun KK hK => ?_)
        refine step_app_fp (E := rolE) rfl (.tmp 45) (.tmp 49) rfl L2 (.slice ao i cap) ol (by simp [Act.eval, Act.put] <;> rfl) HE876.out _ [(rr1, rr2)] (by simp [Act.eval, Act.put] <;> rfl) HSR.out (by simp) (by have := HNX.out.2.2; simp; omega) HE877.out ?_
        intro ao' cap' w882 ho hk hf
        have hln : (ol ++ [(rr1, rr2)]).length = i + 1 := by rw [List.length_append, HNX.out.2.2]; rfl
        rw [hln] at ho hf ⊢
        have kG : Keeps (fun q => L2 ≤ q) w881 w882 := hk.mono (fun q _ e => own_block HE876.out q e)
        have HRN : Hid (OwnK rolE L2 w882 (.slice ao' (i + 1) cap') (ol ++ [(rr1, rr2)])) := ho
        have HS883 := Lib.hid (((kG).block _ (lt_of_heap HS871.out) (by have := HN843.out; show ¬ _ ≤ _; omega)).trans HS871.out)
        have HX884 := Lib.hid (((kG).block _ (lt_of_heap HX872.out) (by have := HN843.out; show ¬ _ ≤ _; omega)).trans HX872.out)
        have HY885 := Lib.hid (((kG).block _ (lt_of_heap HY873.out) (by have := HN843.out; show ¬ _ ≤ _; omega)).trans HY873.out)
        have HE886 := Lib.hid (RdX.keeps HE874.out (kG) (fun q hq hp e => by have hp : L0 ≤ q ∧ q < L1 ∧ q < L2 := hp; have e : L2 ≤ q := e; have := HN843.out; omega))
        have HE887 := Lib.hid (RdX.keeps HE875.out (kG) (fun q hq hp e => by have hp : L1 ≤ q ∧ q < L2 := hp; have e : L2 ≤ q := e; have := HN843.out; omega))
        have HE888 := Lib.hid (Nat.le_trans HE877.out (kG).size)
        have HS889 := Lib.hid (HS878.out.keeps kG (by have := HN843.out; show ¬ _ ≤ _; omega))
        have HK890 := Lib.hid (HK879.out.trans_new kG (fun q hq e => by have := HN843.out; omega))
        refine hK.out _ _ ?s_891 (fun hHeld => ?_)
        case s_891 => exact HMK844.out _ HS883.out
        clear hK KK
        (try simp only [Act.put, nm1, nm2, nm3])
        clear kG ho hk hf hln HS871 HX872 HY873 HE874 HE875 HE877 HE876 HSR HS878 HK879
        refine wpAnyH_one (i := 7) (by kernel_rfl) rfl (fun KK hK => ?_)
        go_simp
        refine hK.out _ _ ?s_892 (fun hHeld => ?_)
        case s_892 => exact HMK844.out _ HS883.out
        clear hK KK
        (try simp only [Act.put, nm1, nm2, nm3])
        refine wpAnyH_one (i := 8) (by kernel_rfl) rfl (fun KK hK => ?_)
        obtain ⟨Yc0, Yf0, Yc1, Yf1, Yc2, Yf2, Yc3, Yf3⟩ := cf4 HY885.out
        have hs0 : (w882.setCell ⟨YB, 2, none⟩ (.slice ao' (i + 1) cap')).heap[YB]? = some (.cells #[.slice ao0 n0 cp0, .slice ao1 n1 cp1, .slice ao' (i + 1) cap', .slice none 0 0] 57) := heap_set HY885.out 2 (.slice ao' (i + 1) cap')
        have hkE : Keeps (fun q => q = YB) w882 (w882.setCell ⟨YB, 2, none⟩ (.slice ao' (i + 1) cap')) := Keeps.setCell (S := fun q => q = YB) (Keeps.refl _ _) (p := ⟨YB, 2, none⟩) (fun _ => rfl) _
        have HY893 := Lib.hid hs0
        have HS894 := Lib.hid (((hkE).block _ (lt_of_heap HS883.out) (by have := HN843.out; show ¬ _ = _; omega)).trans HS883.out)
        have HX895 := Lib.hid (((hkE).block _ (lt_of_heap HX884.out) (by have := HN843.out; show ¬ _ = _; omega)).trans HX884.out)
        have HE896 := Lib.hid (RdX.keeps HE886.out (hkE) (fun q hq hp e => by have hp : L0 ≤ q ∧ q < L1 ∧ q < L2 := hp; have e : q = _ := e; have := HN843.out; omega))
        have HE897 := Lib.hid (RdX.keeps HE887.out (hkE) (fun q hq hp e => by have hp : L1 ≤ q ∧ q < L2 := hp; have e : q = _ := e; have := HN843.out; omega))
        have HE898 := Lib.hid (Nat.le_trans HE888.out (hkE).size)
        have HE899 := Lib.hid (OwnK.keeps HRN.out (hkE) (fun q hq e => by have e : q = _ := e; have := HN843.out; omega))
        have HS900 := Lib.hid (HS889.out.keeps hkE (by have := HN843.out; show ¬ _ = _; omega))
        have HK901 := Lib.hid (HK890.out.trans_new hkE (fun q hq e => by have := HN843.out; omega))
        go_simp
        refine hK.out _ _ ?s_902 (fun hHeld => ?_)
        case s_902 => exact HMK844.out _ HS894.out
        clear hK KK
        (try simp only [Act.put, nm1, nm2, nm3])
        clear hkE hs0  HY885 HS883 HX884 HE886 HE887 HE888 HRN HS889 HK890
        clear Yc0 Yf0 Yc1 Yf1 Yc2 Yf2 Yc3 Yf3
        generalize (w882.setCell ⟨YB, 2, none⟩ (.slice ao' (i + 1) cap')) = w903 at *
        refine wpAnyH_done (by kernel_rfl) ?_ _
        refine NoPanic.normal ?_
        clear hHeld HMK844
        have HN2 : Hid (StB w903 30 b (manyD (fun x => rolD x s) (i + 1) x2).2 ∧ Keeps (fun q => q = b) W w903 ∧ L2 ≤ w903.heap.size ∧ w903.heap[W.heap.size]? = some (.cells #[.int .i64 s.prins, .int .i64 s.links, .int .i64 s.stmts, .int .i64 s.grow, .int .i64 s.shrink, .int .i64 s.asks] 24) ∧ w903.heap[WA.heap.size]? = some (.cells #[.slice none 0 0, .slice none 0 0, .slice none 0 0, .slice none 0 0] 57) ∧ w903.heap[YB]? = some (.cells #[.slice ao0 n0 cp0, .slice ao1 n1 cp1, .slice ao' (i + 1) cap', .slice none 0 0] 57) ∧ RdX stmE w903 (.slice ao0 n0 cp0) l0 (fun k => L0 ≤ k ∧ k < L1 ∧ k < L2) ∧ RdX rolE w903 (.slice ao1 n1 cp1) l1 (fun k => L1 ≤ k ∧ k < L2) ∧ OwnK rolE L2 w903 (.slice ao' (i + 1) cap') (manyD (fun x => rolD x s) (i + 1) x2).1) := by rw [HNX.out.1, HNX.out.2.1]; exact ⟨HS900.out, HK901.out, HE898.out, HS894.out, HX895.out, HY893.out, HE896.out, HE897.out, HE899.out⟩
        clear HS900 HK901 HE898 HE899 HS894 HX895 HY893 HE896 HE897
        go_wp2_with fail
        go_roundg (n2 - (i + 1))
        case measure => omega
        case rel => exact ⟨i + 1, ao', cap', by omega, rfl, by go_num, HN2⟩
       case p4_858 =>
        go_simp
        refine (HCC.out _ HS852.out).mono ?_
        rintro e w904 ⟨rfl, hk⟩
        have HS905 := Lib.hid (((hk.out.2).block _ (lt_of_heap HS845.out) (by have := HN843.out; show ¬ _ = _; omega)).trans HS845.out)
        have HX906 := Lib.hid (((hk.out.2).block _ (lt_of_heap HX846.out) (by have := HN843.out; show ¬ _ = _; omega)).trans HX846.out)
        have HY907 := Lib.hid (((hk.out.2).block _ (lt_of_heap HY847.out) (by have := HN843.out; show ¬ _ = _; omega)).trans HY847.out)
        have HE908 := Lib.hid (RdX.keeps HE848.out (hk.out.2) (fun q hq hp e => by have hp : L0 ≤ q ∧ q < L1 ∧ q < L2 := hp; have e : q = _ := e; have := HN843.out; omega))
        have HE909 := Lib.hid (RdX.keeps HE849.out (hk.out.2) (fun q hq hp e => by have hp : L1 ≤ q ∧ q < L2 := hp; have e : q = _ := e; have := HN843.out; omega))
        have HE910 := Lib.hid (OwnK.keeps HE850.out (hk.out.2) (fun q hq e => by have e : q = _ := e; have := HN843.out; omega))
        have HE911 := Lib.hid (Nat.le_trans HE851.out (hk.out.2).size)
        have HS912 := Lib.hid (hk.out.1)
        have HK913 := Lib.hid (HK853.out.trans (hk.out.2))
        clear hk HCC HS845 HX846 HY847 HE848 HE849 HE850 HE851 HS852 HK853
        go_simp
        refine hK.out _ _ ?s_914 (fun hHeld => ?_)
        case s_914 => exact HMK844.out _ HS905.out
        clear hK KK
        (try simp only [Act.put, nm1, nm2, nm3])
        refine wpAnyH_two (i := 1) (j := 5) (by kernel_rfl) rfl rfl (fun KK hK => ?p1_915) (fun KK hK => ?p5_915)
        case p1_915 =>
         obtain ⟨Yc0, Yf0, Yc1, Yf1, Yc2, Yf2, Yc3, Yf3⟩ := cf4 HY907.out
         go_simp
         refine hK.out _ _ ?s_916 (fun hHeld => ?_)
         case s_916 => exact HMK844.out _ HS905.out
         clear hK KK
         (try simp only [Act.put, nm1, nm2, nm3])
         clear Yc0 Yf0 Yc1 Yf1 Yc2 Yf2 Yc3 Yf3
         refine wpAnyH_one (i := 5) (by kernel_rfl) rfl (fun KK hK => ?_)
         have hkE : Keeps (fun _ => False) w904 (w904.alloc (.cells #[.string ⟨rr1.toArray⟩, .string ⟨rr2.toArray⟩] 40)) := (Keeps.refl _ _).alloc _
         have HSR : Hid (RdK rolE (w904.alloc (.cells #[.string ⟨rr1.toArray⟩, .string ⟨rr2.toArray⟩] 40)) (.slice (some ⟨w904.heap.size, 0, none⟩) 1 1) [(rr1, rr2)]) := (one_srcK rolE w904 (rr1, rr2) #[.string ⟨rr1.toArray⟩, .string ⟨rr2.toArray⟩] rfl).1
         have HS917 := Lib.hid (((hkE).block _ (lt_of_heap HS905.out) (fun x => x)).trans HS905.out)
         have HX918 := Lib.hid (((hkE).block _ (lt_of_heap HX906.out) (fun x => x)).trans HX906.out)
         have HY919 := Lib.hid (((hkE).block _ (lt_of_heap HY907.out) (fun x => x)).trans HY907.out)
         have HE920 := Lib.hid (RdX.keeps HE908.out (hkE) (fun _ _ _ x => x))
         have HE921 := Lib.hid (RdX.keeps HE909.out (hkE) (fun _ _ _ x => x))
         have HE922 := Lib.hid (OwnK.keeps HE910.out (hkE) (fun _ _ x => x))
         have HE923 := Lib.hid (Nat.le_trans HE911.out (hkE).size)
         have HS924 := Lib.hid (HS912.out.keeps hkE (fun x => x))
         have HK925 := Lib.hid (HK913.out.trans (hkE.mono (fun _ _ x => x.elim)))
         go_simp
         refine hK.out _ _ ?s_926 (fun hHeld => ?_)
         case s_926 => exact HMK844.out _ HS917.out
         clear hK KK
         (try simp only [Act.put, nm1, nm2, nm3])
         clear hkE HS905 HX906 HY907 HE908 HE909 HE910 HE911 HS912 HK913
         generalize (w904.alloc (.cells #[.string ⟨rr1.toArray⟩, .string ⟨rr2.toArray⟩] 40)) = w927 at *
         refine wpAnyH_one (i := 6) (by kernel_rfl) rfl (fun KK hK => ?_)
         refine step_app_fp (E := rolE) rfl (.tmp 45) (.tmp 49) rfl L2 (.slice ao i cap) ol (by simp [Act.eval, Act.put] <;> rfl) HE922.out _ [(rr1, rr2)] (by simp [Act.eval, Act.put] <;> rfl) HSR.out (by simp) (by have := HNX.out.2.2; simp; omega) HE923.out ?_
         intro ao' cap' w928 ho hk hf
         have hln : (ol ++ [(rr1, rr2)]).length = i + 1 := by rw [List.length_append, HNX.out.2.2]; rfl
         rw [hln] at ho hf ⊢
         have kG : Keeps (fun q => L2 ≤ q) w927 w928 := hk.mono (fun q _ e => own_block HE922.out q e)
         have HRN : Hid (OwnK rolE L2 w928 (.slice ao' (i + 1) cap') (ol ++ [(rr1, rr2)])) := ho
         have HS929 := Lib.hid (((kG).block _ (lt_of_heap HS917.out) (by have := HN843.out; show ¬ _ ≤ _; omega)).trans HS917.out)
         have HX930 := Lib.hid (((kG).block _ (lt_of_heap HX918.out) (by have := HN843.out; show ¬ _ ≤ _; omega)).trans HX918.out)
         have HY931 := Lib.hid (((kG).block _ (lt_of_heap HY919.out) (by have := HN843.out; show ¬ _ ≤ _; omega)).trans HY919.out)
         have HE932 := Lib.hid (RdX.keeps HE920.out (kG) (fun q hq hp e => by have hp : L0 ≤ q ∧ q < L1 ∧ q < L2 := hp; have e : L2 ≤ q := e; have := HN843.out; omega))
         have HE933 := Lib.hid (RdX.keeps HE921.out (kG) (fun q hq hp e => by have hp : L1 ≤ q ∧ q < L2 := hp; have e : L2 ≤ q := e; have := HN843.out; omega))
         have HE934 := Lib.hid (Nat.le_trans HE923.out (kG).size)
         have HS935 := Lib.hid (HS924.out.keeps kG (by have := HN843.out; show ¬ _ ≤ _; omega))
         have HK936 := Lib.hid (HK925.out.trans_new kG (fun q hq e => by have := HN843.out; omega))
         refine hK.out _ _ ?s_937 (fun hHeld => ?_)
         case s_937 => exact HMK844.out _ HS929.out
         clear hK KK
         (try simp only [Act.put, nm1, nm2, nm3])
         clear kG ho hk hf hln HS917 HX918 HY919 HE920 HE921 HE923 HE922 HSR HS924 HK925
         refine wpAnyH_one (i := 7) (by kernel_rfl) rfl (fun KK hK => ?_)
         go_simp
         refine hK.out _ _ ?s_938 (fun hHeld => ?_)
         case s_938 => exact HMK844.out _ HS929.out
         clear hK KK
         (try simp only [Act.put, nm1, nm2, nm3])
         refine wpAnyH_one (i := 8) (by kernel_rfl) rfl (fun KK hK => ?_)
         obtain ⟨Yc0, Yf0, Yc1, Yf1, Yc2, Yf2, Yc3, Yf3⟩ := cf4 HY931.out
         have hs0 : (w928.setCell ⟨YB, 2, none⟩ (.slice ao' (i + 1) cap')).heap[YB]? = some (.cells #[.slice ao0 n0 cp0, .slice ao1 n1 cp1, .slice ao' (i + 1) cap', .slice none 0 0] 57) := heap_set HY931.out 2 (.slice ao' (i + 1) cap')
         have hkE : Keeps (fun q => q = YB) w928 (w928.setCell ⟨YB, 2, none⟩ (.slice ao' (i + 1) cap')) := Keeps.setCell (S := fun q => q = YB) (Keeps.refl _ _) (p := ⟨YB, 2, none⟩) (fun _ => rfl) _
         have HY939 := Lib.hid hs0
         have HS940 := Lib.hid (((hkE).block _ (lt_of_heap HS929.out) (by have := HN843.out; show ¬ _ = _; omega)).trans HS929.out)
         have HX941 := Lib.hid (((hkE).block _ (lt_of_heap HX930.out) (by have := HN843.out; show ¬ _ = _; omega)).trans HX930.out)
         have HE942 := Lib.hid (RdX.keeps HE932.out (hkE) (fun q hq hp e => by have hp : L0 ≤ q ∧ q < L1 ∧ q < L2 := hp; have e : q = _ := e; have := HN843.out; omega))
         have HE943 := Lib.hid (RdX.keeps HE933.out (hkE) (fun q hq hp e => by have hp : L1 ≤ q ∧ q < L2 := hp; have e : q = _ := e; have := HN843.out; omega))
         have HE944 := Lib.hid (Nat.le_trans HE934.out (hkE).size)
         have HE945 := Lib.hid (OwnK.keeps HRN.out (hkE) (fun q hq e => by have e : q = _ := e; have := HN843.out; omega))
         have HS946 := Lib.hid (HS935.out.keeps hkE (by have := HN843.out; show ¬ _ = _; omega))
         have HK947 := Lib.hid (HK936.out.trans_new hkE (fun q hq e => by have := HN843.out; omega))
         go_simp
         refine hK.out _ _ ?s_948 (fun hHeld => ?_)
         case s_948 => exact HMK844.out _ HS940.out
         clear hK KK
         (try simp only [Act.put, nm1, nm2, nm3])
         clear hkE hs0  HY931 HS929 HX930 HE932 HE933 HE934 HRN HS935 HK936
         clear Yc0 Yf0 Yc1 Yf1 Yc2 Yf2 Yc3 Yf3
         generalize (w928.setCell ⟨YB, 2, none⟩ (.slice ao' (i + 1) cap')) = w949 at *
         refine wpAnyH_done (by kernel_rfl) ?_ _
         refine NoPanic.normal ?_
         clear hHeld HMK844
         have HN2 : Hid (StB w949 30 b (manyD (fun x => rolD x s) (i + 1) x2).2 ∧ Keeps (fun q => q = b) W w949 ∧ L2 ≤ w949.heap.size ∧ w949.heap[W.heap.size]? = some (.cells #[.int .i64 s.prins, .int .i64 s.links, .int .i64 s.stmts, .int .i64 s.grow, .int .i64 s.shrink, .int .i64 s.asks] 24) ∧ w949.heap[WA.heap.size]? = some (.cells #[.slice none 0 0, .slice none 0 0, .slice none 0 0, .slice none 0 0] 57) ∧ w949.heap[YB]? = some (.cells #[.slice ao0 n0 cp0, .slice ao1 n1 cp1, .slice ao' (i + 1) cap', .slice none 0 0] 57) ∧ RdX stmE w949 (.slice ao0 n0 cp0) l0 (fun k => L0 ≤ k ∧ k < L1 ∧ k < L2) ∧ RdX rolE w949 (.slice ao1 n1 cp1) l1 (fun k => L1 ≤ k ∧ k < L2) ∧ OwnK rolE L2 w949 (.slice ao' (i + 1) cap') (manyD (fun x => rolD x s) (i + 1) x2).1) := by rw [HNX.out.1, HNX.out.2.1]; exact ⟨HS946.out, HK947.out, HE944.out, HS940.out, HX941.out, HY939.out, HE942.out, HE943.out, HE945.out⟩
         clear HS946 HK947 HE944 HE945 HS940 HX941 HY939 HE942 HE943
         go_wp2_with fail
         go_roundg (n2 - (i + 1))
         case measure => omega
         case rel => exact ⟨i + 1, ao', cap', by omega, rfl, by go_num, HN2⟩
        case p5_915 =>
         have hkE : Keeps (fun _ => False) w904 (w904.alloc (.cells #[.string ⟨rr1.toArray⟩, .string ⟨rr2.toArray⟩] 40)) := (Keeps.refl _ _).alloc _
         have HSR : Hid (RdK rolE (w904.alloc (.cells #[.string ⟨rr1.toArray⟩, .string ⟨rr2.toArray⟩] 40)) (.slice (some ⟨w904.heap.size, 0, none⟩) 1 1) [(rr1, rr2)]) := (one_srcK rolE w904 (rr1, rr2) #[.string ⟨rr1.toArray⟩, .string ⟨rr2.toArray⟩] rfl).1
         have HS950 := Lib.hid (((hkE).block _ (lt_of_heap HS905.out) (fun x => x)).trans HS905.out)
         have HX951 := Lib.hid (((hkE).block _ (lt_of_heap HX906.out) (fun x => x)).trans HX906.out)
         have HY952 := Lib.hid (((hkE).block _ (lt_of_heap HY907.out) (fun x => x)).trans HY907.out)
         have HE953 := Lib.hid (RdX.keeps HE908.out (hkE) (fun _ _ _ x => x))
         have HE954 := Lib.hid (RdX.keeps HE909.out (hkE) (fun _ _ _ x => x))
         have HE955 := Lib.hid (OwnK.keeps HE910.out (hkE) (fun _ _ x => x))
         have HE956 := Lib.hid (Nat.le_trans HE911.out (hkE).size)
         have HS957 := Lib.hid (HS912.out.keeps hkE (fun x => x))
         have HK958 := Lib.hid (HK913.out.trans (hkE.mono (fun _ _ x => x.elim)))
         go_simp
         refine hK.out _ _ ?s_959 (fun hHeld => ?_)
         case s_959 => exact HMK844.out _ HS950.out
         clear hK KK
         (try simp only [Act.put, nm1, nm2, nm3])
         clear hkE HS905 HX906 HY907 HE908 HE909 HE910 HE911 HS912 HK913
         generalize (w904.alloc (.cells #[.string ⟨rr1.toArray⟩, .string ⟨rr2.toArray⟩] 40)) = w960 at *
         refine wpAnyH_one (i := 1) (by kernel_rfl) rfl (fun KK hK => ?_)
         obtain ⟨Yc0, Yf0, Yc1, Yf1, Yc2, Yf2, Yc3, Yf3⟩ := cf4 HY952.out
         go_simp
         refine hK.out _ _ ?s_961 (fun hHeld => ?_)
         case s_961 => exact HMK844.out _ HS950.out
         clear hK KK
         (try simp only [Act.put, nm1, nm2, nm3])
         clear Yc0 Yf0 Yc1 Yf1 Yc2 Yf2 Yc3 Yf3
         refine wpAnyH_one (i := 6) (by kernel_rfl) rfl (fun KK hK => ?_)
         refine step_app_fp (E := rolE) rfl (.tmp 45) (.tmp 49) rfl L2 (.slice ao i cap) ol (by simp [Act.eval, Act.put] <;> rfl) HE955.out _ [(rr1, rr2)] (by simp [Act.eval, Act.put] <;> rfl) HSR.out (by simp) (by have := HNX.out.2.2; simp; omega) HE956.out ?_
         intro ao' cap' w962 ho hk hf
         have hln : (ol ++ [(rr1, rr2)]).length = i + 1 := by rw [List.length_append, HNX.out.2.2]; rfl
         rw [hln] at ho hf ⊢
         have kG : Keeps (fun q => L2 ≤ q) w960 w962 := hk.mono (fun q _ e => own_block HE955.out q e)
         have HRN : Hid (OwnK rolE L2 w962 (.slice ao' (i + 1) cap') (ol ++ [(rr1, rr2)])) := ho
         have HS963 := Lib.hid (((kG).block _ (lt_of_heap HS950.out) (by have := HN843.out; show ¬ _ ≤ _; omega)).trans HS950.out)
         have HX964 := Lib.hid (((kG).block _ (lt_of_heap HX951.out) (by have := HN843.out; show ¬ _ ≤ _; omega)).trans HX951.out)
         have HY965 := Lib.hid (((kG).block _ (lt_of_heap HY952.out) (by have := HN843.out; show ¬ _ ≤ _; omega)).trans HY952.out)
         have HE966 := Lib.hid (RdX.keeps HE953.out (kG) (fun q hq hp e => by have hp : L0 ≤ q ∧ q < L1 ∧ q < L2 := hp; have e : L2 ≤ q := e; have := HN843.out; omega))
         have HE967 := Lib.hid (RdX.keeps HE954.out (kG) (fun q hq hp e => by have hp : L1 ≤ q ∧ q < L2 := hp; have e : L2 ≤ q := e; have := HN843.out; omega))
         have HE968 := Lib.hid (Nat.le_trans HE956.out (kG).size)
         have HS969 := Lib.hid (HS957.out.keeps kG (by have := HN843.out; show ¬ _ ≤ _; omega))
         have HK970 := Lib.hid (HK958.out.trans_new kG (fun q hq e => by have := HN843.out; omega))
         refine hK.out _ _ ?s_971 (fun hHeld => ?_)
         case s_971 => exact HMK844.out _ HS963.out
         clear hK KK
         (try simp only [Act.put, nm1, nm2, nm3])
         clear kG ho hk hf hln HS950 HX951 HY952 HE953 HE954 HE956 HE955 HSR HS957 HK958
         refine wpAnyH_one (i := 7) (by kernel_rfl) rfl (fun KK hK => ?_)
         go_simp
         refine hK.out _ _ ?s_972 (fun hHeld => ?_)
         case s_972 => exact HMK844.out _ HS963.out
         clear hK KK
         (try simp only [Act.put, nm1, nm2, nm3])
         refine wpAnyH_one (i := 8) (by kernel_rfl) rfl (fun KK hK => ?_)
         obtain ⟨Yc0, Yf0, Yc1, Yf1, Yc2, Yf2, Yc3, Yf3⟩ := cf4 HY965.out
         have hs0 : (w962.setCell ⟨YB, 2, none⟩ (.slice ao' (i + 1) cap')).heap[YB]? = some (.cells #[.slice ao0 n0 cp0, .slice ao1 n1 cp1, .slice ao' (i + 1) cap', .slice none 0 0] 57) := heap_set HY965.out 2 (.slice ao' (i + 1) cap')
         have hkE : Keeps (fun q => q = YB) w962 (w962.setCell ⟨YB, 2, none⟩ (.slice ao' (i + 1) cap')) := Keeps.setCell (S := fun q => q = YB) (Keeps.refl _ _) (p := ⟨YB, 2, none⟩) (fun _ => rfl) _
         have HY973 := Lib.hid hs0
         have HS974 := Lib.hid (((hkE).block _ (lt_of_heap HS963.out) (by have := HN843.out; show ¬ _ = _; omega)).trans HS963.out)
         have HX975 := Lib.hid (((hkE).block _ (lt_of_heap HX964.out) (by have := HN843.out; show ¬ _ = _; omega)).trans HX964.out)
         have HE976 := Lib.hid (RdX.keeps HE966.out (hkE) (fun q hq hp e => by have hp : L0 ≤ q ∧ q < L1 ∧ q < L2 := hp; have e : q = _ := e; have := HN843.out; omega))
         have HE977 := Lib.hid (RdX.keeps HE967.out (hkE) (fun q hq hp e => by have hp : L1 ≤ q ∧ q < L2 := hp; have e : q = _ := e; have := HN843.out; omega))
         have HE978 := Lib.hid (Nat.le_trans HE968.out (hkE).size)
         have HE979 := Lib.hid (OwnK.keeps HRN.out (hkE) (fun q hq e => by have e : q = _ := e; have := HN843.out; omega))
         have HS980 := Lib.hid (HS969.out.keeps hkE (by have := HN843.out; show ¬ _ = _; omega))
         have HK981 := Lib.hid (HK970.out.trans_new hkE (fun q hq e => by have := HN843.out; omega))
         go_simp
         refine hK.out _ _ ?s_982 (fun hHeld => ?_)
         case s_982 => exact HMK844.out _ HS974.out
         clear hK KK
         (try simp only [Act.put, nm1, nm2, nm3])
         clear hkE hs0  HY965 HS963 HX964 HE966 HE967 HE968 HRN HS969 HK970
         clear Yc0 Yf0 Yc1 Yf1 Yc2 Yf2 Yc3 Yf3
         generalize (w962.setCell ⟨YB, 2, none⟩ (.slice ao' (i + 1) cap')) = w983 at *
         refine wpAnyH_done (by kernel_rfl) ?_ _
         refine NoPanic.normal ?_
         clear hHeld HMK844
         have HN2 : Hid (StB w983 30 b (manyD (fun x => rolD x s) (i + 1) x2).2 ∧ Keeps (fun q => q = b) W w983 ∧ L2 ≤ w983.heap.size ∧ w983.heap[W.heap.size]? = some (.cells #[.int .i64 s.prins, .int .i64 s.links, .int .i64 s.stmts, .int .i64 s.grow, .int .i64 s.shrink, .int .i64 s.asks] 24) ∧ w983.heap[WA.heap.size]? = some (.cells #[.slice none 0 0, .slice none 0 0, .slice none 0 0, .slice none 0 0] 57) ∧ w983.heap[YB]? = some (.cells #[.slice ao0 n0 cp0, .slice ao1 n1 cp1, .slice ao' (i + 1) cap', .slice none 0 0] 57) ∧ RdX stmE w983 (.slice ao0 n0 cp0) l0 (fun k => L0 ≤ k ∧ k < L1 ∧ k < L2) ∧ RdX rolE w983 (.slice ao1 n1 cp1) l1 (fun k => L1 ≤ k ∧ k < L2) ∧ OwnK rolE L2 w983 (.slice ao' (i + 1) cap') (manyD (fun x => rolD x s) (i + 1) x2).1) := by rw [HNX.out.1, HNX.out.2.1]; exact ⟨HS980.out, HK981.out, HE978.out, HS974.out, HX975.out, HY973.out, HE976.out, HE977.out, HE979.out⟩
         clear HS980 HK981 HE978 HE979 HS974 HX975 HY973 HE976 HE977
         go_wp2_with fail
         go_roundg (n2 - (i + 1))
         case measure => omega
         case rel => exact ⟨i + 1, ao', cap', by omega, rfl, by go_num, HN2⟩
      ·obtain rfl : n2 = i := by omega
       have hiI : ¬ (n2 : Int) < s.shrink := by have := HBD.out; omega
       have HT1 := Lib.hid HI.out.1
       have HK1 := Lib.hid HI.out.2.1
       have HSZ := Lib.hid HI.out.2.2.1
       have HBS := Lib.hid HI.out.2.2.2.1
       have HBX := Lib.hid HI.out.2.2.2.2.1
       have HBP := Lib.hid HI.out.2.2.2.2.2.1
       have HEX0 := Lib.hid HI.out.2.2.2.2.2.2.1
       have HEX1 := Lib.hid HI.out.2.2.2.2.2.2.2.1
       have HRO := Lib.hid HI.out.2.2.2.2.2.2.2.2
       clear HI
       rw [HM2.out] at HT1 HRO
       have HROW2 : Hid (RdX rolE wr (.slice ao n2 cap) l2 (fun k => L2 ≤ k)) := HRO.out.rdX (fun k hk _ => hk)
       clear HRO HM2 HSU2 HLE2 HC1
       skip
       generalize ao = ao2 at *
       generalize cap = cp2 at *
       generalize wr = wl2 at *
       obtain ⟨Sc0, Sf0, Sc1, Sf1, Sc2, Sf2, Sc3, Sf3, Sc4, Sf4, Sc5, Sf5⟩ := cf6 HBS.out
       go_upto_region 15 with fail
       clear Sc0 Sf0 Sc1 Sf1 Sc2 Sf2 Sc3 Sf3 Sc4 Sf4 Sc5 Sf5
       obtain ⟨L3, hL3⟩ : ∃ q, wl2.heap.size = q := ⟨_, rfl⟩
       have HE984 : Hid (RdX stmE wl2 (.slice ao0 n0 cp0) l0 (fun k => L0 ≤ k ∧ k < L1 ∧ k < L2 ∧ k < L3)) := HEX0.out.into (Keeps.refl (fun _ => False) _) (fun _ _ _ x => x) (fun q hq hp => by have hp : L0 ≤ q ∧ q < L1 ∧ q < L2 := hp; have := hL3; show L0 ≤ q ∧ q < L1 ∧ q < L2 ∧ q < L3; first | omega | (obtain ⟨hp1, hp2⟩ := hp; refine ⟨hp1, ?_⟩; omega) | (refine ⟨hp, ?_⟩; omega))
       clear HEX0
       have HE985 : Hid (RdX rolE wl2 (.slice ao1 n1 cp1) l1 (fun k => L1 ≤ k ∧ k < L2 ∧ k < L3)) := HEX1.out.into (Keeps.refl (fun _ => False) _) (fun _ _ _ x => x) (fun q hq hp => by have hp : L1 ≤ q ∧ q < L2 := hp; have := hL3; show L1 ≤ q ∧ q < L2 ∧ q < L3; first | omega | (obtain ⟨hp1, hp2⟩ := hp; refine ⟨hp1, ?_⟩; omega) | (refine ⟨hp, ?_⟩; omega))
       clear HEX1
       have HE986 : Hid (RdX rolE wl2 (.slice ao2 n2 cp2) l2 (fun k => L2 ≤ k ∧ k < L3)) := HROW2.out.into (Keeps.refl (fun _ => False) _) (fun _ _ _ x => x) (fun q hq hp => by have hp : L2 ≤ q := hp; have := hL3; show L2 ≤ q ∧ q < L3; first | omega | (obtain ⟨hp1, hp2⟩ := hp; refine ⟨hp1, ?_⟩; omega) | (refine ⟨hp, ?_⟩; omega))
       clear HROW2
       have HN987 : Hid ((((((W.heap.size ≠ b ∧ WA.heap.size ≠ b ∧ WA.heap.size ≠ W.heap.size ∧ W.heap.size ≤ WA.heap.size ∧ b < W.heap.size) ∧ W.heap.size ≤ YB ∧ W.heap.size < YB ∧ WA.heap.size < YB ∧ b < YB) ∧ W.heap.size < L0 ∧ WA.heap.size < L0 ∧ YB < L0 ∧ W.heap.size ≤ L0) ∧ W.heap.size < L1 ∧ WA.heap.size < L1 ∧ YB < L1 ∧ W.heap.size ≤ L1 ∧ L0 ≤ L1) ∧ W.heap.size < L2 ∧ WA.heap.size < L2 ∧ YB < L2 ∧ W.heap.size ≤ L2 ∧ L1 ≤ L2) ∧ W.heap.size < L3 ∧ WA.heap.size < L3 ∧ YB < L3 ∧ W.heap.size ≤ L3 ∧ L2 ≤ L3) := ⟨HN843.out, by
        have hz := HK1.out.size
        have l0 := lt_of_heap HBS.out
        have l1 := lt_of_heap HBX.out
        have l2 := lt_of_heap HBP.out
        have ll := HSZ.out
        refine ⟨?_, ?_, ?_, ?_, ?_⟩ <;> omega⟩
       clear HN843
       have HSL3 : Hid (L3 ≤ wl2.heap.size) := by show _ ≤ _; omega
       clear hL3 HSZ
       go_wp2_with fail
       go_loopg [9] n3 (fun g t wx => ∃ (i : Nat) (ao : Option Addr) (cap : Nat), i ≤ n3 ∧ g = n3 - i ∧ t = .int .i64 i ∧ Hid (StB wx 30 b (manyD (fun x => askD x s) i x3).2 ∧ Keeps (fun q => q = b) W wx ∧ L3 ≤ wx.heap.size ∧ wx.heap[W.heap.size]? = some (.cells #[.int .i64 s.prins, .int .i64 s.links, .int .i64 s.stmts, .int .i64 s.grow, .int .i64 s.shrink, .int .i64 s.asks] 24) ∧ wx.heap[WA.heap.size]? = some (.cells #[.slice none 0 0, .slice none 0 0, .slice none 0 0, .slice none 0 0] 57) ∧ wx.heap[YB]? = some (.cells #[.slice ao0 n0 cp0, .slice ao1 n1 cp1, .slice ao2 n2 cp2, .slice ao i cap] 57) ∧ RdX stmE wx (.slice ao0 n0 cp0) l0 (fun k => L0 ≤ k ∧ k < L1 ∧ k < L2 ∧ k < L3) ∧ RdX rolE wx (.slice ao1 n1 cp1) l1 (fun k => L1 ≤ k ∧ k < L2 ∧ k < L3) ∧ RdX rolE wx (.slice ao2 n2 cp2) l2 (fun k => L2 ≤ k ∧ k < L3) ∧ QRow L3 wx (.slice ao i cap) (manyD (fun x => askD x s) i x3).1))
       case atStart => exact ⟨0, none, 0, Nat.zero_le _, rfl, rfl, HT1.out, HK1.out, HSL3.out, HBS.out, HBX.out, HBP.out, HE984.out, HE985.out, HE986.out, QRow.nil _ _⟩
       case round =>
        obtain ⟨i, ao, cap, hi, rfl, rfl, HI⟩ := hrel
        clear HT1 HK1 HSL3 HBS HBX HBP HE984 HE985 HE986
        by_cases hlt : i < n3
        ·have hiI : (i : Int) < s.asks := by have := HBD.out; omega
         have hi100 : i < 100 := by have := HBD.out; omega
         have HT1 := Lib.hid HI.out.1
         have HK1 := Lib.hid HI.out.2.1
         have HSZ := Lib.hid HI.out.2.2.1
         have HBS := Lib.hid HI.out.2.2.2.1
         have HBX := Lib.hid HI.out.2.2.2.2.1
         have HBP := Lib.hid HI.out.2.2.2.2.2.1
         have HEX0 := Lib.hid HI.out.2.2.2.2.2.2.1
         have HEX1 := Lib.hid HI.out.2.2.2.2.2.2.2.1
         have HEX2 := Lib.hid HI.out.2.2.2.2.2.2.2.2.1
         have HRO := Lib.hid HI.out.2.2.2.2.2.2.2.2.2
         clear HI
         have hwi : IntKind.i64.wrap ((i : Int) + 1) = (i : Int) + 1 := IntWalk.i64_in _ (by omega)
         obtain ⟨y, hy⟩ : ∃ q, (manyD (fun x => askD x s) i x3).2 = q := ⟨_, rfl⟩
         obtain ⟨ol, hol⟩ : ∃ q, (manyD (fun x => askD x s) i x3).1 = q := ⟨_, rfl⟩
         have HNX : Hid ((manyD (fun x => askD x s) (i + 1) x3).1 = ol ++ [(askD y s).1] ∧ (manyD (fun x => askD x s) (i + 1) x3).2 = (askD y s).2 ∧ ol.length = i) := by
          refine ⟨?_, ?_, ?_⟩
          ·rw [(HSU3.out i).1, hol, hy]
          ·rw [(HSU3.out i).2, hy]
          ·rw [← hol]; exact HLE3.out i
         rw [hy] at HT1
         rw [hol] at HRO
         have HCC := Lib.hid (HC3.out y)
         obtain ⟨⟨nn, yq⟩, hnn⟩ : ∃ q, askD y s = q := ⟨_, rfl⟩
         rw [hnn] at HCC HNX
         clear hnn hy hol
         obtain ⟨qk, ⟨qa1, qa2⟩, ⟨qb1, qb2⟩, qw⟩ := nn
         unfold AskTo qryV at HCC
         simp only at HCC
         obtain ⟨lv, d1, d2, d3⟩ := id HRO.out
         have HLV : Hid (lv.length = i) := by show _ = _; rw [d1]; exact HNX.out.2.2
         have HRW : Hid (OwnK qE L3 wr (.slice ao i cap) lv) := d2
         have HDD : Hid (∀ (j : Nat) (q : Qry) (qv : QV), ol[j]? = some q → lv[j]? = some qv → RelQ L3 wr qv q ∧ ∀ k, (whoV qv).ownBlock = some k → (Value.slice ao i cap).ownBlock ≠ some k) := d3
         clear d1 d2 d3 HRO
         obtain ⟨Sc0, Sf0, Sc1, Sf1, Sc2, Sf2, Sc3, Sf3, Sc4, Sf4, Sc5, Sf5⟩ := cf6 HBS.out
         go_upto_region 17 with fail
         clear Sc0 Sf0 Sc1 Sf1 Sc2 Sf2 Sc3 Sf3 Sc4 Sf4 Sc5 Sf5
         have HMK988 : Hid (∀ w' : World, w'.heap[W.heap.size]? = some (.cells #[.int .i64 s.prins, .int .i64 s.links, .int .i64 s.stmts, .int .i64 s.grow, .int .i64 s.shrink, .int .i64 s.asks] 24) → w'.cell? ⟨W.heap.size, 0, none⟩ = some (.int .i64 s.prins) ∧ w'.cell? ⟨W.heap.size, 1, none⟩ = some (.int .i64 s.links) ∧ w'.cell? ⟨W.heap.size, 2, none⟩ = some (.int .i64 s.stmts) ∧ w'.cell? ⟨W.heap.size, 3, none⟩ = some (.int .i64 s.grow) ∧ w'.cell? ⟨W.heap.size, 4, none⟩ = some (.int .i64 s.shrink) ∧ w'.cell? ⟨W.heap.size, 5, none⟩ = some (.int .i64 s.asks) ∧ Hid (w'.heap[W.heap.size]? = some (.cells #[.int .i64 s.prins, .int .i64 s.links, .int .i64 s.stmts, .int .i64 s.grow, .int .i64 s.shrink, .int .i64 s.asks] 24))) := fun w' h0 => ⟨(by rw [cell_of_heap h0]; rfl), (by rw [cell_of_heap h0]; rfl), (by rw [cell_of_heap h0]; rfl), (by rw [cell_of_heap h0]; rfl), (by rw [cell_of_heap h0]; rfl), (by rw [cell_of_heap h0]; rfl), Lib.hid h0⟩
         have hkd : Keeps (fun _ => False) wr wr.drew := (Keeps.refl _ _).drew
         have HS989 := Lib.hid (((hkd).block _ (lt_of_heap HBS.out) (fun x => x)).trans HBS.out)
         have HX990 := Lib.hid (((hkd).block _ (lt_of_heap HBX.out) (fun x => x)).trans HBX.out)
         have HY991 := Lib.hid (((hkd).block _ (lt_of_heap HBP.out) (fun x => x)).trans HBP.out)
         have HE992 := Lib.hid (RdX.keeps HEX0.out (hkd) (fun _ _ _ x => x))
         have HE993 := Lib.hid (RdX.keeps HEX1.out (hkd) (fun _ _ _ x => x))
         have HE994 := Lib.hid (RdX.keeps HEX2.out (hkd) (fun _ _ _ x => x))
         have HE995 : Hid (∀ (j : Nat) (q : Qry) (qv : QV), ol[j]? = some q → lv[j]? = some qv → RelQ L3 wr.drew qv q ∧ ∀ k, (whoV qv).ownBlock = some k → (Value.slice ao i cap).ownBlock ≠ some k) := fun j q qv hj hv => ⟨(HDD.out j q qv hj hv).1.keeps (hkd) (fun _ _ _ x => x), (HDD.out j q qv hj hv).2⟩
         have HE996 := Lib.hid (OwnK.keeps HRW.out (hkd) (fun _ _ x => x))
         have HE997 := Lib.hid (Nat.le_trans HSZ.out (hkd).size)
         have HS998 := Lib.hid (HT1.out.keeps hkd (fun x => x))
         have HK999 := Lib.hid (HK1.out.drew)
         have hS0 := HMK988.out wr.drew HS989.out
         clear hkd HBS HBX HBP HEX0 HEX1 HEX2 HDD HRW HSZ HT1 HK1
         refine wp_region_noPanic ?_
         refine wp_region_held_drew (S := (fun w' => w'.cell? ⟨W.heap.size, 0, none⟩ = some (.int .i64 s.prins) ∧ w'.cell? ⟨W.heap.size, 1, none⟩ = some (.int .i64 s.links) ∧ w'.cell? ⟨W.heap.size, 2, none⟩ = some (.int .i64 s.stmts) ∧ w'.cell? ⟨W.heap.size, 3, none⟩ = some (.int .i64 s.grow) ∧ w'.cell? ⟨W.heap.size, 4, none⟩ = some (.int .i64 s.shrink) ∧ w'.cell? ⟨W.heap.size, 5, none⟩ = some (.int .i64 s.asks) ∧ Hid (w'.heap[W.heap.size]? = some (.cells #[.int .i64 s.prins, .int .i64 s.links, .int .i64 s.stmts, .int .i64 s.grow, .int .i64 s.shrink, .int .i64 s.asks] 24)))) (by kernel_rfl) hS0 (fun hHeld => ?_)
         clear hS0
         generalize wr.drew = w1000 at *
         refine wpAnyH_take_at (i := 0) (v := ?v0_1001) rfl (by kernel_rfl) (by kernel_rfl) (by kernel_rfl) (fun _ _ _ h => h) (Or.inl ⟨by rfl, ?y0_1001⟩) hHeld ?r0_1001
         case y0_1001 => (intro w hSw; (try dsimp only at hSw); go_simp; first | done | with_reducible rfl)
         (try simp only [Act.put, nm1, nm2, nm3])
         refine wpAnyH_take_at (i := 2) (v := ?v2_1002) rfl (by kernel_rfl) (by kernel_rfl) (by kernel_rfl) (fun _ _ _ h => h) (Or.inl ⟨by rfl, ?y2_1002⟩) hHeld ?r2_1002
         case y2_1002 => (intro w hSw; (try dsimp only at hSw); go_simp; first | done | with_reducible rfl)
         (try simp only [Act.put, nm1, nm2, nm3])
         refine wpAnyH_take_at (i := 3) (v := ?v3_1003) rfl (by kernel_rfl) (by kernel_rfl) (by kernel_rfl) (fun _ _ _ h => h) (Or.inl ⟨by rfl, ?y3_1003⟩) hHeld ?r3_1003
         case y3_1003 => (intro w hSw; (try dsimp only at hSw); go_simp; first | done | with_reducible rfl)
         (try simp only [Act.put, nm1, nm2, nm3])
         refine wpAnyH_two (i := 1) (j := 4) (by kernel_rfl) rfl rfl (fun KK hK => ?p1_1004) (fun KK hK => ?p4_1004)
         case p1_1004 =>
          obtain ⟨Yc0, Yf0, Yc1, Yf1, Yc2, Yf2, Yc3, Yf3⟩ := cf4 HY991.out
          go_simp
          refine hK.out _ _ ?s_1005 (fun hHeld => ?_)
          case s_1005 => exact HMK988.out _ HS989.out
          clear hK KK
          (try simp only [Act.put, nm1, nm2, nm3])
          clear Yc0 Yf0 Yc1 Yf1 Yc2 Yf2 Yc3 Yf3
          refine wpAnyH_one (i := 4) (by kernel_rfl) rfl (fun KK hK => ?_)
          go_simp
          refine (HCC.out _ HS998.out).mono ?_
          rintro e w1006 ⟨cv, rfl, hk⟩
          obtain ⟨co, cc, hcv, hzz⟩ := id hk.out.2.2.1
          clear hzz
          subst hcv
          have HCV : Hid (RowAt L3 w1006 (.slice co qw.length cc) qw ∧ ∀ k, (Value.slice co qw.length cc).ownBlock = some k → (Value.slice ao i cap).ownBlock ≠ some k) := ⟨⟨hk.out.2.2.1, fun k hk2 => ⟨Nat.le_trans HE997.out (hk.out.2.2.2 k hk2).1, (hk.out.2.2.2 k hk2).2⟩⟩, fun k hk2 e => by have e1 := own_lt HE996.out k e; have e2 := (hk.out.2.2.2 k hk2).1; omega⟩
          have HS1007 := Lib.hid (((hk.out.2.1).block _ (lt_of_heap HS989.out) (by have := HN987.out; show ¬ _ = _; omega)).trans HS989.out)
          have HX1008 := Lib.hid (((hk.out.2.1).block _ (lt_of_heap HX990.out) (by have := HN987.out; show ¬ _ = _; omega)).trans HX990.out)
          have HY1009 := Lib.hid (((hk.out.2.1).block _ (lt_of_heap HY991.out) (by have := HN987.out; show ¬ _ = _; omega)).trans HY991.out)
          have HE1010 := Lib.hid (RdX.keeps HE992.out (hk.out.2.1) (fun q hq hp e => by have hp : L0 ≤ q ∧ q < L1 ∧ q < L2 ∧ q < L3 := hp; have e : q = _ := e; have := HN987.out; omega))
          have HE1011 := Lib.hid (RdX.keeps HE993.out (hk.out.2.1) (fun q hq hp e => by have hp : L1 ≤ q ∧ q < L2 ∧ q < L3 := hp; have e : q = _ := e; have := HN987.out; omega))
          have HE1012 := Lib.hid (RdX.keeps HE994.out (hk.out.2.1) (fun q hq hp e => by have hp : L2 ≤ q ∧ q < L3 := hp; have e : q = _ := e; have := HN987.out; omega))
          have HE1013 : Hid (∀ (j : Nat) (q : Qry) (qv : QV), ol[j]? = some q → lv[j]? = some qv → RelQ L3 w1006 qv q ∧ ∀ k, (whoV qv).ownBlock = some k → (Value.slice ao i cap).ownBlock ≠ some k) := fun j q qv hj hv => ⟨(HE995.out j q qv hj hv).1.keeps (hk.out.2.1) (fun q hq _ e => by have e : q = _ := e; have := HN987.out; omega), (HE995.out j q qv hj hv).2⟩
          have HE1014 := Lib.hid (OwnK.keeps HE996.out (hk.out.2.1) (fun q hq e => by have e : q = _ := e; have := HN987.out; omega))
          have HE1015 := Lib.hid (Nat.le_trans HE997.out (hk.out.2.1).size)
          have HS1016 := Lib.hid (hk.out.1)
          have HK1017 := Lib.hid (HK999.out.trans hk.out.2.1)
          clear hk HCC HS989 HX990 HY991 HE992 HE993 HE994 HE995 HE996 HE997 HS998 HK999
          go_simp
          refine hK.out _ _ ?s_1018 (fun hHeld => ?_)
          case s_1018 => exact HMK988.out _ HS1007.out
          clear hK KK
          (try simp only [Act.put, nm1, nm2, nm3])
          refine wpAnyH_one (i := 5) (by kernel_rfl) rfl (fun KK hK => ?_)
          have hkE : Keeps (fun _ => False) w1006 (w1006.alloc (.cells #[.int .i64 qk, .string ⟨qa1.toArray⟩, .string ⟨qa2.toArray⟩, .string ⟨qb1.toArray⟩, .string ⟨qb2.toArray⟩, .slice co qw.length cc] 49)) := (Keeps.refl _ _).alloc _
          have HSR : Hid (RdK qE (w1006.alloc (.cells #[.int .i64 qk, .string ⟨qa1.toArray⟩, .string ⟨qa2.toArray⟩, .string ⟨qb1.toArray⟩, .string ⟨qb2.toArray⟩, .slice co qw.length cc] 49)) (.slice (some ⟨w1006.heap.size, 0, none⟩) 1 1) [(qk, (qa1, qa2), (qb1, qb2), co, qw.length, cc)]) := (one_srcK qE w1006 (qk, (qa1, qa2), (qb1, qb2), co, qw.length, cc) #[.int .i64 qk, .string ⟨qa1.toArray⟩, .string ⟨qa2.toArray⟩, .string ⟨qb1.toArray⟩, .string ⟨qb2.toArray⟩, .slice co qw.length cc] rfl).1
          have HS1019 := Lib.hid (((hkE).block _ (lt_of_heap HS1007.out) (fun x => x)).trans HS1007.out)
          have HX1020 := Lib.hid (((hkE).block _ (lt_of_heap HX1008.out) (fun x => x)).trans HX1008.out)
          have HY1021 := Lib.hid (((hkE).block _ (lt_of_heap HY1009.out) (fun x => x)).trans HY1009.out)
          have HE1022 := Lib.hid (RdX.keeps HE1010.out (hkE) (fun _ _ _ x => x))
          have HE1023 := Lib.hid (RdX.keeps HE1011.out (hkE) (fun _ _ _ x => x))
          have HE1024 := Lib.hid (RdX.keeps HE1012.out (hkE) (fun _ _ _ x => x))
          have HE1025 : Hid (∀ (j : Nat) (q : Qry) (qv : QV), ol[j]? = some q → lv[j]? = some qv → RelQ L3 (w1006.alloc (.cells #[.int .i64 qk, .string ⟨qa1.toArray⟩, .string ⟨qa2.toArray⟩, .string ⟨qb1.toArray⟩, .string ⟨qb2.toArray⟩, .slice co qw.length cc] 49)) qv q ∧ ∀ k, (whoV qv).ownBlock = some k → (Value.slice ao i cap).ownBlock ≠ some k) := fun j q qv hj hv => ⟨(HE1013.out j q qv hj hv).1.keeps (hkE) (fun _ _ _ x => x), (HE1013.out j q qv hj hv).2⟩
          have HE1026 := Lib.hid (OwnK.keeps HE1014.out (hkE) (fun _ _ x => x))
          have HE1027 := Lib.hid (Nat.le_trans HE1015.out (hkE).size)
          have HE1028 : Hid (RowAt L3 (w1006.alloc (.cells #[.int .i64 qk, .string ⟨qa1.toArray⟩, .string ⟨qa2.toArray⟩, .string ⟨qb1.toArray⟩, .string ⟨qb2.toArray⟩, .slice co qw.length cc] 49)) (.slice co qw.length cc) qw ∧ ∀ k, (Value.slice co qw.length cc).ownBlock = some k → (Value.slice ao i cap).ownBlock ≠ some k) := ⟨RowAt.keeps HCV.out.1 (hkE) (fun _ _ _ x => x), HCV.out.2⟩
          have HS1029 := Lib.hid (HS1016.out.keeps hkE (fun x => x))
          have HK1030 := Lib.hid (HK1017.out.trans (hkE.mono (fun _ _ x => x.elim)))
          go_simp
          refine hK.out _ _ ?s_1031 (fun hHeld => ?_)
          case s_1031 => exact HMK988.out _ HS1019.out
          clear hK KK
          (try simp only [Act.put, nm1, nm2, nm3])
          clear hkE HS1007 HX1008 HY1009 HE1010 HE1011 HE1012 HE1013 HE1014 HE1015 HCV HS1016 HK1017
          generalize (w1006.alloc (.cells #[.int .i64 qk, .string ⟨qa1.toArray⟩, .string ⟨qa2.toArray⟩, .string ⟨qb1.toArray⟩, .string ⟨qb2.toArray⟩, .slice co qw.length cc] 49)) = w1032 at *
          refine wpAnyH_one (i := 6) (by kernel_rfl) rfl (fun KK hK => ?_)
          refine step_app_fp (E := qE) rfl (.tmp 59) (.tmp 63) rfl L3 (.slice ao i cap) lv (by simp [Act.eval, Act.put] <;> rfl) HE1026.out _ [(qk, (qa1, qa2), (qb1, qb2), co, qw.length, cc)] (by simp [Act.eval, Act.put] <;> rfl) HSR.out (by simp) (by have := HLV.out; simp; omega) HE1027.out ?_
          intro ao' cap' w1033 ho hk hf
          have hln : (lv ++ [(qk, (qa1, qa2), (qb1, qb2), co, qw.length, cc)]).length = i + 1 := by rw [List.length_append, HLV.out]; rfl
          rw [hln] at ho hf ⊢
          have kG : Keeps (fun q => L3 ≤ q) w1032 w1033 := hk.mono (fun q _ e => own_block HE1026.out q e)
          have HRN : Hid (QRow L3 w1033 (.slice ao' (i + 1) cap') (ol ++ [(qk, (qa1, qa2), (qb1, qb2), qw)])) := QRow.snoc (by rw [HLV.out, HNX.out.2.2]) HE1026.out HE1025.out (qv := (qk, (qa1, qa2), (qb1, qb2), co, qw.length, cc)) ⟨rfl, rfl, rfl, HE1028.out.1⟩ HE1028.out.2 ho hk hf
          have HS1034 := Lib.hid (((kG).block _ (lt_of_heap HS1019.out) (by have := HN987.out; show ¬ _ ≤ _; omega)).trans HS1019.out)
          have HX1035 := Lib.hid (((kG).block _ (lt_of_heap HX1020.out) (by have := HN987.out; show ¬ _ ≤ _; omega)).trans HX1020.out)
          have HY1036 := Lib.hid (((kG).block _ (lt_of_heap HY1021.out) (by have := HN987.out; show ¬ _ ≤ _; omega)).trans HY1021.out)
          have HE1037 := Lib.hid (RdX.keeps HE1022.out (kG) (fun q hq hp e => by have hp : L0 ≤ q ∧ q < L1 ∧ q < L2 ∧ q < L3 := hp; have e : L3 ≤ q := e; have := HN987.out; omega))
          have HE1038 := Lib.hid (RdX.keeps HE1023.out (kG) (fun q hq hp e => by have hp : L1 ≤ q ∧ q < L2 ∧ q < L3 := hp; have e : L3 ≤ q := e; have := HN987.out; omega))
          have HE1039 := Lib.hid (RdX.keeps HE1024.out (kG) (fun q hq hp e => by have hp : L2 ≤ q ∧ q < L3 := hp; have e : L3 ≤ q := e; have := HN987.out; omega))
          have HE1040 := Lib.hid (Nat.le_trans HE1027.out (kG).size)
          have HS1041 := Lib.hid (HS1029.out.keeps kG (by have := HN987.out; show ¬ _ ≤ _; omega))
          have HK1042 := Lib.hid (HK1030.out.trans_new kG (fun q hq e => by have := HN987.out; omega))
          refine hK.out _ _ ?s_1043 (fun hHeld => ?_)
          case s_1043 => exact HMK988.out _ HS1034.out
          clear hK KK
          (try simp only [Act.put, nm1, nm2, nm3])
          clear kG ho hk hf hln HS1019 HX1020 HY1021 HE1022 HE1023 HE1024 HE1027 HE1025 HE1026 HE1028 HSR HS1029 HK1030
          refine wpAnyH_one (i := 7) (by kernel_rfl) rfl (fun KK hK => ?_)
          go_simp
          refine hK.out _ _ ?s_1044 (fun hHeld => ?_)
          case s_1044 => exact HMK988.out _ HS1034.out
          clear hK KK
          (try simp only [Act.put, nm1, nm2, nm3])
          refine wpAnyH_one (i := 8) (by kernel_rfl) rfl (fun KK hK => ?_)
          obtain ⟨Yc0, Yf0, Yc1, Yf1, Yc2, Yf2, Yc3, Yf3⟩ := cf4 HY1036.out
          have hs0 : (w1033.setCell ⟨YB, 3, none⟩ (.slice ao' (i + 1) cap')).heap[YB]? = some (.cells #[.slice ao0 n0 cp0, .slice ao1 n1 cp1, .slice ao2 n2 cp2, .slice ao' (i + 1) cap'] 57) := heap_set HY1036.out 3 (.slice ao' (i + 1) cap')
          have hkE : Keeps (fun q => q = YB) w1033 (w1033.setCell ⟨YB, 3, none⟩ (.slice ao' (i + 1) cap')) := Keeps.setCell (S := fun q => q = YB) (Keeps.refl _ _) (p := ⟨YB, 3, none⟩) (fun _ => rfl) _
          have HY1045 := Lib.hid hs0
          have HS1046 := Lib.hid (((hkE).block _ (lt_of_heap HS1034.out) (by have := HN987.out; show ¬ _ = _; omega)).trans HS1034.out)
          have HX1047 := Lib.hid (((hkE).block _ (lt_of_heap HX1035.out) (by have := HN987.out; show ¬ _ = _; omega)).trans HX1035.out)
          have HE1048 := Lib.hid (RdX.keeps HE1037.out (hkE) (fun q hq hp e => by have hp : L0 ≤ q ∧ q < L1 ∧ q < L2 ∧ q < L3 := hp; have e : q = _ := e; have := HN987.out; omega))
          have HE1049 := Lib.hid (RdX.keeps HE1038.out (hkE) (fun q hq hp e => by have hp : L1 ≤ q ∧ q < L2 ∧ q < L3 := hp; have e : q = _ := e; have := HN987.out; omega))
          have HE1050 := Lib.hid (RdX.keeps HE1039.out (hkE) (fun q hq hp e => by have hp : L2 ≤ q ∧ q < L3 := hp; have e : q = _ := e; have := HN987.out; omega))
          have HE1051 := Lib.hid (Nat.le_trans HE1040.out (hkE).size)
          have HE1052 := Lib.hid (QRow.keeps HRN.out (hkE) (fun q hq _ e => by have e : q = _ := e; have := HN987.out; omega))
          have HS1053 := Lib.hid (HS1041.out.keeps hkE (by have := HN987.out; show ¬ _ = _; omega))
          have HK1054 := Lib.hid (HK1042.out.trans_new hkE (fun q hq e => by have := HN987.out; omega))
          go_simp
          refine hK.out _ _ ?s_1055 (fun hHeld => ?_)
          case s_1055 => exact HMK988.out _ HS1046.out
          clear hK KK
          (try simp only [Act.put, nm1, nm2, nm3])
          clear hkE hs0  HY1036 HS1034 HX1035 HE1037 HE1038 HE1039 HE1040 HRN HS1041 HK1042
          clear Yc0 Yf0 Yc1 Yf1 Yc2 Yf2 Yc3 Yf3
          generalize (w1033.setCell ⟨YB, 3, none⟩ (.slice ao' (i + 1) cap')) = w1056 at *
          refine wpAnyH_done (by kernel_rfl) ?_ _
          refine NoPanic.normal ?_
          clear hHeld HMK988
          have HN2 : Hid (StB w1056 30 b (manyD (fun x => askD x s) (i + 1) x3).2 ∧ Keeps (fun q => q = b) W w1056 ∧ L3 ≤ w1056.heap.size ∧ w1056.heap[W.heap.size]? = some (.cells #[.int .i64 s.prins, .int .i64 s.links, .int .i64 s.stmts, .int .i64 s.grow, .int .i64 s.shrink, .int .i64 s.asks] 24) ∧ w1056.heap[WA.heap.size]? = some (.cells #[.slice none 0 0, .slice none 0 0, .slice none 0 0, .slice none 0 0] 57) ∧ w1056.heap[YB]? = some (.cells #[.slice ao0 n0 cp0, .slice ao1 n1 cp1, .slice ao2 n2 cp2, .slice ao' (i + 1) cap'] 57) ∧ RdX stmE w1056 (.slice ao0 n0 cp0) l0 (fun k => L0 ≤ k ∧ k < L1 ∧ k < L2 ∧ k < L3) ∧ RdX rolE w1056 (.slice ao1 n1 cp1) l1 (fun k => L1 ≤ k ∧ k < L2 ∧ k < L3) ∧ RdX rolE w1056 (.slice ao2 n2 cp2) l2 (fun k => L2 ≤ k ∧ k < L3) ∧ QRow L3 w1056 (.slice ao' (i + 1) cap') (manyD (fun x => askD x s) (i + 1) x3).1) := by rw [HNX.out.1, HNX.out.2.1]; exact ⟨HS1053.out, HK1054.out, HE1051.out, HS1046.out, HX1047.out, HY1045.out, HE1048.out, HE1049.out, HE1050.out, HE1052.out⟩
          clear HS1053 HK1054 HE1051 HE1052 HS1046 HX1047 HY1045 HE1048 HE1049 HE1050
          go_wp2_with fail
          go_roundg (n3 - (i + 1))
          case measure => omega
          case rel => exact ⟨i + 1, ao', cap', by omega, rfl, by go_num, HN2⟩
         case p4_1004 =>
          go_simp
          refine (HCC.out _ HS998.out).mono ?_
          rintro e w1057 ⟨cv, rfl, hk⟩
          obtain ⟨co, cc, hcv, hzz⟩ := id hk.out.2.2.1
          clear hzz
          subst hcv
          have HCV : Hid (RowAt L3 w1057 (.slice co qw.length cc) qw ∧ ∀ k, (Value.slice co qw.length cc).ownBlock = some k → (Value.slice ao i cap).ownBlock ≠ some k) := ⟨⟨hk.out.2.2.1, fun k hk2 => ⟨Nat.le_trans HE997.out (hk.out.2.2.2 k hk2).1, (hk.out.2.2.2 k hk2).2⟩⟩, fun k hk2 e => by have e1 := own_lt HE996.out k e; have e2 := (hk.out.2.2.2 k hk2).1; omega⟩
          have HS1058 := Lib.hid (((hk.out.2.1).block _ (lt_of_heap HS989.out) (by have := HN987.out; show ¬ _ = _; omega)).trans HS989.out)
          have HX1059 := Lib.hid (((hk.out.2.1).block _ (lt_of_heap HX990.out) (by have := HN987.out; show ¬ _ = _; omega)).trans HX990.out)
          have HY1060 := Lib.hid (((hk.out.2.1).block _ (lt_of_heap HY991.out) (by have := HN987.out; show ¬ _ = _; omega)).trans HY991.out)
          have HE1061 := Lib.hid (RdX.keeps HE992.out (hk.out.2.1) (fun q hq hp e => by have hp : L0 ≤ q ∧ q < L1 ∧ q < L2 ∧ q < L3 := hp; have e : q = _ := e; have := HN987.out; omega))
          have HE1062 := Lib.hid (RdX.keeps HE993.out (hk.out.2.1) (fun q hq hp e => by have hp : L1 ≤ q ∧ q < L2 ∧ q < L3 := hp; have e : q = _ := e; have := HN987.out; omega))
          have HE1063 := Lib.hid (RdX.keeps HE994.out (hk.out.2.1) (fun q hq hp e => by have hp : L2 ≤ q ∧ q < L3 := hp; have e : q = _ := e; have := HN987.out; omega))
          have HE1064 : Hid (∀ (j : Nat) (q : Qry) (qv : QV), ol[j]? = some q → lv[j]? = some qv → RelQ L3 w1057 qv q ∧ ∀ k, (whoV qv).ownBlock = some k → (Value.slice ao i cap).ownBlock ≠ some k) := fun j q qv hj hv => ⟨(HE995.out j q qv hj hv).1.keeps (hk.out.2.1) (fun q hq _ e => by have e : q = _ := e; have := HN987.out; omega), (HE995.out j q qv hj hv).2⟩
          have HE1065 := Lib.hid (OwnK.keeps HE996.out (hk.out.2.1) (fun q hq e => by have e : q = _ := e; have := HN987.out; omega))
          have HE1066 := Lib.hid (Nat.le_trans HE997.out (hk.out.2.1).size)
          have HS1067 := Lib.hid (hk.out.1)
          have HK1068 := Lib.hid (HK999.out.trans hk.out.2.1)
          clear hk HCC HS989 HX990 HY991 HE992 HE993 HE994 HE995 HE996 HE997 HS998 HK999
          go_simp
          refine hK.out _ _ ?s_1069 (fun hHeld => ?_)
          case s_1069 => exact HMK988.out _ HS1058.out
          clear hK KK
          (try simp only [Act.put, nm1, nm2, nm3])
          refine wpAnyH_two (i := 1) (j := 5) (by kernel_rfl) rfl rfl (fun KK hK => ?p1_1070) (fun KK hK => ?p5_1070)
          case p1_1070 =>
           obtain ⟨Yc0, Yf0, Yc1, Yf1, Yc2, Yf2, Yc3, Yf3⟩ := cf4 HY1060.out
           go_simp
           refine hK.out _ _ ?s_1071 (fun hHeld => ?_)
           case s_1071 => exact HMK988.out _ HS1058.out
           clear hK KK
           (try simp only [Act.put, nm1, nm2, nm3])
           clear Yc0 Yf0 Yc1 Yf1 Yc2 Yf2 Yc3 Yf3
           refine wpAnyH_one (i := 5) (by kernel_rfl) rfl (fun KK hK => ?_)
           have hkE : Keeps (fun _ => False) w1057 (w1057.alloc (.cells #[.int .i64 qk, .string ⟨qa1.toArray⟩, .string ⟨qa2.toArray⟩, .string ⟨qb1.toArray⟩, .string ⟨qb2.toArray⟩, .slice co qw.length cc] 49)) := (Keeps.refl _ _).alloc _
           have HSR : Hid (RdK qE (w1057.alloc (.cells #[.int .i64 qk, .string ⟨qa1.toArray⟩, .string ⟨qa2.toArray⟩, .string ⟨qb1.toArray⟩, .string ⟨qb2.toArray⟩, .slice co qw.length cc] 49)) (.slice (some ⟨w1057.heap.size, 0, none⟩) 1 1) [(qk, (qa1, qa2), (qb1, qb2), co, qw.length, cc)]) := (one_srcK qE w1057 (qk, (qa1, qa2), (qb1, qb2), co, qw.length, cc) #[.int .i64 qk, .string ⟨qa1.toArray⟩, .string ⟨qa2.toArray⟩, .string ⟨qb1.toArray⟩, .string ⟨qb2.toArray⟩, .slice co qw.length cc] rfl).1
           have HS1072 := Lib.hid (((hkE).block _ (lt_of_heap HS1058.out) (fun x => x)).trans HS1058.out)
           have HX1073 := Lib.hid (((hkE).block _ (lt_of_heap HX1059.out) (fun x => x)).trans HX1059.out)
           have HY1074 := Lib.hid (((hkE).block _ (lt_of_heap HY1060.out) (fun x => x)).trans HY1060.out)
           have HE1075 := Lib.hid (RdX.keeps HE1061.out (hkE) (fun _ _ _ x => x))
           have HE1076 := Lib.hid (RdX.keeps HE1062.out (hkE) (fun _ _ _ x => x))
           have HE1077 := Lib.hid (RdX.keeps HE1063.out (hkE) (fun _ _ _ x => x))
           have HE1078 : Hid (∀ (j : Nat) (q : Qry) (qv : QV), ol[j]? = some q → lv[j]? = some qv → RelQ L3 (w1057.alloc (.cells #[.int .i64 qk, .string ⟨qa1.toArray⟩, .string ⟨qa2.toArray⟩, .string ⟨qb1.toArray⟩, .string ⟨qb2.toArray⟩, .slice co qw.length cc] 49)) qv q ∧ ∀ k, (whoV qv).ownBlock = some k → (Value.slice ao i cap).ownBlock ≠ some k) := fun j q qv hj hv => ⟨(HE1064.out j q qv hj hv).1.keeps (hkE) (fun _ _ _ x => x), (HE1064.out j q qv hj hv).2⟩
           have HE1079 := Lib.hid (OwnK.keeps HE1065.out (hkE) (fun _ _ x => x))
           have HE1080 := Lib.hid (Nat.le_trans HE1066.out (hkE).size)
           have HE1081 : Hid (RowAt L3 (w1057.alloc (.cells #[.int .i64 qk, .string ⟨qa1.toArray⟩, .string ⟨qa2.toArray⟩, .string ⟨qb1.toArray⟩, .string ⟨qb2.toArray⟩, .slice co qw.length cc] 49)) (.slice co qw.length cc) qw ∧ ∀ k, (Value.slice co qw.length cc).ownBlock = some k → (Value.slice ao i cap).ownBlock ≠ some k) := ⟨RowAt.keeps HCV.out.1 (hkE) (fun _ _ _ x => x), HCV.out.2⟩
           have HS1082 := Lib.hid (HS1067.out.keeps hkE (fun x => x))
           have HK1083 := Lib.hid (HK1068.out.trans (hkE.mono (fun _ _ x => x.elim)))
           go_simp
           refine hK.out _ _ ?s_1084 (fun hHeld => ?_)
           case s_1084 => exact HMK988.out _ HS1072.out
           clear hK KK
           (try simp only [Act.put, nm1, nm2, nm3])
           clear hkE HS1058 HX1059 HY1060 HE1061 HE1062 HE1063 HE1064 HE1065 HE1066 HCV HS1067 HK1068
           generalize (w1057.alloc (.cells #[.int .i64 qk, .string ⟨qa1.toArray⟩, .string ⟨qa2.toArray⟩, .string ⟨qb1.toArray⟩, .string ⟨qb2.toArray⟩, .slice co qw.length cc] 49)) = w1085 at *
           refine wpAnyH_one (i := 6) (by kernel_rfl) rfl (fun KK hK => ?_)
           refine step_app_fp (E := qE) rfl (.tmp 59) (.tmp 63) rfl L3 (.slice ao i cap) lv (by simp [Act.eval, Act.put] <;> rfl) HE1079.out _ [(qk, (qa1, qa2), (qb1, qb2), co, qw.length, cc)] (by simp [Act.eval, Act.put] <;> rfl) HSR.out (by simp) (by have := HLV.out; simp; omega) HE1080.out ?_
           intro ao' cap' w1086 ho hk hf
           have hln : (lv ++ [(qk, (qa1, qa2), (qb1, qb2), co, qw.length, cc)]).length = i + 1 := by rw [List.length_append, HLV.out]; rfl
           rw [hln] at ho hf ⊢
           have kG : Keeps (fun q => L3 ≤ q) w1085 w1086 := hk.mono (fun q _ e => own_block HE1079.out q e)
           have HRN : Hid (QRow L3 w1086 (.slice ao' (i + 1) cap') (ol ++ [(qk, (qa1, qa2), (qb1, qb2), qw)])) := QRow.snoc (by rw [HLV.out, HNX.out.2.2]) HE1079.out HE1078.out (qv := (qk, (qa1, qa2), (qb1, qb2), co, qw.length, cc)) ⟨rfl, rfl, rfl, HE1081.out.1⟩ HE1081.out.2 ho hk hf
           have HS1087 := Lib.hid (((kG).block _ (lt_of_heap HS1072.out) (by have := HN987.out; show ¬ _ ≤ _; omega)).trans HS1072.out)
           have HX1088 := Lib.hid (((kG).block _ (lt_of_heap HX1073.out) (by have := HN987.out; show ¬ _ ≤ _; omega)).trans HX1073.out)
           have HY1089 := Lib.hid (((kG).block _ (lt_of_heap HY1074.out) (by have := HN987.out; show ¬ _ ≤ _; omega)).trans HY1074.out)
           have HE1090 := Lib.hid (RdX.keeps HE1075.out (kG) (fun q hq hp e => by have hp : L0 ≤ q ∧ q < L1 ∧ q < L2 ∧ q < L3 := hp; have e : L3 ≤ q := e; have := HN987.out; omega))
           have HE1091 := Lib.hid (RdX.keeps HE1076.out (kG) (fun q hq hp e => by have hp : L1 ≤ q ∧ q < L2 ∧ q < L3 := hp; have e : L3 ≤ q := e; have := HN987.out; omega))
           have HE1092 := Lib.hid (RdX.keeps HE1077.out (kG) (fun q hq hp e => by have hp : L2 ≤ q ∧ q < L3 := hp; have e : L3 ≤ q := e; have := HN987.out; omega))
           have HE1093 := Lib.hid (Nat.le_trans HE1080.out (kG).size)
           have HS1094 := Lib.hid (HS1082.out.keeps kG (by have := HN987.out; show ¬ _ ≤ _; omega))
           have HK1095 := Lib.hid (HK1083.out.trans_new kG (fun q hq e => by have := HN987.out; omega))
           refine hK.out _ _ ?s_1096 (fun hHeld => ?_)
           case s_1096 => exact HMK988.out _ HS1087.out
           clear hK KK
           (try simp only [Act.put, nm1, nm2, nm3])
           clear kG ho hk hf hln HS1072 HX1073 HY1074 HE1075 HE1076 HE1077 HE1080 HE1078 HE1079 HE1081 HSR HS1082 HK1083
           refine wpAnyH_one (i := 7) (by kernel_rfl) rfl (fun KK hK => ?_)
           go_simp
           refine hK.out _ _ ?s_1097 (fun hHeld => ?_)
           case s_1097 => exact HMK988.out _ HS1087.out
           clear hK KK
           (try simp only [Act.put, nm1, nm2, nm3])
           refine wpAnyH_one (i := 8) (by kernel_rfl) rfl (fun KK hK => ?_)
           obtain ⟨Yc0, Yf0, Yc1, Yf1, Yc2, Yf2, Yc3, Yf3⟩ := cf4 HY1089.out
           have hs0 : (w1086.setCell ⟨YB, 3, none⟩ (.slice ao' (i + 1) cap')).heap[YB]? = some (.cells #[.slice ao0 n0 cp0, .slice ao1 n1 cp1, .slice ao2 n2 cp2, .slice ao' (i + 1) cap'] 57) := heap_set HY1089.out 3 (.slice ao' (i + 1) cap')
           have hkE : Keeps (fun q => q = YB) w1086 (w1086.setCell ⟨YB, 3, none⟩ (.slice ao' (i + 1) cap')) := Keeps.setCell (S := fun q => q = YB) (Keeps.refl _ _) (p := ⟨YB, 3, none⟩) (fun _ => rfl) _
           have HY1098 := Lib.hid hs0
           have HS1099 := Lib.hid (((hkE).block _ (lt_of_heap HS1087.out) (by have := HN987.out; show ¬ _ = _; omega)).trans HS1087.out)
           have HX1100 := Lib.hid (((hkE).block _ (lt_of_heap HX1088.out) (by have := HN987.out; show ¬ _ = _; omega)).trans HX1088.out)
           have HE1101 := Lib.hid (RdX.keeps HE1090.out (hkE) (fun q hq hp e => by have hp : L0 ≤ q ∧ q < L1 ∧ q < L2 ∧ q < L3 := hp; have e : q = _ := e; have := HN987.out; omega))
           have HE1102 := Lib.hid (RdX.keeps HE1091.out (hkE) (fun q hq hp e => by have hp : L1 ≤ q ∧ q < L2 ∧ q < L3 := hp; have e : q = _ := e; have := HN987.out; omega))
           have HE1103 := Lib.hid (RdX.keeps HE1092.out (hkE) (fun q hq hp e => by have hp : L2 ≤ q ∧ q < L3 := hp; have e : q = _ := e; have := HN987.out; omega))
           have HE1104 := Lib.hid (Nat.le_trans HE1093.out (hkE).size)
           have HE1105 := Lib.hid (QRow.keeps HRN.out (hkE) (fun q hq _ e => by have e : q = _ := e; have := HN987.out; omega))
           have HS1106 := Lib.hid (HS1094.out.keeps hkE (by have := HN987.out; show ¬ _ = _; omega))
           have HK1107 := Lib.hid (HK1095.out.trans_new hkE (fun q hq e => by have := HN987.out; omega))
           go_simp
           refine hK.out _ _ ?s_1108 (fun hHeld => ?_)
           case s_1108 => exact HMK988.out _ HS1099.out
           clear hK KK
           (try simp only [Act.put, nm1, nm2, nm3])
           clear hkE hs0  HY1089 HS1087 HX1088 HE1090 HE1091 HE1092 HE1093 HRN HS1094 HK1095
           clear Yc0 Yf0 Yc1 Yf1 Yc2 Yf2 Yc3 Yf3
           generalize (w1086.setCell ⟨YB, 3, none⟩ (.slice ao' (i + 1) cap')) = w1109 at *
           refine wpAnyH_done (by kernel_rfl) ?_ _
           refine NoPanic.normal ?_
           clear hHeld HMK988
           have HN2 : Hid (StB w1109 30 b (manyD (fun x => askD x s) (i + 1) x3).2 ∧ Keeps (fun q => q = b) W w1109 ∧ L3 ≤ w1109.heap.size ∧ w1109.heap[W.heap.size]? = some (.cells #[.int .i64 s.prins, .int .i64 s.links, .int .i64 s.stmts, .int .i64 s.grow, .int .i64 s.shrink, .int .i64 s.asks] 24) ∧ w1109.heap[WA.heap.size]? = some (.cells #[.slice none 0 0, .slice none 0 0, .slice none 0 0, .slice none 0 0] 57) ∧ w1109.heap[YB]? = some (.cells #[.slice ao0 n0 cp0, .slice ao1 n1 cp1, .slice ao2 n2 cp2, .slice ao' (i + 1) cap'] 57) ∧ RdX stmE w1109 (.slice ao0 n0 cp0) l0 (fun k => L0 ≤ k ∧ k < L1 ∧ k < L2 ∧ k < L3) ∧ RdX rolE w1109 (.slice ao1 n1 cp1) l1 (fun k => L1 ≤ k ∧ k < L2 ∧ k < L3) ∧ RdX rolE w1109 (.slice ao2 n2 cp2) l2 (fun k => L2 ≤ k ∧ k < L3) ∧ QRow L3 w1109 (.slice ao' (i + 1) cap') (manyD (fun x => askD x s) (i + 1) x3).1) := by rw [HNX.out.1, HNX.out.2.1]; exact ⟨HS1106.out, HK1107.out, HE1104.out, HS1099.out, HX1100.out, HY1098.out, HE1101.out, HE1102.out, HE1103.out, HE1105.out⟩
           clear HS1106 HK1107 HE1104 HE1105 HS1099 HX1100 HY1098 HE1101 HE1102 HE1103
           go_wp2_with fail
           go_roundg (n3 - (i + 1))
           case measure => omega
           case rel => exact ⟨i + 1, ao', cap', by omega, rfl, by go_num, HN2⟩
          case p5_1070 =>
           have hkE : Keeps (fun _ => False) w1057 (w1057.alloc (.cells #[.int .i64 qk, .string ⟨qa1.toArray⟩, .string ⟨qa2.toArray⟩, .string ⟨qb1.toArray⟩, .string ⟨qb2.toArray⟩, .slice co qw.length cc] 49)) := (Keeps.refl _ _).alloc _
           have HSR : Hid (RdK qE (w1057.alloc (.cells #[.int .i64 qk, .string ⟨qa1.toArray⟩, .string ⟨qa2.toArray⟩, .string ⟨qb1.toArray⟩, .string ⟨qb2.toArray⟩, .slice co qw.length cc] 49)) (.slice (some ⟨w1057.heap.size, 0, none⟩) 1 1) [(qk, (qa1, qa2), (qb1, qb2), co, qw.length, cc)]) := (one_srcK qE w1057 (qk, (qa1, qa2), (qb1, qb2), co, qw.length, cc) #[.int .i64 qk, .string ⟨qa1.toArray⟩, .string ⟨qa2.toArray⟩, .string ⟨qb1.toArray⟩, .string ⟨qb2.toArray⟩, .slice co qw.length cc] rfl).1
           have HS1110 := Lib.hid (((hkE).block _ (lt_of_heap HS1058.out) (fun x => x)).trans HS1058.out)
           have HX1111 := Lib.hid (((hkE).block _ (lt_of_heap HX1059.out) (fun x => x)).trans HX1059.out)
           have HY1112 := Lib.hid (((hkE).block _ (lt_of_heap HY1060.out) (fun x => x)).trans HY1060.out)
           have HE1113 := Lib.hid (RdX.keeps HE1061.out (hkE) (fun _ _ _ x => x))
           have HE1114 := Lib.hid (RdX.keeps HE1062.out (hkE) (fun _ _ _ x => x))
           have HE1115 := Lib.hid (RdX.keeps HE1063.out (hkE) (fun _ _ _ x => x))
           have HE1116 : Hid (∀ (j : Nat) (q : Qry) (qv : QV), ol[j]? = some q → lv[j]? = some qv → RelQ L3 (w1057.alloc (.cells #[.int .i64 qk, .string ⟨qa1.toArray⟩, .string ⟨qa2.toArray⟩, .string ⟨qb1.toArray⟩, .string ⟨qb2.toArray⟩, .slice co qw.length cc] 49)) qv q ∧ ∀ k, (whoV qv).ownBlock = some k → (Value.slice ao i cap).ownBlock ≠ some k) := fun j q qv hj hv => ⟨(HE1064.out j q qv hj hv).1.keeps (hkE) (fun _ _ _ x => x), (HE1064.out j q qv hj hv).2⟩
           have HE1117 := Lib.hid (OwnK.keeps HE1065.out (hkE) (fun _ _ x => x))
           have HE1118 := Lib.hid (Nat.le_trans HE1066.out (hkE).size)
           have HE1119 : Hid (RowAt L3 (w1057.alloc (.cells #[.int .i64 qk, .string ⟨qa1.toArray⟩, .string ⟨qa2.toArray⟩, .string ⟨qb1.toArray⟩, .string ⟨qb2.toArray⟩, .slice co qw.length cc] 49)) (.slice co qw.length cc) qw ∧ ∀ k, (Value.slice co qw.length cc).ownBlock = some k → (Value.slice ao i cap).ownBlock ≠ some k) := ⟨RowAt.keeps HCV.out.1 (hkE) (fun _ _ _ x => x), HCV.out.2⟩
           have HS1120 := Lib.hid (HS1067.out.keeps hkE (fun x => x))
           have HK1121 := Lib.hid (HK1068.out.trans (hkE.mono (fun _ _ x => x.elim)))
           go_simp
           refine hK.out _ _ ?s_1122 (fun hHeld => ?_)
           case s_1122 => exact HMK988.out _ HS1110.out
           clear hK KK
           (try simp only [Act.put, nm1, nm2, nm3])
           clear hkE HS1058 HX1059 HY1060 HE1061 HE1062 HE1063 HE1064 HE1065 HE1066 HCV HS1067 HK1068
           generalize (w1057.alloc (.cells #[.int .i64 qk, .string ⟨qa1.toArray⟩, .string ⟨qa2.toArray⟩, .string ⟨qb1.toArray⟩, .string ⟨qb2.toArray⟩, .slice co qw.length cc] 49)) = w1123 at *
           refine wpAnyH_one (i := 1) (by kernel_rfl) rfl (fun KK hK => ?_)
           obtain ⟨Yc0, Yf0, Yc1, Yf1, Yc2, Yf2, Yc3, Yf3⟩ := cf4 HY1112.out
           go_simp
           refine hK.out _ _ ?s_1124 (fun hHeld => ?_)
           case s_1124 => exact HMK988.out _ HS1110.out
           clear hK KK
           (try simp only [Act.put, nm1, nm2, nm3])
           clear Yc0 Yf0 Yc1 Yf1 Yc2 Yf2 Yc3 Yf3
           refine wpAnyH_one (i := 6) (by kernel_rfl) rfl (fun KK hK => ?_)
           refine step_app_fp (E := qE) rfl (.tmp 59) (.tmp 63) rfl L3 (.slice ao i cap) lv (by simp [Act.eval, Act.put] <;> rfl) HE1117.out _ [(qk, (qa1, qa2), (qb1, qb2), co, qw.length, cc)] (by simp [Act.eval, Act.put] <;> rfl) HSR.out (by simp) (by have := HLV.out; simp; omega) HE1118.out ?_
           intro ao' cap' w1125 ho hk hf
           have hln : (lv ++ [(qk, (qa1, qa2), (qb1, qb2), co, qw.length, cc)]).length = i + 1 := by rw [List.length_append, HLV.out]; rfl
           rw [hln] at ho hf ⊢
           have kG : Keeps (fun q => L3 ≤ q) w1123 w1125 := hk.mono (fun q _ e => own_block HE1117.out q e)
           have HRN : Hid (QRow L3 w1125 (.slice ao' (i + 1) cap') (ol ++ [(qk, (qa1, qa2), (qb1, qb2), qw)])) := QRow.snoc (by rw [HLV.out, HNX.out.2.2]) HE1117.out HE1116.out (qv := (qk, (qa1, qa2), (qb1, qb2), co, qw.length, cc)) ⟨rfl, rfl, rfl, HE1119.out.1⟩ HE1119.out.2 ho hk hf
           have HS1126 := Lib.hid (((kG).block _ (lt_of_heap HS1110.out) (by have := HN987.out; show ¬ _ ≤ _; omega)).trans HS1110.out)
           have HX1127 := Lib.hid (((kG).block _ (lt_of_heap HX1111.out) (by have := HN987.out; show ¬ _ ≤ _; omega)).trans HX1111.out)
           have HY1128 := Lib.hid (((kG).block _ (lt_of_heap HY1112.out) (by have := HN987.out; show ¬ _ ≤ _; omega)).trans HY1112.out)
           have HE1129 := Lib.hid (RdX.keeps HE1113.out (kG) (fun q hq hp e => by have hp : L0 ≤ q ∧ q < L1 ∧ q < L2 ∧ q < L3 := hp; have e : L3 ≤ q := e; have := HN987.out; omega))
           have HE1130 := Lib.hid (RdX.keeps HE1114.out (kG) (fun q hq hp e => by have hp : L1 ≤ q ∧ q < L2 ∧ q < L3 := hp; have e : L3 ≤ q := e; have := HN987.out; omega))
           have HE1131 := Lib.hid (RdX.keeps HE1115.out (kG) (fun q hq hp e => by have hp : L2 ≤ q ∧ q < L3 := hp; have e : L3 ≤ q := e; have := HN987.out; omega))
           have HE1132 := Lib.hid (Nat.le_trans HE1118.out (kG).size)
           have HS1133 := Lib.hid (HS1120.out.keeps kG (by have := HN987.out; show ¬ _ ≤ _; omega))
           have HK1134 := Lib.hid (HK1121.out.trans_new kG (fun q hq e => by have := HN987.out; omega))
           refine hK.out _ _ ?s_1135 (fun hHeld => ?_)
           case s_1135 => exact HMK988.out _ HS1126.out
           clear hK KK
           (try simp only [Act.put, nm1, nm2, nm3])
           clear kG ho hk hf hln HS1110 HX1111 HY1112 HE1113 HE1114 HE1115 HE1118 HE1116 HE1117 HE1119 HSR HS1120 HK1121
           refine wpAnyH_one (i := 7) (by kernel_rfl) rfl (fun KK hK => ?_)
           go_simp
           refine hK.out _ _ ?s_1136 (fun hHeld => ?_)
           case s_1136 => exact HMK988.out _ HS1126.out
           clear hK KK
           (try simp only [Act.put, nm1, nm2, nm3])
           refine wpAnyH_one (i := 8) (by kernel_rfl) rfl (fun KK hK => ?_)
           obtain ⟨Yc0, Yf0, Yc1, Yf1, Yc2, Yf2, Yc3, Yf3⟩ := cf4 HY1128.out
           have hs0 : (w1125.setCell ⟨YB, 3, none⟩ (.slice ao' (i + 1) cap')).heap[YB]? = some (.cells #[.slice ao0 n0 cp0, .slice ao1 n1 cp1, .slice ao2 n2 cp2, .slice ao' (i + 1) cap'] 57) := heap_set HY1128.out 3 (.slice ao' (i + 1) cap')
           have hkE : Keeps (fun q => q = YB) w1125 (w1125.setCell ⟨YB, 3, none⟩ (.slice ao' (i + 1) cap')) := Keeps.setCell (S := fun q => q = YB) (Keeps.refl _ _) (p := ⟨YB, 3, none⟩) (fun _ => rfl) _
           have HY1137 := Lib.hid hs0
           have HS1138 := Lib.hid (((hkE).block _ (lt_of_heap HS1126.out) (by have := HN987.out; show ¬ _ = _; omega)).trans HS1126.out)
           have HX1139 := Lib.hid (((hkE).block _ (lt_of_heap HX1127.out) (by have := HN987.out; show ¬ _ = _; omega)).trans HX1127.out)
           have HE1140 := Lib.hid (RdX.keeps HE1129.out (hkE) (fun q hq hp e => by have hp : L0 ≤ q ∧ q < L1 ∧ q < L2 ∧ q < L3 := hp; have e : q = _ := e; have := HN987.out; omega))
           have HE1141 := Lib.hid (RdX.keeps HE1130.out (hkE) (fun q hq hp e => by have hp : L1 ≤ q ∧ q < L2 ∧ q < L3 := hp; have e : q = _ := e; have := HN987.out; omega))
           have HE1142 := Lib.hid (RdX.keeps HE1131.out (hkE) (fun q hq hp e => by have hp : L2 ≤ q ∧ q < L3 := hp; have e : q = _ := e; have := HN987.out; omega))
           have HE1143 := Lib.hid (Nat.le_trans HE1132.out (hkE).size)
           have HE1144 := Lib.hid (QRow.keeps HRN.out (hkE) (fun q hq _ e => by have e : q = _ := e; have := HN987.out; omega))
           have HS1145 := Lib.hid (HS1133.out.keeps hkE (by have := HN987.out; show ¬ _ = _; omega))
           have HK1146 := Lib.hid (HK1134.out.trans_new hkE (fun q hq e => by have := HN987.out; omega))
           go_simp
           refine hK.out _ _ ?s_1147 (fun hHeld => ?_)
           case s_1147 => exact HMK988.out _ HS1138.out
           clear hK KK
           (try simp only [Act.put, nm1, nm2, nm3])
           clear hkE hs0  HY1128 HS1126 HX1127 HE1129 HE1130 HE1131 HE1132 HRN HS1133 HK1134
           clear Yc0 Yf0 Yc1 Yf1 Yc2 Yf2 Yc3 Yf3
           generalize (w1125.setCell ⟨YB, 3, none⟩ (.slice ao' (i + 1) cap')) = w1148 at *
           refine wpAnyH_done (by kernel_rfl) ?_ _
           refine NoPanic.normal ?_
           clear hHeld HMK988
           have HN2 : Hid (StB w1148 30 b (manyD (fun x => askD x s) (i + 1) x3).2 ∧ Keeps (fun q => q = b) W w1148 ∧ L3 ≤ w1148.heap.size ∧ w1148.heap[W.heap.size]? = some (.cells #[.int .i64 s.prins, .int .i64 s.links, .int .i64 s.stmts, .int .i64 s.grow, .int .i64 s.shrink, .int .i64 s.asks] 24) ∧ w1148.heap[WA.heap.size]? = some (.cells #[.slice none 0 0, .slice none 0 0, .slice none 0 0, .slice none 0 0] 57) ∧ w1148.heap[YB]? = some (.cells #[.slice ao0 n0 cp0, .slice ao1 n1 cp1, .slice ao2 n2 cp2, .slice ao' (i + 1) cap'] 57) ∧ RdX stmE w1148 (.slice ao0 n0 cp0) l0 (fun k => L0 ≤ k ∧ k < L1 ∧ k < L2 ∧ k < L3) ∧ RdX rolE w1148 (.slice ao1 n1 cp1) l1 (fun k => L1 ≤ k ∧ k < L2 ∧ k < L3) ∧ RdX rolE w1148 (.slice ao2 n2 cp2) l2 (fun k => L2 ≤ k ∧ k < L3) ∧ QRow L3 w1148 (.slice ao' (i + 1) cap') (manyD (fun x => askD x s) (i + 1) x3).1) := by rw [HNX.out.1, HNX.out.2.1]; exact ⟨HS1145.out, HK1146.out, HE1143.out, HS1138.out, HX1139.out, HY1137.out, HE1140.out, HE1141.out, HE1142.out, HE1144.out⟩
           clear HS1145 HK1146 HE1143 HE1144 HS1138 HX1139 HY1137 HE1140 HE1141 HE1142
           go_wp2_with fail
           go_roundg (n3 - (i + 1))
           case measure => omega
           case rel => exact ⟨i + 1, ao', cap', by omega, rfl, by go_num, HN2⟩
        ·obtain rfl : n3 = i := by omega
         have hiI : ¬ (n3 : Int) < s.asks := by have := HBD.out; omega
         have HT1 := Lib.hid HI.out.1
         have HK1 := Lib.hid HI.out.2.1
         have HSZ := Lib.hid HI.out.2.2.1
         have HBS := Lib.hid HI.out.2.2.2.1
         have HBX := Lib.hid HI.out.2.2.2.2.1
         have HBP := Lib.hid HI.out.2.2.2.2.2.1
         have HEX0 := Lib.hid HI.out.2.2.2.2.2.2.1
         have HEX1 := Lib.hid HI.out.2.2.2.2.2.2.2.1
         have HEX2 := Lib.hid HI.out.2.2.2.2.2.2.2.2.1
         have HRO := Lib.hid HI.out.2.2.2.2.2.2.2.2.2
         clear HI
         rw [HM3.out] at HT1 HRO
         have HROW3 : Hid (QRX wr (.slice ao n3 cap) l3 (fun k => L3 ≤ k)) := HRO.out.rdX (fun k hk _ => hk)
         clear HRO HM3 HSU3 HLE3 HC3
         skip
         generalize ao = ao3 at *
         generalize cap = cp3 at *
         generalize wr = wl3 at *
         obtain ⟨Sc0, Sf0, Sc1, Sf1, Sc2, Sf2, Sc3, Sf3, Sc4, Sf4, Sc5, Sf5⟩ := cf6 HBS.out
         obtain ⟨Xc0, Xf0, Xc1, Xf1, Xc2, Xf2, Xc3, Xf3⟩ := cf4 HBX.out
         obtain ⟨Yc0, Yf0, Yc1, Yf1, Yc2, Yf2, Yc3, Yf3⟩ := cf4 HBP.out
         have HNC := Lib.hid (HNRM.out L0 wl3 (.slice ao0 n0 cp0) (.slice ao1 n1 cp1) (.slice ao2 n2 cp2) (.slice ao3 n3 cp3) ⟨HEX0.out.into (Keeps.refl (fun _ => False) _) (fun _ _ _ x => x) (fun q hq hp => by have hp : L0 ≤ q ∧ q < L1 ∧ q < L2 ∧ q < L3 := hp; have := HN987.out; show _ ≤ _; omega), HEX1.out.into (Keeps.refl (fun _ => False) _) (fun _ _ _ x => x) (fun q hq hp => by have hp : L1 ≤ q ∧ q < L2 ∧ q < L3 := hp; have := HN987.out; show _ ≤ _; omega), HEX2.out.into (Keeps.refl (fun _ => False) _) (fun _ _ _ x => x) (fun q hq hp => by have hp : L2 ≤ q ∧ q < L3 := hp; have := HN987.out; show _ ≤ _; omega), HROW3.out.into (Keeps.refl (fun _ => False) _) (fun _ _ _ x => x) (fun q hq hp => by have hp : L3 ≤ q := hp; have := HN987.out; show _ ≤ _; omega)⟩ (by have := HSZ.out; have := HN987.out; omega))
         clear HNRM HEX0 HEX1 HEX2 HROW3
         go_wp2_with fail
         refine HNC.out.mono ?_
         rintro e wz ⟨u0, u1, u2, u3, rfl, hk⟩
         have HS1149 := Lib.hid (((hk.out.1).block _ (lt_of_heap HBS.out) (fun x => x)).trans HBS.out)
         have HX1150 := Lib.hid (((hk.out.1).block _ (lt_of_heap HBX.out) (fun x => x)).trans HBX.out)
         have HY1151 := Lib.hid (((hk.out.1).block _ (lt_of_heap HBP.out) (fun x => x)).trans HBP.out)
         have HSz := Lib.hid (HT1.out.keeps hk.out.1 (fun x => x))
         have HKz := Lib.hid (HK1.out.trans (hk.out.1.mono (fun _ _ x => x.elim)))
         obtain ⟨p0, p1, p2, p3⟩ := hk.out.2
         obtain ⟨uo0, uc0, hu0, hz0⟩ := id p0.1.1
         obtain ⟨uo1, uc1, hu1, hz1⟩ := id p1.1.1
         obtain ⟨uo2, uc2, hu2, hz2⟩ := id p2.1.1
         obtain ⟨lv3, d1, d2, d3⟩ := id p3
         obtain ⟨uo3, uc3, hu3, hz3⟩ := id d2.1.1
         clear hz0 hz1 hz2 hz3 d1 d2 d3
         obtain ⟨k0, hk0⟩ : ∃ n, np.1.length = n := ⟨_, rfl⟩
         obtain ⟨k1, hk1⟩ : ∃ n, np.2.1.length = n := ⟨_, rfl⟩
         obtain ⟨k2, hk2⟩ : ∃ n, np.2.2.1.length = n := ⟨_, rfl⟩
         obtain ⟨k3, hk3⟩ : ∃ n, lv3.length = n := ⟨_, rfl⟩
         rw [hk0] at hu0
         rw [hk1] at hu1
         rw [hk2] at hu2
         rw [hk3] at hu3
         subst hu0 hu1 hu2 hu3
         have HPX : Hid (PolX wz (.slice uo0 k0 uc0) (.slice uo1 k1 uc1) (.slice uo2 k2 uc2) (.slice uo3 k3 uc3) np (fun k => L0 ≤ k)) := hk.out.2
         clear p0 p1 p2 p3 hk0 hk1 hk2 hk3
         clear Sc0 Sf0 Sc1 Sf1 Sc2 Sf2 Sc3 Sf3 Sc4 Sf4 Sc5 Sf5 Xc0 Xf0 Xc1 Xf1 Xc2 Xf2 Xc3 Xf3 Yc0 Yf0 Yc1 Yf1 Yc2 Yf2 Yc3 Yf3
         clear HSZ
         clear hk HNC HBS HBX HBP HT1 HK1
         obtain ⟨Sc0, Sf0, Sc1, Sf1, Sc2, Sf2, Sc3, Sf3, Sc4, Sf4, Sc5, Sf5⟩ := cf6 HS1149.out
         obtain ⟨Xc0, Xf0, Xc1, Xf1, Xc2, Xf2, Xc3, Xf3⟩ := cf4 HX1150.out
         obtain ⟨Yc0, Yf0, Yc1, Yf1, Yc2, Yf2, Yc3, Yf3⟩ := cf4 HY1151.out
         obtain ⟨hs0, hkE⟩ := sx4 HX1150.out (.slice uo0 k0 uc0) (.slice uo1 k1 uc1) (.slice uo2 k2 uc2) (.slice uo3 k3 uc3)
         have HX1152 := Lib.hid hs0
         have HS1153 := Lib.hid (((hkE).block _ (lt_of_heap HS1149.out) (by have := HN987.out; show ¬ _ = _; omega)).trans HS1149.out)
         have HY1154 := Lib.hid (((hkE).block _ (lt_of_heap HY1151.out) (by have := HN987.out; show ¬ _ = _; omega)).trans HY1151.out)
         have HE1155 := Lib.hid (PolX.into HPX.out (hkE) (fun q hq hp e => by have hp : L0 ≤ q := hp; have e : q = _ := e; have := HN987.out; omega) (fun _ _ p => p))
         have HS1156 := Lib.hid (HSz.out.keeps hkE (by have := HN987.out; show ¬ _ = _; omega))
         have HK1157 := Lib.hid (HKz.out.trans_new hkE (fun q hq e => by have := HN987.out; omega))
         clear hkE hs0 HX1150 HS1149 HY1151 HPX HSz HKz
         go_wp2_with fail
         clear Sc0 Sf0 Sc1 Sf1 Sc2 Sf2 Sc3 Sf3 Sc4 Sf4 Sc5 Sf5 Xc0 Xf0 Xc1 Xf1 Xc2 Xf2 Xc3 Xf3 Yc0 Yf0 Yc1 Yf1 Yc2 Yf2 Yc3 Yf3
         generalize ((((wz.setCell ⟨WA.heap.size, 0, none⟩ (.slice uo0 k0 uc0)).setCell ⟨WA.heap.size, 1, none⟩ (.slice uo1 k1 uc1)).setCell ⟨WA.heap.size, 2, none⟩ (.slice uo2 k2 uc2)).setCell ⟨WA.heap.size, 3, none⟩ (.slice uo3 k3 uc3)) = WE at *
         obtain ⟨Xc0, Xf0, Xc1, Xf1, Xc2, Xf2, Xc3, Xf3⟩ := cf4 HX1152.out
         refine bodyPost_ret (v := .agg #[.slice uo0 k0 uc0, .slice uo1 k1 uc1, .slice uo2 k2 uc2, .slice uo3 k3 uc3]) (by simp [results, Tryz.results18, go_sem, *]) rfl ?_
         exact ⟨_, _, _, _, rfl, HS1156.out, HK1157.out, HE1155.out.into (Keeps.refl (fun _ => False) _) (fun _ _ _ x => x) (fun q hq hp => by have hp : L0 ≤ q := hp; have := HN987.out; show _ ≤ _; omega)⟩
end Go.Proofs.YtcdfpnlaklaafaaGreat
