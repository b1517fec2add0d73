/-
 The states that are enough for a query, or why there are none: the program's.
-/
import Derived.Test.YtckikkkdabpjkaaGreatKitSq
import Derived.Test.YtckikkkdabpjkaaGreatMU
import Derived.Test.YtckikkkdabpjkaaGreatMT
import Derived.Test.YtckikkkdabpjkaaGreatMG
set_option linter.unusedVariables false
set_option linter.unusedSimpArgs false
set_option linter.unnecessarySimpa false
namespace Go.Proofs.YtckikkkdabpjkaaGreat
open Go.ChangeShapes Go.WideShapes Go.ChangeAt Go.RowKit Go.Deep

theorem set10 {w : World} {b : Nat} {T : TypeId} {t0 u0 t1 u1 t2 u2 t3 u3 t4 u4 t5 u5 t6 u6 t7 u7 t8 u8 t9 u9 : Value} (h : w.heap[b]? = some (.cells #[t0, t1, t2, t3, t4, t5, t6, t7, t8, t9] T)) : (((((((((((w.setCell ⟨b, 0, none⟩ (u0)).setCell ⟨b, 1, none⟩ (u1)).setCell ⟨b, 2, none⟩ (u2)).setCell ⟨b, 3, none⟩ (u3)).setCell ⟨b, 4, none⟩ (u4)).setCell ⟨b, 5, none⟩ (u5)).setCell ⟨b, 6, none⟩ (u6)).setCell ⟨b, 7, none⟩ (u7)).setCell ⟨b, 8, none⟩ (u8)).setCell ⟨b, 9, none⟩ (u9))).heap[b]? = some (.cells #[u0, u1, u2, u3, u4, u5, u6, u7, u8, u9] T) ∧ Keeps (fun q => q = b) w (((((((((((w.setCell ⟨b, 0, none⟩ (u0)).setCell ⟨b, 1, none⟩ (u1)).setCell ⟨b, 2, none⟩ (u2)).setCell ⟨b, 3, none⟩ (u3)).setCell ⟨b, 4, none⟩ (u4)).setCell ⟨b, 5, none⟩ (u5)).setCell ⟨b, 6, none⟩ (u6)).setCell ⟨b, 7, none⟩ (u7)).setCell ⟨b, 8, none⟩ (u8)).setCell ⟨b, 9, none⟩ (u9))) := by
 have k : ∀ (w : World) (i : Nat) (u : Value), Keeps (fun q => q = b) w (w.setCell ⟨b, i, none⟩ u) := fun w i u => Keeps.setCell (S := fun q => q = b) (Keeps.refl _ _) (p := ⟨b, i, none⟩) (fun _ => rfl) _
 have h0 := heap_set h 0 u0
 simp only [List.setIfInBounds_toArray, List.set_cons_zero, List.set_cons_succ] at h0
 have h1 := heap_set h0 1 u1
 simp only [List.setIfInBounds_toArray, List.set_cons_zero, List.set_cons_succ] at h1
 have h2 := heap_set h1 2 u2
 simp only [List.setIfInBounds_toArray, List.set_cons_zero, List.set_cons_succ] at h2
 have h3 := heap_set h2 3 u3
 simp only [List.setIfInBounds_toArray, List.set_cons_zero, List.set_cons_succ] at h3
 have h4 := heap_set h3 4 u4
 simp only [List.setIfInBounds_toArray, List.set_cons_zero, List.set_cons_succ] at h4
 have h5 := heap_set h4 5 u5
 simp only [List.setIfInBounds_toArray, List.set_cons_zero, List.set_cons_succ] at h5
 have h6 := heap_set h5 6 u6
 simp only [List.setIfInBounds_toArray, List.set_cons_zero, List.set_cons_succ] at h6
 have h7 := heap_set h6 7 u7
 simp only [List.setIfInBounds_toArray, List.set_cons_zero, List.set_cons_succ] at h7
 have h8 := heap_set h7 8 u8
 simp only [List.setIfInBounds_toArray, List.set_cons_zero, List.set_cons_succ] at h8
 have h9 := heap_set h8 9 u9
 simp only [List.setIfInBounds_toArray, List.set_cons_zero, List.set_cons_succ] at h9
 exact ⟨h9, ((((((((((k w 0 u0).trans (k _ 1 u1)).trans (k _ 2 u2)).trans (k _ 3 u3)).trans (k _ 4 u4)).trans (k _ 5 u5)).trans (k _ 6 u6)).trans (k _ 7 u7)).trans (k _ 8 u8)).trans (k _ 9 u9))⟩
theorem freshN_small (lk : Bool) (n : Nat) : 0 ≤ freshN lk n ∧ freshN lk n ≤ 16 := by
 unfold freshN
 cases lk with
 | false => simp
 | true =>
  simp only [if_true]
  by_cases h : 4 < n
  ·rw [if_pos h]; decide
  ·rw [if_neg h]
   match n, h with
   | 0, _ => decide
   | 1, _ => decide
   | 2, _ => decide
   | 3, _ => decide
   | 4, _ => decide
   | n + 5, h => exact absurd (by omega) h
theorem tab_twice (l : List Str) : tabL (tabL l) = tabL l := tab_eq (tab_rises _) (fun x => Iff.rfl)
/-- What a universe of a policy and a query is, in memory. -/
structure UniAt (lo : Nat) (W : World) (rv lv pv fv ov gv : Value) (lk : Bool) (qv bv av : Value) (p : Pol) (q : Qry) (R : List Rol) (Lk : List Str) : Prop where
 V : ViewAt lo W rv lv pv fv ov gv lk p q R Lk
 n0 : uN p q R Lk ≠ 0
 f61 : (uFr p q R Lk).length ≤ 61
 b61 : (uB p q R Lk).length ≤ 61
 P : OwnK strE lo W qv (uP p q R Lk)
 B : OwnK stmE lo W bv (uB p q R Lk)
 A : RdX stmE W av (uBase p.1 R Lk) (fun k => lo ≤ k)
theorem ViewAt.stay {lo bf : Nat} {W0 W W' : World} {rv lv pv fv ov gv : Value} {lk : Bool} {p : Pol} {q : Qry} {R : List Rol} {Lk : List Str} (h : ViewAt lo W0 rv lv pv fv ov gv lk p q R Lk) (hb : W0.heap.size ≤ bf) (h0 : KF W0 W) (hk : Keeps (fun q => bf ≤ q) W W') : ViewAt lo W' rv lv pv fv ov gv lk p q R Lk := by
 have z := h.keeps h0 (fun _ _ z => z)
 exact ⟨z.way, z.shut, ownsRow_keeps' z.rR hk (fun k hk2 e => by have := own_lt h.rR k hk2; omega), ownsRow_keeps' z.rL hk (fun k hk2 e => by have := own_lt h.rL k hk2; omega), ownsRow_keeps' z.rP hk (fun k hk2 e => by have := own_lt h.rP k hk2; omega), ownsRow_keeps' z.rF hk (fun k hk2 e => by have := own_lt h.rF k hk2; omega), ownsRow_keeps' z.rO hk (fun k hk2 e => by have := own_lt h.rO k hk2; omega), ownsRow_keeps' z.rG hk (fun k hk2 e => by have := own_lt h.rG k hk2; omega), z.lk⟩
theorem own_off {α : Type} {E : Elt α} {base b : Nat} {W W' : World} {v : Value} {l : List α} {c : Array Value} {T : TypeId} {f : Nat × Nat} (h : OwnK E base W v l) (hb : W.heap[b]? = some (.cells c T f)) (hT : T ≠ E.T) (hk : Keeps (fun q => q = b) W W') : OwnK E base W' v l :=
 ownsRow_keeps' h hk (fun k hk2 e => by have e : k = b := e; rw [e] at hk2; exact own_ne h hb hT hk2)
theorem ViewAt.off {lo b : Nat} {W W' : World} {rv lv pv fv ov gv : Value} {lk : Bool} {p : Pol} {q : Qry} {R : List Rol} {Lk : List Str} (h : ViewAt lo W rv lv pv fv ov gv lk p q R Lk) {c : Array Value} {T : TypeId} {f : Nat × Nat} (hb : W.heap[b]? = some (.cells c T f)) (t1 : T ≠ 28) (t2 : T ≠ 9) (t3 : T ≠ 38) (hk : Keeps (fun q => q = b) W W') : ViewAt lo W' rv lv pv fv ov gv lk p q R Lk :=
 ⟨h.way, h.shut, own_off h.rR hb t1 hk, own_off h.rL hb t2 hk, own_off h.rP hb t2 hk, own_off h.rF hb t3 hk, own_off h.rO hb t3 hk, own_off h.rG hb t1 hk, h.lk⟩
theorem uFree_len (g R : List Rol) (P L : List Str) : (uRoles R P L).length ≤ R.length + P.length * L.length := Nat.le_trans (sortO_len2 rolLt _) (uRows_len R P L)
theorem uMin_len (a b : List Stm) : (uMin a b).length ≤ a.length := Nat.le_trans (sortO_len2 stmLt _) (List.length_filter_le _ _)
/-- Why there are none. -/
def UWhy (c : Int) (p : Pol) (q : Qry) : Prop := (c = 6 ∧ askB p q = false) ∨ (askB p q = true ∧ ∃ R Lk, OnWay p.2.1 p.2.2.1 p.1 q.2.1 q.2.2.1 R Lk ∧ Shut2 p.2.1 p.2.2.1 p.1 R Lk ∧ ((c = 8 ∧ uN p q R Lk = 0) ∨ (c = 5 ∧ uN p q R Lk ≠ 0 ∧ (61 < (uFr p q R Lk).length ∨ 61 < (uB p q R Lk).length))))
/-- What a call of Of answers. -/
def UOfTo (W : World) (p : Pol) (q : Qry) (e : Ending) (W' : World) : Prop := KF W W' ∧
 ((∃ c : Int, c ≠ 0 ∧ e = .returned (.tuple #[.agg #[.slice none 0 0, .slice none 0 0, .slice none 0 0, .slice none 0 0, .slice none 0 0, .slice none 0 0, .bool false, .slice none 0 0, .slice none 0 0, .slice none 0 0], .int .i64 c]) ∧ UWhy c p q) ∨
 (askB p q = true ∧ ∃ rv lv pv fv ov gv lk qv bv av R Lk, e = .returned (.tuple #[.agg #[rv, lv, pv, fv, ov, gv, .bool lk, qv, bv, av], .int .i64 0]) ∧ UniAt W.heap.size W' rv lv pv fv ov gv lk qv bv av p q R Lk))
set_option maxRecDepth 100000
set_option maxHeartbeats 6400000
theorem ucl1_spec {W : World} {vb : Nat} {ro lo po fo oo go : Option Addr} {rn rc ln lc pn pc fn' fc on' oc gn gc : Nat} {lk : Bool} (hv : W.heap[vb]? = some (.cells #[.slice ro rn rc, .slice lo ln lc, .slice po pn pc, .slice fo fn' fc, .slice oo on' oc, .slice go gn gc, .bool lk] 52)) {R : List Rol} {Lk : List Str} (hR : RdK rolE W (.slice ro rn rc) R) (hL : ReadsS W (.slice lo ln lc) Lk) (h1 : R.length ≤ 100000) (h2 : Lk.length ≤ 100000) (y : Stm) :
 Calls Tryz.prog 71 #[stmV y, .pointer (some ⟨vb, 0, none⟩)] W fun e W' => e = .returned (.bool (hasV R Lk y.1)) ∧ Hid (KF W W') := by
 obtain ⟨d, hd⟩ : ∃ d, hasV R Lk y.1 = d := ⟨_, rfl⟩
 rw [hd]
 obtain ⟨⟨yh1, yh2⟩, yk, yo, ⟨ya1, ya2⟩, ⟨yb1, yb2⟩, yi⟩ := y
 simp only at hd
 obtain ⟨WA, hWA⟩ : ∃ q, W.alloc (bM yk yh1 yh2 yo ya1 ya2 yb1 yb2 yi) = q := ⟨_, rfl⟩
 have hal := (MapKept.heap_alloc W (bM yk yh1 yh2 yo ya1 ya2 yb1 yb2 yi)).1
 have HKWA : Hid (KF W WA) := by rw [← hWA]; exact (Keeps.refl _ _).alloc _
 rw [hWA] at hal
 obtain ⟨yb, hyb⟩ : ∃ q, W.heap.size = q := ⟨_, rfl⟩
 have HByb := Lib.hid hyb
 rw [hyb] at hal
 have HAWA := Lib.hid hal
 clear hal
 have HC := Lib.hid (vhas_spec (po := po) (fo := fo) (oo := oo) (so := go) (pn := pn) (pc := pc) (fn := fn') (fc := fc) (on := on') (oc := oc) (sn := gn) (sc := gc) (lk := lk) (hR.keeps HKWA.out) (hL.keeps HKWA.out) h1 h2 (yh1, yh2))
 rw [hd] at HC
 have hv1 := (HKWA.out.block _ (lt_of_heap hv) (fun x => x)).trans hv
 obtain ⟨p0, f0, p1, f1, p2, f2, p3, f3, p4, f4, p5, f5, p6, f6, p7, f7, p8, f8⟩ := cf9 HAWA.out
 obtain ⟨v0, g0, v1, g1, v2, g2, v3, g3, v4, g4, v5, g5, v6, g6⟩ := cf7 hv1
 clear hd hR hL hv hv1 f0 f1 f2 f3 f4 f5 f6 f7 f8 g0 g1 g2 g3 g4 g5 g6
 unfold stmV
 unfold rolV2 at HC
 simp only at HC ⊢
 go_enter Tryz.func71, Tryz.ntmps71
 go_upto_region 1 with fail
 (try simp only [hWA, hyb])
 clear hWA hyb
 go_wp2_with fail
 refine HC.out.mono ?_
 rintro e w2 ⟨rfl, hr⟩
 have HE : Hid (KF W w2) := HKWA.out.trans hr.out
 clear HC hr
 go_wp2_with fail
 go_ret
 exact ⟨rfl, HE⟩
theorem ucl2_spec {W : World} {pb : Nat} {va vc vj : Value} {bo : Option Addr} {bn bc : Nat} (hp : W.heap[pb]? = some (.cells #[va, .slice bo bn bc, vc, vj] 26)) {gr : List Rol} (hg : RdK rolE W (.slice bo bn bc) gr) (h1 : gr.length ≤ 1000000) (s : Rol) :
 Calls Tryz.prog 75 #[rolV2 s, .pointer (some ⟨pb, 0, none⟩)] W fun e W' => e = .returned (.bool (decide (s ∈ gr))) ∧ Hid (KF W W') := by
 obtain ⟨d, hd⟩ : ∃ d, decide (s ∈ gr) = d := ⟨_, rfl⟩
 rw [hd]
 obtain ⟨s1, s2⟩ := s
 obtain ⟨WA, hWA⟩ : ∃ q, W.alloc (bR s1 s2) = q := ⟨_, rfl⟩
 have hal := (MapKept.heap_alloc W (bR s1 s2)).1
 have HKWA : Hid (KF W WA) := by rw [← hWA]; exact (Keeps.refl _ _).alloc _
 rw [hWA] at hal
 obtain ⟨sb, hsb⟩ : ∃ q, W.heap.size = q := ⟨_, rfl⟩
 have HBsb := Lib.hid hsb
 rw [hsb] at hal
 have HAWA := Lib.hid hal
 clear hal
 have HC := Lib.hid (phas_spec (hg.keeps HKWA.out) h1 (s1, s2))
 rw [hd] at HC
 obtain ⟨p0, f0, p1, f1⟩ := cf2 HAWA.out
 obtain ⟨v0, g0, v1, g1, v2, g2, v3, g3⟩ := cf4 ((HKWA.out.block _ (lt_of_heap hp) (fun x => x)).trans hp)
 clear hd hg hp f0 f1 g0 g1 g2 g3 v0 v2 v3
 unfold rolV2 at HC ⊢
 simp only at HC ⊢
 go_enter Tryz.func75, Tryz.ntmps75
 go_upto_region 1 with fail
 (try simp only [hWA, hsb])
 clear hWA hsb
 go_wp2_with fail
 refine HC.out.mono ?_
 rintro e w2 ⟨rfl, hr⟩
 have HE : Hid (KF W w2) := HKWA.out.trans hr.out
 clear HC hr
 go_wp2_with fail
 go_ret
 exact ⟨rfl, HE⟩
theorem uof_spec {W : World} {ao bo co jo wo : Option Addr} {an ac bn bc cn cc jn jc wn wc : Nat} {p : Pol} (h : PolH W (.slice ao an ac) (.slice bo bn bc) (.slice co cn cc) p (fun _ => True)) (h1 : p.1.length ≤ 30) (h2 : p.2.1.length ≤ 30) (h3 : p.2.2.1.length ≤ 30) {q : Qry} (hw : RowX W (.slice wo wn wc) q.2.2.2 (fun _ => True)) (h4 : q.2.2.2.length ≤ 40) :
 Calls Tryz.prog 32 #[.agg #[.slice ao an ac, .slice bo bn bc, .slice co cn cc, .slice jo jn jc], qryV q (.slice wo wn wc)] W fun e W' => Hid (UOfTo W p q e W') := by
 have HOF : Hid (∀ w, KF W w → Calls Tryz.prog 64 #[.agg #[.slice ao an ac, .slice bo bn bc, .slice co cn cc, .slice jo jn jc], qryV q (.slice wo wn wc)] w fun e W' => Hid (OfTo w p q e W')) := fun w hk => of_spec (h.into hk (fun _ _ _ x => x) (fun _ _ x => x)) (by omega) (by omega) (by omega) (hw.into hk (fun _ _ _ x => x) (fun _ _ x => x)) (by omega)
 have HPH := Lib.hid h
 have HWR := Lib.hid hw
 have HLN : Hid (p.1.length ≤ 30 ∧ p.2.1.length ≤ 30 ∧ p.2.2.1.length ≤ 30) := ⟨h1, h2, h3⟩
 clear h hw h1 h2 h3 h4
 obtain ⟨qk, ⟨qa1, qa2⟩, ⟨qb1, qb2⟩, qw⟩ := q
 unfold qryV at HOF ⊢
 simp only at HOF HWR ⊢
 obtain ⟨WA, hWA⟩ : ∃ q, W.alloc (bP ao an ac bo bn bc co cn cc jo jn jc) = q := ⟨_, rfl⟩
 have hal := (MapKept.heap_alloc W (bP ao an ac bo bn bc co cn cc jo jn jc)).1
 have HKWA : Hid (KF W WA) := by rw [← hWA]; exact (Keeps.refl _ _).alloc _
 rw [hWA] at hal
 obtain ⟨pb, hpb⟩ : ∃ q, W.heap.size = q := ⟨_, rfl⟩
 have HBpb := Lib.hid hpb
 rw [hpb] at hal
 have HAWA := Lib.hid hal
 clear hal
 obtain ⟨WB, hWB⟩ : ∃ q, WA.alloc (bQ qk qa1 qa2 qb1 qb2 wo wn wc) = q := ⟨_, rfl⟩
 have hal := (MapKept.heap_alloc WA (bQ qk qa1 qa2 qb1 qb2 wo wn wc)).1
 have HKWB : Hid (KF WA WB) := by rw [← hWB]; exact (Keeps.refl _ _).alloc _
 rw [hWB] at hal
 obtain ⟨qb, hqb⟩ : ∃ q, WA.heap.size = q := ⟨_, rfl⟩
 have HBqb := Lib.hid hqb
 rw [hqb] at hal
 have HAWB := Lib.hid hal
 clear hal
 obtain ⟨WC, hWC⟩ : ∃ q, WB.alloc (.cells #[.slice none 0 0, .slice none 0 0, .slice none 0 0, .slice none 0 0, .slice none 0 0, .slice none 0 0, .bool false, .slice none 0 0, .slice none 0 0, .slice none 0 0] 54) = q := ⟨_, rfl⟩
 have hal := (MapKept.heap_alloc WB (.cells #[.slice none 0 0, .slice none 0 0, .slice none 0 0, .slice none 0 0, .slice none 0 0, .slice none 0 0, .bool false, .slice none 0 0, .slice none 0 0, .slice none 0 0] 54)).1
 have HKWC : Hid (KF WB WC) := by rw [← hWC]; exact (Keeps.refl _ _).alloc _
 rw [hWC] at hal
 obtain ⟨zb, hzb⟩ : ∃ q, WB.heap.size = q := ⟨_, rfl⟩
 have HBzb := Lib.hid hzb
 rw [hzb] at hal
 have HAWC := Lib.hid hal
 clear hal
 have HK := Lib.hid (HKWA.out.trans (HKWB.out.trans HKWC.out))
 have HP := Lib.hid (((HKWB.out.trans HKWC.out).block _ (lt_of_heap HAWA.out) (fun x => x)).trans HAWA.out)
 have HQ := Lib.hid ((HKWC.out.block _ (lt_of_heap HAWB.out) (fun x => x)).trans HAWB.out)
 have HZ := Lib.hid HAWC.out
 have HORD : Hid (W.heap.size = pb ∧ pb < qb ∧ qb < zb ∧ zb < WC.heap.size) := ⟨HBpb.out, by have := lt_of_heap HAWA.out; have := HBqb.out; omega, by have := lt_of_heap HAWB.out; have := HBzb.out; omega, lt_of_heap HAWC.out⟩
 clear HKWA HKWB HKWC HAWA HAWB HAWC HBpb HBqb HBzb
 obtain ⟨x0, y0, x1, y1, x2, y2, x3, y3⟩ := cf4 HP.out
 obtain ⟨z0, t0, z1, t1, z2, t2, z3, t3, z4, t4, z5, t5⟩ := cf6 HQ.out
 clear y0 y1 y2 y3 t0 t1 t2 t3 t4 t5
 have HC := Lib.hid (HOF.out _ HK.out)
 clear HOF
 go_enter Tryz.func32, Tryz.ntmps32
 go_upto_region 1 with fail
 (try simp only [hWA, hWB, hWC, hpb, hqb, hzb])
 clear hWA hWB hWC hpb hqb hzb
 go_wp2_with fail
 refine HC.out.mono ?_
 rintro e w1 hof
 clear HC x0 x1 x2 x3 z0 z1 z2 z3 z4 z5
 rcases hof.out with ⟨ha, rfl, hk⟩ | ⟨ha, rv, lv, pv, fv, ov, gv, lk, R, Lk, rfl, hk, hv⟩
 case inl =>
  have hkA : KF w1 (w1.alloc (.cells #[.slice none 0 0, .slice none 0 0, .slice none 0 0, .slice none 0 0, .slice none 0 0, .slice none 0 0, .bool false] 52)) := (Keeps.refl _ _).alloc _
  have HK2 := Lib.hid ((HK.out.trans hk).trans hkA)
  have HZ2 := Lib.hid (((hk.trans hkA).block _ (lt_of_heap HZ.out) (fun x => x)).trans HZ.out)
  have HA := Lib.hid ha
  clear ha hk hof hkA HK HP HQ HZ
  go_upto_region 2 with fail
  generalize w1.alloc (.cells #[.slice none 0 0, .slice none 0 0, .slice none 0 0, .slice none 0 0, .slice none 0 0, .slice none 0 0, .bool false] 52) = w2 at *
  obtain ⟨x0, y0, x1, y1, x2, y2, x3, y3, x4, y4, x5, y5, x6, y6, x7, y7, x8, y8, x9, y9⟩ := cf10 HZ2.out
  have HWHY : Hid (UWhy 6 p (qk, (qa1, qa2), (qb1, qb2), qw)) := .inl ⟨rfl, HA.out⟩
  go_wp2_with fail
  have h10 := set10 HZ2.out (u0 := .slice none 0 0) (u1 := .slice none 0 0) (u2 := .slice none 0 0) (u3 := .slice none 0 0) (u4 := .slice none 0 0) (u5 := .slice none 0 0) (u6 := .bool false) (u7 := .slice none 0 0) (u8 := .slice none 0 0) (u9 := .slice none 0 0)
  clear x0 x1 x2 x3 x4 x5 x6 x7 x8 x9 y0 y1 y2 y3 y4 y5 y6 y7 y8 y9
  generalize ((((((((((w2.setCell ⟨zb, 0, none⟩ (.slice none 0 0)).setCell ⟨zb, 1, none⟩ (.slice none 0 0)).setCell ⟨zb, 2, none⟩ (.slice none 0 0)).setCell ⟨zb, 3, none⟩ (.slice none 0 0)).setCell ⟨zb, 4, none⟩ (.slice none 0 0)).setCell ⟨zb, 5, none⟩ (.slice none 0 0)).setCell ⟨zb, 6, none⟩ (.bool false)).setCell ⟨zb, 7, none⟩ (.slice none 0 0)).setCell ⟨zb, 8, none⟩ (.slice none 0 0)).setCell ⟨zb, 9, none⟩ (.slice none 0 0)) = w9 at *
  have HE : Hid (KF W w9) := HK2.out.trans_new h10.2 (fun k hk e => by have e : k = zb := e; have := HORD.out; omega)
  obtain ⟨x0, y0, x1, y1, x2, y2, x3, y3, x4, y4, x5, y5, x6, y6, x7, y7, x8, y8, x9, y9⟩ := cf10 h10.1
  clear h10
  refine bodyPost_ret (v := .tuple #[.agg #[.slice none 0 0, .slice none 0 0, .slice none 0 0, .slice none 0 0, .slice none 0 0, .slice none 0 0, .bool false, .slice none 0 0, .slice none 0 0, .slice none 0 0], .int .i64 6]) (by simp [results, Tryz.results32, go_sem, *]) rfl ?_
  exact ⟨HE.out, .inl ⟨6, by decide, rfl, HWHY.out⟩⟩
 case inr =>
  have HA := Lib.hid ha
  have hl3 := HLN.out
  have hlw := hv.way.lens
  have h6 : qk = 6 := (ask_parts ha).2.1
  have hvi : (uV p R Lk).length ≤ 16 := Nat.le_trans (rises_le strO _ _ (tab_rises _) (fun x hx => (tab_mem _ _).2 (uV_in hv.way h6 x hx))) (prins_few ha)
  obtain ⟨_, hfl, hol, hgl⟩ := view_lens (g := p.2.1) (h := p.2.2.1) (R := R) (L := Lk) (l := p.1) (B := (qb1, qb2)) (by omega) (by omega) (by omega) (by omega)
  have HNN : Hid (R.length ≤ 62 ∧ Lk.length ≤ 30 ∧ (uV p R Lk).length ≤ 16 ∧ (fixV p.2.1 p.2.2.1 p.1 R Lk).length ≤ 60 ∧ (looseV p.2.1 p.2.2.1 p.1 R Lk).length ≤ 60 ∧ (tabL (prinsA (uPol p (qk, (qa1, qa2), (qb1, qb2), qw)))).length ≤ 16) := ⟨by omega, by omega, hvi, hfl, hol, prins_few ha⟩
  obtain ⟨ro, rc, hrv, _⟩ := id hv.rR.reads
  obtain ⟨lo, lc, hlv, _⟩ := id hv.rL.reads
  obtain ⟨po, pc, hpv, _⟩ := id hv.rP.reads
  obtain ⟨fo, fc, hfv, _⟩ := id hv.rF.reads
  obtain ⟨oo, oc, hov, _⟩ := id hv.rO.reads
  obtain ⟨go, gc, hgv, _⟩ := id hv.rG.reads
  have HUN : Hid (freshN lk (sortO rolLt (sigV p.2.1 p.2.2.1 p.1 (qb1, qb2) R Lk)).length = uN p (qk, (qa1, qa2), (qb1, qb2), qw) R Lk) := by show _ = _; rw [hv.lk]; rfl
  obtain ⟨rn, hrn⟩ : ∃ n : Nat, rv = .slice ro n rc := ⟨_, hrv⟩
  obtain ⟨ln, hln⟩ : ∃ n : Nat, lv = .slice lo n lc := ⟨_, hlv⟩
  obtain ⟨pn, hpn⟩ : ∃ n : Nat, pv = .slice po n pc := ⟨_, hpv⟩
  obtain ⟨fn', hfn⟩ : ∃ n : Nat, fv = .slice fo n fc := ⟨_, hfv⟩
  obtain ⟨on', hon⟩ : ∃ n : Nat, ov = .slice oo n oc := ⟨_, hov⟩
  obtain ⟨gn, hgn0⟩ : ∃ n : Nat, (sortO rolLt (sigV p.2.1 p.2.2.1 p.1 (qb1, qb2) R Lk)).length = n := ⟨_, rfl⟩
  have hgn : gv = .slice go gn gc := by rw [← hgn0]; exact hgv
  rw [hgn0] at HUN hgl
  clear hrv hlv hpv hfv hov hgv hgn0 hlw hl3 hvi hfl hol h6
  subst hrn hln hpn hfn hon hgn
  have hkA : KF w1 (w1.alloc (.cells #[.slice ro rn rc, .slice lo ln lc, .slice po pn pc, .slice fo fn' fc, .slice oo on' oc, .slice go gn gc, .bool lk] 52)) := (Keeps.refl _ _).alloc _
  have HV := Lib.hid (MapKept.heap_alloc w1 (.cells #[.slice ro rn rc, .slice lo ln lc, .slice po pn pc, .slice fo fn' fc, .slice oo on' oc, .slice go gn gc, .bool lk] 52)).1
  have HVW := Lib.hid (hv.keeps hkA (fun _ _ z => z))
  have HK2 := Lib.hid ((HK.out.trans hk).trans hkA)
  have HZ2 := Lib.hid (((hk.trans hkA).block _ (lt_of_heap HZ.out) (fun x => x)).trans HZ.out)
  have HP2 := Lib.hid (((hk.trans hkA).block _ (lt_of_heap HP.out) (fun x => x)).trans HP.out)
  have HQ2 := Lib.hid (((hk.trans hkA).block _ (lt_of_heap HQ.out) (fun x => x)).trans HQ.out)
  obtain ⟨vb, hvb⟩ : ∃ q, w1.heap.size = q := ⟨_, rfl⟩
  rw [hvb] at HV
  have HOR2 : Hid (zb < WC.heap.size ∧ WC.heap.size ≤ vb) := ⟨HORD.out.2.2.2, by have := hk.size; omega⟩
  have HFR := Lib.hid (fun (w : World) => fresh_spec (W := w) (rv := .slice ro rn rc) (lv := .slice lo ln lc) (pv := .slice po pn pc) (fv := .slice fo fn' fc) (ov := .slice oo on' oc) (lk := lk) (go := go) (gc := gc) hgl)
  rw [HUN.out] at HFR
  have HWY : Hid (OnWay p.2.1 p.2.2.1 p.1 (qa1, qa2) (qb1, qb2) R Lk ∧ Shut2 p.2.1 p.2.2.1 p.1 R Lk) := ⟨hv.way, hv.shut⟩
  clear ha hk hv hof hkA HK HP HQ HZ hgl HUN
  go_upto_region 2 with fail
  (try simp only [hvb])
  clear hvb
  generalize w1.alloc (.cells #[.slice ro rn rc, .slice lo ln lc, .slice po pn pc, .slice fo fn' fc, .slice oo on' oc, .slice go gn gc, .bool lk] 52) = w2 at *
  obtain ⟨v0, f0, v1, f1, v2, f2, v3, f3, v4, f4, v5, f5, v6, f6⟩ := cf7 HV.out
  clear f0 f1 f2 f3 f4 f5 f6
  go_wp2_with fail
  refine (HFR.out _).mono ?_
  rintro e w3 ⟨rfl, hk⟩
  clear HFR v0 v1 v2 v3 v4 v5 v6
  have HK3 := Lib.hid (HK2.out.trans hk.out)
  have HV3 := Lib.hid ((hk.out.block _ (lt_of_heap HV.out) (fun x => x)).trans HV.out)
  have HP3 := Lib.hid ((hk.out.block _ (lt_of_heap HP2.out) (fun x => x)).trans HP2.out)
  have HQ3 := Lib.hid ((hk.out.block _ (lt_of_heap HQ2.out) (fun x => x)).trans HQ2.out)
  have HZ3 := Lib.hid ((hk.out.block _ (lt_of_heap HZ2.out) (fun x => x)).trans HZ2.out)
  have HVW3 := Lib.hid (HVW.out.keeps hk.out (fun _ _ z => z))
  clear hk HK2 HV HP2 HQ2 HZ2 HVW
  obtain ⟨un, hun⟩ : ∃ x, uN p (qk, (qa1, qa2), (qb1, qb2), qw) R Lk = x := ⟨_, rfl⟩
  rw [hun]
  have HUQ := Lib.hid hun
  clear hun
  by_cases hn0 : un = 0
  case pos =>
   subst hn0
   obtain ⟨x0, y0, x1, y1, x2, y2, x3, y3, x4, y4, x5, y5, x6, y6, x7, y7, x8, y8, x9, y9⟩ := cf10 HZ3.out
   have HWHY : Hid (UWhy 8 p (qk, (qa1, qa2), (qb1, qb2), qw)) := .inr ⟨HA.out, R, Lk, HWY.out.1, HWY.out.2, .inl ⟨rfl, HUQ.out⟩⟩
   go_wp2_with fail
   have h10 := set10 HZ3.out (u0 := .slice none 0 0) (u1 := .slice none 0 0) (u2 := .slice none 0 0) (u3 := .slice none 0 0) (u4 := .slice none 0 0) (u5 := .slice none 0 0) (u6 := .bool false) (u7 := .slice none 0 0) (u8 := .slice none 0 0) (u9 := .slice none 0 0)
   clear x0 x1 x2 x3 x4 x5 x6 x7 x8 x9 y0 y1 y2 y3 y4 y5 y6 y7 y8 y9
   generalize ((((((((((w3.setCell ⟨zb, 0, none⟩ (.slice none 0 0)).setCell ⟨zb, 1, none⟩ (.slice none 0 0)).setCell ⟨zb, 2, none⟩ (.slice none 0 0)).setCell ⟨zb, 3, none⟩ (.slice none 0 0)).setCell ⟨zb, 4, none⟩ (.slice none 0 0)).setCell ⟨zb, 5, none⟩ (.slice none 0 0)).setCell ⟨zb, 6, none⟩ (.bool false)).setCell ⟨zb, 7, none⟩ (.slice none 0 0)).setCell ⟨zb, 8, none⟩ (.slice none 0 0)).setCell ⟨zb, 9, none⟩ (.slice none 0 0)) = w9 at *
   have HE : Hid (KF W w9) := HK3.out.trans_new h10.2 (fun k hk e => by have e : k = zb := e; have := HORD.out; omega)
   obtain ⟨x0, y0, x1, y1, x2, y2, x3, y3, x4, y4, x5, y5, x6, y6, x7, y7, x8, y8, x9, y9⟩ := cf10 h10.1
   clear h10
   refine bodyPost_ret (v := .tuple #[.agg #[.slice none 0 0, .slice none 0 0, .slice none 0 0, .slice none 0 0, .slice none 0 0, .slice none 0 0, .bool false, .slice none 0 0, .slice none 0 0, .slice none 0 0], .int .i64 8]) (by simp [results, Tryz.results32, go_sem, *]) rfl ?_
   exact ⟨HE.out, .inl ⟨8, by decide, rfl, HWHY.out⟩⟩
  case neg =>
   have hnb : (un == 0) = false := by simpa using hn0
   have hkA : KF w3 (w3.alloc (bQ qk qa1 qa2 qb1 qb2 wo wn wc)) := (Keeps.refl _ _).alloc _
   have hral := (MapKept.heap_alloc w3 (bQ qk qa1 qa2 qb1 qb2 wo wn wc)).1
   have hrw := one_srcK (E := qE) w3 (qk, (qa1, qa2), (qb1, qb2), (wo, wn, wc)) #[.int .i64 qk, .string ⟨qa1.toArray⟩, .string ⟨qa2.toArray⟩, .string ⟨qb1.toArray⟩, .string ⟨qb2.toArray⟩, .slice wo wn wc] rfl
   obtain ⟨w5, hw5⟩ : ∃ q, (w3.alloc (bQ qk qa1 qa2 qb1 qb2 wo wn wc)) = q := ⟨_, rfl⟩
   rw [hw5] at hkA hral
   have hrw2 : SrcK qE w5 (.slice (some ⟨w3.heap.size, 0, none⟩) 1 1) [(qk, (qa1, qa2), (qb1, qb2), (wo, wn, wc))] := by rw [← hw5]; exact hrw
   obtain ⟨rb, hrb⟩ : ∃ q, w3.heap.size = q := ⟨_, rfl⟩
   rw [hrb] at hral hrw2
   have s3 := lt_of_heap HV3.out
   have s4 := HORD.out
   have s5 := HOR2.out
   have hpD := (hkA.block _ (lt_of_heap HP3.out) (fun x => x)).trans HP3.out
   have kD : Keeps (fun q => q = pb) w5 (w5.setCell ⟨pb, 3, none⟩ (.slice (some ⟨rb, 0, none⟩) 1 1)) := Keeps.setCell (S := fun q => q = pb) (Keeps.refl _ _) (p := ⟨pb, 3, none⟩) (fun _ => rfl) _
   have kE : Keeps (fun q => q = pb) w3 (w5.setCell ⟨pb, 3, none⟩ (.slice (some ⟨rb, 0, none⟩) 1 1)) := (hkA.mono (fun _ _ x => x.elim)).trans kD
   have HP6 : Hid ((w5.setCell ⟨pb, 3, none⟩ (.slice (some ⟨rb, 0, none⟩) 1 1)).heap[pb]? = some (.cells #[.slice ao an ac, .slice bo bn bc, .slice co cn cc, .slice (some ⟨rb, 0, none⟩) 1 1] 26)) := heap_set hpD 3 _
   have HV6 : Hid ((w5.setCell ⟨pb, 3, none⟩ (.slice (some ⟨rb, 0, none⟩) 1 1)).heap[vb]? = some (.cells #[.slice ro rn rc, .slice lo ln lc, .slice po pn pc, .slice fo fn' fc, .slice oo on' oc, .slice go gn gc, .bool lk] 52)) := (kE.block vb s3 (by show ¬ _ = _; omega)).trans HV3.out
   have HZ6 : Hid ((w5.setCell ⟨pb, 3, none⟩ (.slice (some ⟨rb, 0, none⟩) 1 1)).heap[zb]? = some (.cells #[.slice none 0 0, .slice none 0 0, .slice none 0 0, .slice none 0 0, .slice none 0 0, .slice none 0 0, .bool false, .slice none 0 0, .slice none 0 0, .slice none 0 0] 54)) := (kE.block zb (lt_of_heap HZ3.out) (by show ¬ _ = _; omega)).trans HZ3.out
   have HVW6 : Hid (ViewAt WC.heap.size (w5.setCell ⟨pb, 3, none⟩ (.slice (some ⟨rb, 0, none⟩) 1 1)) (.slice ro rn rc) (.slice lo ln lc) (.slice po pn pc) (.slice fo fn' fc) (.slice oo on' oc) (.slice go gn gc) lk p (qk, (qa1, qa2), (qb1, qb2), qw) R Lk) := HVW3.out.keeps kE (fun k hk e => by have e : k = pb := e; omega)
   have HK6 : Hid (KF W (w5.setCell ⟨pb, 3, none⟩ (.slice (some ⟨rb, 0, none⟩) 1 1))) := HK3.out.trans_new kE (fun k hk e => by have e : k = pb := e; omega)
   have HPX : Hid (PolX (w5.setCell ⟨pb, 3, none⟩ (.slice (some ⟨rb, 0, none⟩) 1 1)) (.slice ao an ac) (.slice bo bn bc) (.slice co cn cc) (.slice (some ⟨rb, 0, none⟩) 1 1) (uPol p (qk, (qa1, qa2), (qb1, qb2), qw)) (fun _ => True)) := by
    have hq0 : RdX qE w5 (.slice (some ⟨rb, 0, none⟩) 1 1) [(qk, (qa1, qa2), (qb1, qb2), (wo, wn, wc))] (fun k => k = rb) := ⟨hrw2, fun k hk => by simp only [Value.ownBlock, Option.map_some, Option.some.injEq] at hk; exact ⟨by rw [← hk]; exact lt_of_heap hral, hk.symm⟩⟩
    have hq1 : RdX qE (w5.setCell ⟨pb, 3, none⟩ (.slice (some ⟨rb, 0, none⟩) 1 1)) (.slice (some ⟨rb, 0, none⟩) 1 1) [(qk, (qa1, qa2), (qb1, qb2), (wo, wn, wc))] (fun _ => True) := hq0.into kD (fun k _ e e2 => by have e2 : k = pb := e2; omega) (fun _ _ _ => trivial)
    have hw1 := HWR.out.into HK6.out (fun _ _ _ x => x) (fun _ _ x => x)
    exact one_ask (HPH.out.into HK6.out (fun _ _ _ x => x) (fun _ _ x => x)) (q := (qk, (qa1, qa2), (qb1, qb2), qw)) hq1 hw1.1 (fun k hk => (hw1.2 k hk).1)
   have hwl : qw = [] := ask_who (ask_parts HA.out).1 (ask_parts HA.out).2.1
   have HPR := Lib.hid (pprins_spec HPX.out ⟨by have := HLN.out; show p.1.length ≤ 100; omega, by have := HLN.out; show p.2.1.length ≤ 100; omega, by have := HLN.out; show p.2.2.1.length ≤ 100; omega, by show [(qk, (qa1, qa2), (qb1, qb2), qw)].length ≤ 100; simp, fun q hq => by
    obtain rfl : q = (qk, (qa1, qa2), (qb1, qb2), qw) := by simpa [uPol] using hq
    show qw.length ≤ 20
    rw [hwl]
    simp⟩)
   obtain ⟨z0, t0, z1, t1, z2, t2, z3, t3, z4, t4, z5, t5⟩ := cf6 HQ3.out
   obtain ⟨q0, r0⟩ : w5.cell? ⟨pb, 3, none⟩ = some (.slice jo jn jc) ∧ w5.frozen? ⟨pb, 3, none⟩ = false := ⟨(cf4 hpD).2.2.2.2.2.2.1, (cf4 hpD).2.2.2.2.2.2.2⟩
   clear t0 t1 t2 t3 t4 t5 hrw hrw2 hral s3 s4 s5 hpD kD kE hkA hwl HWR HK3 HV3 HP3 HZ3 HVW3
   go_upto_region 8 with fail
   (try simp only [hw5, hrb])
   clear hw5 hrb z0 z1 z2 z3 z4 z5 q0 r0 HQ3
   generalize w5.setCell ⟨pb, 3, none⟩ (.slice (some ⟨rb, 0, none⟩) 1 1) = w6 at *
   obtain ⟨x0, y0, x1, y1, x2, y2, x3, y3⟩ := cf4 HP6.out
   clear y0 y1 y2 y3
   go_wp2_with fail
   refine HPR.out.mono ?_
   rintro e w7 ⟨tv, rfl, hk⟩
   clear HPR HPX x0 x1 x2 x3
   have HK7 := Lib.hid (HK6.out.trans hk.out.2)
   have HV7 := Lib.hid ((hk.out.2.block _ (lt_of_heap HV6.out) (fun x => x)).trans HV6.out)
   have HP7 := Lib.hid ((hk.out.2.block _ (lt_of_heap HP6.out) (fun x => x)).trans HP6.out)
   have HZ7 := Lib.hid ((hk.out.2.block _ (lt_of_heap HZ6.out) (fun x => x)).trans HZ6.out)
   have HVW7 := Lib.hid (HVW6.out.keeps hk.out.2 (fun _ _ z => z))
   have HNW := Lib.hid (names_new hk.out.1.reads (by have := HNN.out.2.2.2.2.2; omega))
   rw [tab_twice] at HNW
   clear hk HK6 HV6 HP6 HZ6 HVW6
   go_wp2_with fail
   refine HNW.out.mono ?_
   rintro e w8 ⟨tp, rfl, hk⟩
   clear HNW
   have HK8 := Lib.hid (HK7.out.trans hk.out.1)
   have HV8 := Lib.hid ((hk.out.1.block _ (lt_of_heap HV7.out) (fun x => x)).trans HV7.out)
   have HP8 := Lib.hid ((hk.out.1.block _ (lt_of_heap HP7.out) (fun x => x)).trans HP7.out)
   have HZ8 := Lib.hid ((hk.out.1.block _ (lt_of_heap HZ7.out) (fun x => x)).trans HZ7.out)
   have HVW8 := Lib.hid (HVW7.out.keeps hk.out.1 (fun _ _ z => z))
   have hu16 : 0 ≤ un ∧ un ≤ 16 := by
    rw [← HUQ.out]
    exact freshN_small _ _
   have HFS := Lib.hid (names_fresh_own hk.out.2 (tab_rises _) (by have := HNN.out.2.2.2.2.2; omega) un (by omega) (by omega))
   have HF16 : Hid (uF p (qk, (qa1, qa2), (qb1, qb2), qw) R Lk = freshL (tabL (prinsA (uPol p (qk, (qa1, qa2), (qb1, qb2), qw)))) un ∧ (uF p (qk, (qa1, qa2), (qb1, qb2), qw) R Lk).length ≤ 16) := by
    have e : uF p (qk, (qa1, qa2), (qb1, qb2), qw) R Lk = freshL (tabL (prinsA (uPol p (qk, (qa1, qa2), (qb1, qb2), qw)))) un := by unfold uF; rw [HUQ.out]
    refine ⟨e, ?_⟩
    rw [e, freshL_len]
    omega
   rw [← HF16.out.1] at HFS
   obtain ⟨bf, hbf⟩ : ∃ q, w8.heap.size = q := ⟨_, rfl⟩
   rw [hbf] at HFS
   have HBF : Hid (W.heap.size < bf ∧ vb < bf ∧ zb < bf ∧ pb < bf ∧ (∀ k, (.slice po pn pc : Value).ownBlock = some k → k < bf) ∧ WC.heap.size ≤ bf) := ⟨by have := lt_of_heap HP8.out; have := HORD.out; omega, by have := lt_of_heap HV8.out; omega, by have := lt_of_heap HZ8.out; omega, by have := lt_of_heap HP8.out; omega, fun k hk => by have := own_lt HVW8.out.rP k hk; omega, by have := lt_of_heap HV8.out; have := HOR2.out; omega⟩
   have HB8 := Lib.hid hbf
   clear hk hu16 hbf HK7 HV7 HP7 HZ7 HVW7
   go_wp2_with fail
   refine HFS.out.mono ?_
   rintro e w9 ⟨xv, rfl, hk⟩
   clear HFS
   have HK9 := Lib.hid (HK8.out.trans hk.out.1)
   have HV9 := Lib.hid ((hk.out.1.block _ (lt_of_heap HV8.out) (fun x => x)).trans HV8.out)
   have HP9 := Lib.hid ((hk.out.1.block _ (lt_of_heap HP8.out) (fun x => x)).trans HP8.out)
   have HZ9 := Lib.hid ((hk.out.1.block _ (lt_of_heap HZ8.out) (fun x => x)).trans HZ8.out)
   have HVW9 := Lib.hid (HVW8.out.keeps hk.out.1 (fun _ _ z => z))
   have HXF : Hid (OwnS bf w9 xv (uF p (qk, (qa1, qa2), (qb1, qb2), qw) R Lk)) := hk.out.2
   have HVK : Hid (∀ w, Keeps (fun q => bf ≤ q) w9 w → ViewAt WC.heap.size w (.slice ro rn rc) (.slice lo ln lc) (.slice po pn pc) (.slice fo fn' fc) (.slice oo on' oc) (.slice go gn gc) lk p (qk, (qa1, qa2), (qb1, qb2), qw) R Lk) := fun w hk2 => HVW8.out.stay (by have := HB8.out; omega) hk.out.1 hk2
   have HB9 : Hid (bf ≤ w9.heap.size) := by have := hk.out.1.size; have := HB8.out; show _ ≤ _; omega
   clear hk HK8 HV8 HP8 HZ8 HVW8
   go_upto_region 9 with fail
   have HVP : Hid (∀ w, Keeps (fun q => bf ≤ q) w9 w → SrcK strE w (.slice po pn pc) (uV p R Lk)) := fun w hk => by
    have q := HVW9.out.rP
    rcases q.form with ⟨e, e2⟩ | ⟨g, cap, cur, e, hg, hh, r⟩
    ·have e2 : (uV p R Lk) = [] := e2
     rw [e, e2]
     exact (ownK_nil strE 0 w).src
    ·have hg2 : ¬ bf ≤ g := by have := HBF.out.2.2.2.2.1 g (by rw [e]; rfl); omega
     have z : OwnK strE WC.heap.size w (.slice po pn pc) (uV p R Lk) := ownsRow_keeps' q hk (fun k hk2 => by
      rw [e] at hk2
      simp only [Value.ownBlock, Option.map_some, Option.some.injEq] at hk2
      rw [← hk2]
      exact hg2)
     exact z.src
   have HXL : Hid ((uF p (qk, (qa1, qa2), (qb1, qb2), qw) R Lk).length + (uV p R Lk).length ≤ 32) := by have := HF16.out.2; have := HNN.out.2.2.1; show _ ≤ _; omega
   have HXW : Hid (OwnK strE bf w9.drew xv (uF p (qk, (qa1, qa2), (qb1, qb2), qw) R Lk)) := (ownK_str.2 HXF.out).keeps ((Keeps.refl (fun _ => False) _).drew) (fun _ _ z => z)
   obtain ⟨v0, f0, v1, f1, v2, f2, v3, f3, v4, f4, v5, f5, v6, f6⟩ := cf7 HV9.out
   clear f0 f1 f2 f3 f4 f5 f6
   go_cut [10] (fun pt wx => ∃ (ub : Nat) (uo : Option Addr) (un2 uc : Nat), pt = .pointer (some ⟨ub, 0, none⟩) ∧ Hid (Keeps (fun q => bf ≤ q) w9 wx ∧ w9.heap.size ≤ ub ∧ wx.heap[ub]? = some (.cells #[.slice ro rn rc, .slice lo ln lc, .slice po pn pc, .slice fo fn' fc, .slice oo on' oc, .slice go gn gc, .bool lk, .slice uo un2 uc, .slice none 0 0, .slice none 0 0] 54) ∧ OwnK strE w9.heap.size wx (.slice uo un2 uc) (uP p (qk, (qa1, qa2), (qb1, qb2), qw) R Lk) ∧ ub < wx.heap.size))
   case first =>
    have HMK1 : Hid (∀ w' : World, Keeps (fun q => bf ≤ q) w9 w' → w'.cell? ⟨vb, 0, none⟩ = some (.slice ro rn rc) ∧ w'.cell? ⟨vb, 1, none⟩ = some (.slice lo ln lc) ∧ w'.cell? ⟨vb, 2, none⟩ = some (.slice po pn pc) ∧ w'.cell? ⟨vb, 3, none⟩ = some (.slice fo fn' fc) ∧ w'.cell? ⟨vb, 4, none⟩ = some (.slice oo on' oc) ∧ w'.cell? ⟨vb, 5, none⟩ = some (.slice go gn gc) ∧ w'.cell? ⟨vb, 6, none⟩ = some (.bool lk)) := fun w' hk => ⟨(hk.cell (p := ⟨vb, 0, none⟩) (World.block_lt_of_cell? _ _ v0) (fun e => by have e : bf ≤ vb := e; have := HBF.out.2.1; omega)).trans v0, (hk.cell (p := ⟨vb, 1, none⟩) (World.block_lt_of_cell? _ _ v1) (fun e => by have e : bf ≤ vb := e; have := HBF.out.2.1; omega)).trans v1, (hk.cell (p := ⟨vb, 2, none⟩) (World.block_lt_of_cell? _ _ v2) (fun e => by have e : bf ≤ vb := e; have := HBF.out.2.1; omega)).trans v2, (hk.cell (p := ⟨vb, 3, none⟩) (World.block_lt_of_cell? _ _ v3) (fun e => by have e : bf ≤ vb := e; have := HBF.out.2.1; omega)).trans v3, (hk.cell (p := ⟨vb, 4, none⟩) (World.block_lt_of_cell? _ _ v4) (fun e => by have e : bf ≤ vb := e; have := HBF.out.2.1; omega)).trans v4, (hk.cell (p := ⟨vb, 5, none⟩) (World.block_lt_of_cell? _ _ v5) (fun e => by have e : bf ≤ vb := e; have := HBF.out.2.1; omega)).trans v5, (hk.cell (p := ⟨vb, 6, none⟩) (World.block_lt_of_cell? _ _ v6) (fun e => by have e : bf ≤ vb := e; have := HBF.out.2.1; omega)).trans v6⟩
    have HKX1 : Hid (Keeps (fun q => bf ≤ q) w9 w9.drew) := (Keeps.refl _ _).drew
    have hS0 := HMK1.out _ HKX1.out
    clear v0 v1 v2 v3 v4 v5 v6
    refine wp_region_noPanic ?_
    refine wp_region_held_drew (S := (fun w' => w'.cell? ⟨vb, 0, none⟩ = some (.slice ro rn rc) ∧ w'.cell? ⟨vb, 1, none⟩ = some (.slice lo ln lc) ∧ w'.cell? ⟨vb, 2, none⟩ = some (.slice po pn pc) ∧ w'.cell? ⟨vb, 3, none⟩ = some (.slice fo fn' fc) ∧ w'.cell? ⟨vb, 4, none⟩ = some (.slice oo on' oc) ∧ w'.cell? ⟨vb, 5, none⟩ = some (.slice go gn gc) ∧ w'.cell? ⟨vb, 6, none⟩ = some (.bool lk))) (by kernel_rfl) hS0 (fun hHeld => ?_)
    clear hS0
    generalize w9.drew = wA at *
    refine tk 0 rfl hHeld ?_
    refine tk 2 rfl hHeld ?_
    refine tk 3 rfl hHeld ?_
    (try simp only [nz])
    refine tk 1 rfl hHeld ?_
    (try simp only [nz])
    refine wpAnyH_two (i := 4) (j := 8) (by kernel_rfl) rfl rfl (fun KK hK => ?pA6) (fun KK hK => ?pB6)
    case pA6 =>
     have hlo : bf ≤ wA.heap.size := by have := HKX1.out.size; have := HB9.out; omega
     refine step_app_k (E := strE) rfl (.tmp 36) (.tmp 38) rfl bf xv (uF p (qk, (qa1, qa2), (qb1, qb2), qw) R Lk) (by simp [Act.eval, Act.put] <;> rfl) HXW.out _ (uV p R Lk) (by simp [Act.eval, Act.put] <;> rfl) (HVP.out _ HKX1.out) (by have := HXL.out; omega) hlo ?_
     intro v6 wAe ho hk
     replace HKX1 := Lib.hid (HKX1.out.trans (hk.mono (fun q _ hq => own_block HXW.out q hq)))
     have HX2 : Hid (OwnK strE bf wAe v6 ((uF p (qk, (qa1, qa2), (qb1, qb2), qw) R Lk) ++ (uV p R Lk))) := ho
     clear hk ho hlo HXW
     (try go_simp)
     refine hK.out _ _ (HMK1.out _ HKX1.out) fun hHeld => ?_
     clear hK KK
     (try simp only [nz])
     refine wpAnyH_two (i := 5) (j := 8) (by kernel_rfl) rfl rfl (fun KK hK => ?pA8) (fun KK hK => ?pB8)
     case pA8 =>
      have HNW2 := Lib.hid (names_new (ownK_str.1 HX2.out).reads (by rw [List.length_append]; have := HXL.out; omega))
      go_simp
      refine HNW2.out.mono ?_
      rintro e wAee ⟨tp2, rfl, hk⟩
      replace HKX1 := Lib.hid (HKX1.out.trans (hk.out.1.mono (fun _ _ z => z.elim)))
      have HT : Hid (Tab wAee tp2 (uP p (qk, (qa1, qa2), (qb1, qb2), qw) R Lk)) := hk.out.2
      clear hk HNW2 HX2
      go_simp
      refine hK.out _ _ (HMK1.out _ HKX1.out) fun hHeld => ?_
      clear hK KK
      (try simp only [nz])
      refine wpAnyH_two (i := 6) (j := 8) (by kernel_rfl) rfl rfl (fun KK hK => ?pA10) (fun KK hK => ?pB10)
      case pA10 =>
       have hpl : (uP p (qk, (qa1, qa2), (qb1, qb2), qw) R Lk).length ≤ 32 := by unfold uP; refine Nat.le_trans (tab_len _) ?_; rw [List.length_append]; have := HXL.out; omega
       have HNA := Lib.hid (names_all HT.out (by omega))
       have hsz9 := HKX1.out.size
       go_simp
       refine HNA.out.mono ?_
       rintro e wAeee ⟨v8, rfl, hk⟩
       replace HKX1 := Lib.hid (HKX1.out.trans (hk.out.1.mono (fun _ _ z => z.elim)))
       have HQ8 : Hid (OwnK strE w9.heap.size wAeee v8 (uP p (qk, (qa1, qa2), (qb1, qb2), qw) R Lk)) := (ownK_str.2 hk.out.2).base hsz9
       obtain ⟨uo, uc, hq8, _⟩ := id HQ8.out.reads
       obtain ⟨un2, hun2⟩ : ∃ n : Nat, v8 = .slice uo n uc := ⟨_, hq8⟩
       clear hq8
       subst hun2
       clear hk HNA HT hpl hsz9
       go_simp
       refine hK.out _ _ (HMK1.out _ HKX1.out) fun hHeld => ?_
       clear hK KK
       refine tk 7 rfl hHeld ?_
       (try simp only [nz])
       refine on1 8 rfl fun KK hK => ?_
       have hkE : KF wAeee (wAeee.alloc (.cells #[.slice none 0 0, .slice none 0 0, .slice none 0 0, .slice none 0 0, .slice none 0 0, .slice none 0 0, .bool false, .slice none 0 0, .slice none 0 0, .slice none 0 0] 54)) := (Keeps.refl _ _).alloc _
       have HZU : Hid ((wAeee.alloc (.cells #[.slice none 0 0, .slice none 0 0, .slice none 0 0, .slice none 0 0, .slice none 0 0, .slice none 0 0, .bool false, .slice none 0 0, .slice none 0 0, .slice none 0 0] 54)).heap[wAeee.heap.size]? = some (.cells #[.slice none 0 0, .slice none 0 0, .slice none 0 0, .slice none 0 0, .slice none 0 0, .slice none 0 0, .bool false, .slice none 0 0, .slice none 0 0, .slice none 0 0] 54)) := (MapKept.heap_alloc wAeee (.cells #[.slice none 0 0, .slice none 0 0, .slice none 0 0, .slice none 0 0, .slice none 0 0, .slice none 0 0, .bool false, .slice none 0 0, .slice none 0 0, .slice none 0 0] 54)).1
       have HUL : Hid (w9.heap.size ≤ wAeee.heap.size) := HKX1.out.size
       replace HKX1 := Lib.hid (HKX1.out.trans (hkE.mono (fun _ _ z => z.elim)))
       replace HQ8 := Lib.hid (HQ8.out.keeps hkE (fun _ _ z => z))
       clear hkE
       go_simp
       refine hK.out _ _ (HMK1.out _ HKX1.out) fun hHeld => ?_
       clear hK KK
       (try simp only [nz])
       generalize (wAeee.alloc (.cells #[.slice none 0 0, .slice none 0 0, .slice none 0 0, .slice none 0 0, .slice none 0 0, .slice none 0 0, .bool false, .slice none 0 0, .slice none 0 0, .slice none 0 0] 54)) = wAeeez at *
       obtain ⟨ub, hub⟩ : ∃ ub, wAeee.heap.size = ub := ⟨_, rfl⟩
       (try simp only [hub])
       (try simp only [hub] at HZU HUL)
       clear hub
       refine on1 9 rfl fun KK hK => ?_
       have h10 := set10 HZU.out (u0 := .slice ro rn rc) (u1 := .slice lo ln lc) (u2 := .slice po pn pc) (u3 := .slice fo fn' fc) (u4 := .slice oo on' oc) (u5 := .slice go gn gc) (u6 := .bool lk) (u7 := .slice uo un2 uc) (u8 := .slice none 0 0) (u9 := .slice none 0 0)
       obtain ⟨x0, y0, x1, y1, x2, y2, x3, y3, x4, y4, x5, y5, x6, y6, x7, y7, x8, y8, x9, y9⟩ := cf10 HZU.out
       have hbu : bf ≤ ub := by have := HUL.out; have := HB9.out; omega
       replace HKX1 := Lib.hid (HKX1.out.trans (h10.2.mono (fun q _ e => by have e : q = ub := e; show bf ≤ q; omega)))
       have HN : Hid (Keeps (fun q => bf ≤ q) w9 ((((((((((wAeeez.setCell ⟨ub, 0, none⟩ (.slice ro rn rc)).setCell ⟨ub, 1, none⟩ (.slice lo ln lc)).setCell ⟨ub, 2, none⟩ (.slice po pn pc)).setCell ⟨ub, 3, none⟩ (.slice fo fn' fc)).setCell ⟨ub, 4, none⟩ (.slice oo on' oc)).setCell ⟨ub, 5, none⟩ (.slice go gn gc)).setCell ⟨ub, 6, none⟩ (.bool lk)).setCell ⟨ub, 7, none⟩ (.slice uo un2 uc)).setCell ⟨ub, 8, none⟩ (.slice none 0 0)).setCell ⟨ub, 9, none⟩ (.slice none 0 0)) ∧ w9.heap.size ≤ ub ∧ ((((((((((wAeeez.setCell ⟨ub, 0, none⟩ (.slice ro rn rc)).setCell ⟨ub, 1, none⟩ (.slice lo ln lc)).setCell ⟨ub, 2, none⟩ (.slice po pn pc)).setCell ⟨ub, 3, none⟩ (.slice fo fn' fc)).setCell ⟨ub, 4, none⟩ (.slice oo on' oc)).setCell ⟨ub, 5, none⟩ (.slice go gn gc)).setCell ⟨ub, 6, none⟩ (.bool lk)).setCell ⟨ub, 7, none⟩ (.slice uo un2 uc)).setCell ⟨ub, 8, none⟩ (.slice none 0 0)).setCell ⟨ub, 9, none⟩ (.slice none 0 0)).heap[ub]? = some (.cells #[.slice ro rn rc, .slice lo ln lc, .slice po pn pc, .slice fo fn' fc, .slice oo on' oc, .slice go gn gc, .bool lk, .slice uo un2 uc, .slice none 0 0, .slice none 0 0] 54) ∧ OwnK strE w9.heap.size ((((((((((wAeeez.setCell ⟨ub, 0, none⟩ (.slice ro rn rc)).setCell ⟨ub, 1, none⟩ (.slice lo ln lc)).setCell ⟨ub, 2, none⟩ (.slice po pn pc)).setCell ⟨ub, 3, none⟩ (.slice fo fn' fc)).setCell ⟨ub, 4, none⟩ (.slice oo on' oc)).setCell ⟨ub, 5, none⟩ (.slice go gn gc)).setCell ⟨ub, 6, none⟩ (.bool lk)).setCell ⟨ub, 7, none⟩ (.slice uo un2 uc)).setCell ⟨ub, 8, none⟩ (.slice none 0 0)).setCell ⟨ub, 9, none⟩ (.slice none 0 0)) (.slice uo un2 uc) (uP p (qk, (qa1, qa2), (qb1, qb2), qw) R Lk) ∧ ub < ((((((((((wAeeez.setCell ⟨ub, 0, none⟩ (.slice ro rn rc)).setCell ⟨ub, 1, none⟩ (.slice lo ln lc)).setCell ⟨ub, 2, none⟩ (.slice po pn pc)).setCell ⟨ub, 3, none⟩ (.slice fo fn' fc)).setCell ⟨ub, 4, none⟩ (.slice oo on' oc)).setCell ⟨ub, 5, none⟩ (.slice go gn gc)).setCell ⟨ub, 6, none⟩ (.bool lk)).setCell ⟨ub, 7, none⟩ (.slice uo un2 uc)).setCell ⟨ub, 8, none⟩ (.slice none 0 0)).setCell ⟨ub, 9, none⟩ (.slice none 0 0)).heap.size) := ⟨HKX1.out, HUL.out, h10.1, ownsRow_keeps' HQ8.out h10.2 (fun k hk e => by have e : k = ub := e; rw [e] at hk; exact own_ne HQ8.out HZU.out (by show 54 ≠ 9; decide) hk), lt_of_heap h10.1⟩
       clear h10 HZU HQ8 HUL hbu
       go_simp
       refine hK.out _ _ (HMK1.out _ HKX1.out) fun hHeld => ?_
       clear hK KK
       (try simp only [nz])
       clear x0 x1 x2 x3 x4 x5 x6 x7 x8 x9 y0 y1 y2 y3 y4 y5 y6 y7 y8 y9
       generalize ((((((((((wAeeez.setCell ⟨ub, 0, none⟩ (.slice ro rn rc)).setCell ⟨ub, 1, none⟩ (.slice lo ln lc)).setCell ⟨ub, 2, none⟩ (.slice po pn pc)).setCell ⟨ub, 3, none⟩ (.slice fo fn' fc)).setCell ⟨ub, 4, none⟩ (.slice oo on' oc)).setCell ⟨ub, 5, none⟩ (.slice go gn gc)).setCell ⟨ub, 6, none⟩ (.bool lk)).setCell ⟨ub, 7, none⟩ (.slice uo un2 uc)).setCell ⟨ub, 8, none⟩ (.slice none 0 0)).setCell ⟨ub, 9, none⟩ (.slice none 0 0)) = wN at *
       refine wpAnyH_done (by kernel_rfl) ?_ _
       refine NoPanic.normal ?_
       clear hHeld HMK1
       clear HKX1
       go_wp2_with fail
       go_meet
       exact ⟨_, _, _, _, rfl, HN⟩
      case pB10 =>
       have hkE : KF wAee (wAee.alloc (.cells #[.slice none 0 0, .slice none 0 0, .slice none 0 0, .slice none 0 0, .slice none 0 0, .slice none 0 0, .bool false, .slice none 0 0, .slice none 0 0, .slice none 0 0] 54)) := (Keeps.refl _ _).alloc _
       have HZU : Hid ((wAee.alloc (.cells #[.slice none 0 0, .slice none 0 0, .slice none 0 0, .slice none 0 0, .slice none 0 0, .slice none 0 0, .bool false, .slice none 0 0, .slice none 0 0, .slice none 0 0] 54)).heap[wAee.heap.size]? = some (.cells #[.slice none 0 0, .slice none 0 0, .slice none 0 0, .slice none 0 0, .slice none 0 0, .slice none 0 0, .bool false, .slice none 0 0, .slice none 0 0, .slice none 0 0] 54)) := (MapKept.heap_alloc wAee (.cells #[.slice none 0 0, .slice none 0 0, .slice none 0 0, .slice none 0 0, .slice none 0 0, .slice none 0 0, .bool false, .slice none 0 0, .slice none 0 0, .slice none 0 0] 54)).1
       have HUL : Hid (w9.heap.size ≤ wAee.heap.size) := HKX1.out.size
       replace HKX1 := Lib.hid (HKX1.out.trans (hkE.mono (fun _ _ z => z.elim)))
       replace HT := Lib.hid (HT.out.keeps hkE)
       clear hkE
       go_simp
       refine hK.out _ _ (HMK1.out _ HKX1.out) fun hHeld => ?_
       clear hK KK
       (try simp only [nz])
       generalize (wAee.alloc (.cells #[.slice none 0 0, .slice none 0 0, .slice none 0 0, .slice none 0 0, .slice none 0 0, .slice none 0 0, .bool false, .slice none 0 0, .slice none 0 0, .slice none 0 0] 54)) = wAeez at *
       obtain ⟨ub, hub⟩ : ∃ ub, wAee.heap.size = ub := ⟨_, rfl⟩
       (try simp only [hub])
       (try simp only [hub] at HZU HUL)
       clear hub
       refine on1 6 rfl fun KK hK => ?_
       have hpl : (uP p (qk, (qa1, qa2), (qb1, qb2), qw) R Lk).length ≤ 32 := by unfold uP; refine Nat.le_trans (tab_len _) ?_; rw [List.length_append]; have := HXL.out; omega
       have HNA := Lib.hid (names_all HT.out (by omega))
       have hsz9 := HKX1.out.size
       go_simp
       refine HNA.out.mono ?_
       rintro e wAeeze ⟨v8, rfl, hk⟩
       replace HKX1 := Lib.hid (HKX1.out.trans (hk.out.1.mono (fun _ _ z => z.elim)))
       have HQ8 : Hid (OwnK strE w9.heap.size wAeeze v8 (uP p (qk, (qa1, qa2), (qb1, qb2), qw) R Lk)) := (ownK_str.2 hk.out.2).base hsz9
       obtain ⟨uo, uc, hq8, _⟩ := id HQ8.out.reads
       obtain ⟨un2, hun2⟩ : ∃ n : Nat, v8 = .slice uo n uc := ⟨_, hq8⟩
       clear hq8
       subst hun2
       replace HZU := Lib.hid ((hk.out.1.block _ (lt_of_heap HZU.out) (fun x => x)).trans HZU.out)
       clear hk HNA HT hpl hsz9
       go_simp
       refine hK.out _ _ (HMK1.out _ HKX1.out) fun hHeld => ?_
       clear hK KK
       refine tk 7 rfl hHeld ?_
       (try simp only [nz])
       refine on1 9 rfl fun KK hK => ?_
       have h10 := set10 HZU.out (u0 := .slice ro rn rc) (u1 := .slice lo ln lc) (u2 := .slice po pn pc) (u3 := .slice fo fn' fc) (u4 := .slice oo on' oc) (u5 := .slice go gn gc) (u6 := .bool lk) (u7 := .slice uo un2 uc) (u8 := .slice none 0 0) (u9 := .slice none 0 0)
       obtain ⟨x0, y0, x1, y1, x2, y2, x3, y3, x4, y4, x5, y5, x6, y6, x7, y7, x8, y8, x9, y9⟩ := cf10 HZU.out
       have hbu : bf ≤ ub := by have := HUL.out; have := HB9.out; omega
       replace HKX1 := Lib.hid (HKX1.out.trans (h10.2.mono (fun q _ e => by have e : q = ub := e; show bf ≤ q; omega)))
       have HN : Hid (Keeps (fun q => bf ≤ q) w9 ((((((((((wAeeze.setCell ⟨ub, 0, none⟩ (.slice ro rn rc)).setCell ⟨ub, 1, none⟩ (.slice lo ln lc)).setCell ⟨ub, 2, none⟩ (.slice po pn pc)).setCell ⟨ub, 3, none⟩ (.slice fo fn' fc)).setCell ⟨ub, 4, none⟩ (.slice oo on' oc)).setCell ⟨ub, 5, none⟩ (.slice go gn gc)).setCell ⟨ub, 6, none⟩ (.bool lk)).setCell ⟨ub, 7, none⟩ (.slice uo un2 uc)).setCell ⟨ub, 8, none⟩ (.slice none 0 0)).setCell ⟨ub, 9, none⟩ (.slice none 0 0)) ∧ w9.heap.size ≤ ub ∧ ((((((((((wAeeze.setCell ⟨ub, 0, none⟩ (.slice ro rn rc)).setCell ⟨ub, 1, none⟩ (.slice lo ln lc)).setCell ⟨ub, 2, none⟩ (.slice po pn pc)).setCell ⟨ub, 3, none⟩ (.slice fo fn' fc)).setCell ⟨ub, 4, none⟩ (.slice oo on' oc)).setCell ⟨ub, 5, none⟩ (.slice go gn gc)).setCell ⟨ub, 6, none⟩ (.bool lk)).setCell ⟨ub, 7, none⟩ (.slice uo un2 uc)).setCell ⟨ub, 8, none⟩ (.slice none 0 0)).setCell ⟨ub, 9, none⟩ (.slice none 0 0)).heap[ub]? = some (.cells #[.slice ro rn rc, .slice lo ln lc, .slice po pn pc, .slice fo fn' fc, .slice oo on' oc, .slice go gn gc, .bool lk, .slice uo un2 uc, .slice none 0 0, .slice none 0 0] 54) ∧ OwnK strE w9.heap.size ((((((((((wAeeze.setCell ⟨ub, 0, none⟩ (.slice ro rn rc)).setCell ⟨ub, 1, none⟩ (.slice lo ln lc)).setCell ⟨ub, 2, none⟩ (.slice po pn pc)).setCell ⟨ub, 3, none⟩ (.slice fo fn' fc)).setCell ⟨ub, 4, none⟩ (.slice oo on' oc)).setCell ⟨ub, 5, none⟩ (.slice go gn gc)).setCell ⟨ub, 6, none⟩ (.bool lk)).setCell ⟨ub, 7, none⟩ (.slice uo un2 uc)).setCell ⟨ub, 8, none⟩ (.slice none 0 0)).setCell ⟨ub, 9, none⟩ (.slice none 0 0)) (.slice uo un2 uc) (uP p (qk, (qa1, qa2), (qb1, qb2), qw) R Lk) ∧ ub < ((((((((((wAeeze.setCell ⟨ub, 0, none⟩ (.slice ro rn rc)).setCell ⟨ub, 1, none⟩ (.slice lo ln lc)).setCell ⟨ub, 2, none⟩ (.slice po pn pc)).setCell ⟨ub, 3, none⟩ (.slice fo fn' fc)).setCell ⟨ub, 4, none⟩ (.slice oo on' oc)).setCell ⟨ub, 5, none⟩ (.slice go gn gc)).setCell ⟨ub, 6, none⟩ (.bool lk)).setCell ⟨ub, 7, none⟩ (.slice uo un2 uc)).setCell ⟨ub, 8, none⟩ (.slice none 0 0)).setCell ⟨ub, 9, none⟩ (.slice none 0 0)).heap.size) := ⟨HKX1.out, HUL.out, h10.1, ownsRow_keeps' HQ8.out h10.2 (fun k hk e => by have e : k = ub := e; rw [e] at hk; exact own_ne HQ8.out HZU.out (by show 54 ≠ 9; decide) hk), lt_of_heap h10.1⟩
       clear h10 HZU HQ8 HUL hbu
       go_simp
       refine hK.out _ _ (HMK1.out _ HKX1.out) fun hHeld => ?_
       clear hK KK
       (try simp only [nz])
       clear x0 x1 x2 x3 x4 x5 x6 x7 x8 x9 y0 y1 y2 y3 y4 y5 y6 y7 y8 y9
       generalize ((((((((((wAeeze.setCell ⟨ub, 0, none⟩ (.slice ro rn rc)).setCell ⟨ub, 1, none⟩ (.slice lo ln lc)).setCell ⟨ub, 2, none⟩ (.slice po pn pc)).setCell ⟨ub, 3, none⟩ (.slice fo fn' fc)).setCell ⟨ub, 4, none⟩ (.slice oo on' oc)).setCell ⟨ub, 5, none⟩ (.slice go gn gc)).setCell ⟨ub, 6, none⟩ (.bool lk)).setCell ⟨ub, 7, none⟩ (.slice uo un2 uc)).setCell ⟨ub, 8, none⟩ (.slice none 0 0)).setCell ⟨ub, 9, none⟩ (.slice none 0 0)) = wN at *
       refine wpAnyH_done (by kernel_rfl) ?_ _
       refine NoPanic.normal ?_
       clear hHeld HMK1
       clear HKX1
       go_wp2_with fail
       go_meet
       exact ⟨_, _, _, _, rfl, HN⟩
     case pB8 =>
      have hkE : KF wAe (wAe.alloc (.cells #[.slice none 0 0, .slice none 0 0, .slice none 0 0, .slice none 0 0, .slice none 0 0, .slice none 0 0, .bool false, .slice none 0 0, .slice none 0 0, .slice none 0 0] 54)) := (Keeps.refl _ _).alloc _
      have HZU : Hid ((wAe.alloc (.cells #[.slice none 0 0, .slice none 0 0, .slice none 0 0, .slice none 0 0, .slice none 0 0, .slice none 0 0, .bool false, .slice none 0 0, .slice none 0 0, .slice none 0 0] 54)).heap[wAe.heap.size]? = some (.cells #[.slice none 0 0, .slice none 0 0, .slice none 0 0, .slice none 0 0, .slice none 0 0, .slice none 0 0, .bool false, .slice none 0 0, .slice none 0 0, .slice none 0 0] 54)) := (MapKept.heap_alloc wAe (.cells #[.slice none 0 0, .slice none 0 0, .slice none 0 0, .slice none 0 0, .slice none 0 0, .slice none 0 0, .bool false, .slice none 0 0, .slice none 0 0, .slice none 0 0] 54)).1
      have HUL : Hid (w9.heap.size ≤ wAe.heap.size) := HKX1.out.size
      replace HKX1 := Lib.hid (HKX1.out.trans (hkE.mono (fun _ _ z => z.elim)))
      replace HX2 := Lib.hid (HX2.out.keeps hkE (fun _ _ z => z))
      clear hkE
      go_simp
      refine hK.out _ _ (HMK1.out _ HKX1.out) fun hHeld => ?_
      clear hK KK
      (try simp only [nz])
      generalize (wAe.alloc (.cells #[.slice none 0 0, .slice none 0 0, .slice none 0 0, .slice none 0 0, .slice none 0 0, .slice none 0 0, .bool false, .slice none 0 0, .slice none 0 0, .slice none 0 0] 54)) = wAez at *
      obtain ⟨ub, hub⟩ : ∃ ub, wAe.heap.size = ub := ⟨_, rfl⟩
      (try simp only [hub])
      (try simp only [hub] at HZU HUL)
      clear hub
      refine on1 5 rfl fun KK hK => ?_
      have HNW2 := Lib.hid (names_new (ownK_str.1 HX2.out).reads (by rw [List.length_append]; have := HXL.out; omega))
      go_simp
      refine HNW2.out.mono ?_
      rintro e wAeze ⟨tp2, rfl, hk⟩
      replace HKX1 := Lib.hid (HKX1.out.trans (hk.out.1.mono (fun _ _ z => z.elim)))
      have HT : Hid (Tab wAeze tp2 (uP p (qk, (qa1, qa2), (qb1, qb2), qw) R Lk)) := hk.out.2
      replace HZU := Lib.hid ((hk.out.1.block _ (lt_of_heap HZU.out) (fun x => x)).trans HZU.out)
      clear hk HNW2 HX2
      go_simp
      refine hK.out _ _ (HMK1.out _ HKX1.out) fun hHeld => ?_
      clear hK KK
      (try simp only [nz])
      refine on1 6 rfl fun KK hK => ?_
      have hpl : (uP p (qk, (qa1, qa2), (qb1, qb2), qw) R Lk).length ≤ 32 := by unfold uP; refine Nat.le_trans (tab_len _) ?_; rw [List.length_append]; have := HXL.out; omega
      have HNA := Lib.hid (names_all HT.out (by omega))
      have hsz9 := HKX1.out.size
      go_simp
      refine HNA.out.mono ?_
      rintro e wAezee ⟨v8, rfl, hk⟩
      replace HKX1 := Lib.hid (HKX1.out.trans (hk.out.1.mono (fun _ _ z => z.elim)))
      have HQ8 : Hid (OwnK strE w9.heap.size wAezee v8 (uP p (qk, (qa1, qa2), (qb1, qb2), qw) R Lk)) := (ownK_str.2 hk.out.2).base hsz9
      obtain ⟨uo, uc, hq8, _⟩ := id HQ8.out.reads
      obtain ⟨un2, hun2⟩ : ∃ n : Nat, v8 = .slice uo n uc := ⟨_, hq8⟩
      clear hq8
      subst hun2
      replace HZU := Lib.hid ((hk.out.1.block _ (lt_of_heap HZU.out) (fun x => x)).trans HZU.out)
      clear hk HNA HT hpl hsz9
      go_simp
      refine hK.out _ _ (HMK1.out _ HKX1.out) fun hHeld => ?_
      clear hK KK
      refine tk 7 rfl hHeld ?_
      (try simp only [nz])
      refine on1 9 rfl fun KK hK => ?_
      have h10 := set10 HZU.out (u0 := .slice ro rn rc) (u1 := .slice lo ln lc) (u2 := .slice po pn pc) (u3 := .slice fo fn' fc) (u4 := .slice oo on' oc) (u5 := .slice go gn gc) (u6 := .bool lk) (u7 := .slice uo un2 uc) (u8 := .slice none 0 0) (u9 := .slice none 0 0)
      obtain ⟨x0, y0, x1, y1, x2, y2, x3, y3, x4, y4, x5, y5, x6, y6, x7, y7, x8, y8, x9, y9⟩ := cf10 HZU.out
      have hbu : bf ≤ ub := by have := HUL.out; have := HB9.out; omega
      replace HKX1 := Lib.hid (HKX1.out.trans (h10.2.mono (fun q _ e => by have e : q = ub := e; show bf ≤ q; omega)))
      have HN : Hid (Keeps (fun q => bf ≤ q) w9 ((((((((((wAezee.setCell ⟨ub, 0, none⟩ (.slice ro rn rc)).setCell ⟨ub, 1, none⟩ (.slice lo ln lc)).setCell ⟨ub, 2, none⟩ (.slice po pn pc)).setCell ⟨ub, 3, none⟩ (.slice fo fn' fc)).setCell ⟨ub, 4, none⟩ (.slice oo on' oc)).setCell ⟨ub, 5, none⟩ (.slice go gn gc)).setCell ⟨ub, 6, none⟩ (.bool lk)).setCell ⟨ub, 7, none⟩ (.slice uo un2 uc)).setCell ⟨ub, 8, none⟩ (.slice none 0 0)).setCell ⟨ub, 9, none⟩ (.slice none 0 0)) ∧ w9.heap.size ≤ ub ∧ ((((((((((wAezee.setCell ⟨ub, 0, none⟩ (.slice ro rn rc)).setCell ⟨ub, 1, none⟩ (.slice lo ln lc)).setCell ⟨ub, 2, none⟩ (.slice po pn pc)).setCell ⟨ub, 3, none⟩ (.slice fo fn' fc)).setCell ⟨ub, 4, none⟩ (.slice oo on' oc)).setCell ⟨ub, 5, none⟩ (.slice go gn gc)).setCell ⟨ub, 6, none⟩ (.bool lk)).setCell ⟨ub, 7, none⟩ (.slice uo un2 uc)).setCell ⟨ub, 8, none⟩ (.slice none 0 0)).setCell ⟨ub, 9, none⟩ (.slice none 0 0)).heap[ub]? = some (.cells #[.slice ro rn rc, .slice lo ln lc, .slice po pn pc, .slice fo fn' fc, .slice oo on' oc, .slice go gn gc, .bool lk, .slice uo un2 uc, .slice none 0 0, .slice none 0 0] 54) ∧ OwnK strE w9.heap.size ((((((((((wAezee.setCell ⟨ub, 0, none⟩ (.slice ro rn rc)).setCell ⟨ub, 1, none⟩ (.slice lo ln lc)).setCell ⟨ub, 2, none⟩ (.slice po pn pc)).setCell ⟨ub, 3, none⟩ (.slice fo fn' fc)).setCell ⟨ub, 4, none⟩ (.slice oo on' oc)).setCell ⟨ub, 5, none⟩ (.slice go gn gc)).setCell ⟨ub, 6, none⟩ (.bool lk)).setCell ⟨ub, 7, none⟩ (.slice uo un2 uc)).setCell ⟨ub, 8, none⟩ (.slice none 0 0)).setCell ⟨ub, 9, none⟩ (.slice none 0 0)) (.slice uo un2 uc) (uP p (qk, (qa1, qa2), (qb1, qb2), qw) R Lk) ∧ ub < ((((((((((wAezee.setCell ⟨ub, 0, none⟩ (.slice ro rn rc)).setCell ⟨ub, 1, none⟩ (.slice lo ln lc)).setCell ⟨ub, 2, none⟩ (.slice po pn pc)).setCell ⟨ub, 3, none⟩ (.slice fo fn' fc)).setCell ⟨ub, 4, none⟩ (.slice oo on' oc)).setCell ⟨ub, 5, none⟩ (.slice go gn gc)).setCell ⟨ub, 6, none⟩ (.bool lk)).setCell ⟨ub, 7, none⟩ (.slice uo un2 uc)).setCell ⟨ub, 8, none⟩ (.slice none 0 0)).setCell ⟨ub, 9, none⟩ (.slice none 0 0)).heap.size) := ⟨HKX1.out, HUL.out, h10.1, ownsRow_keeps' HQ8.out h10.2 (fun k hk e => by have e : k = ub := e; rw [e] at hk; exact own_ne HQ8.out HZU.out (by show 54 ≠ 9; decide) hk), lt_of_heap h10.1⟩
      clear h10 HZU HQ8 HUL hbu
      go_simp
      refine hK.out _ _ (HMK1.out _ HKX1.out) fun hHeld => ?_
      clear hK KK
      (try simp only [nz])
      clear x0 x1 x2 x3 x4 x5 x6 x7 x8 x9 y0 y1 y2 y3 y4 y5 y6 y7 y8 y9
      generalize ((((((((((wAezee.setCell ⟨ub, 0, none⟩ (.slice ro rn rc)).setCell ⟨ub, 1, none⟩ (.slice lo ln lc)).setCell ⟨ub, 2, none⟩ (.slice po pn pc)).setCell ⟨ub, 3, none⟩ (.slice fo fn' fc)).setCell ⟨ub, 4, none⟩ (.slice oo on' oc)).setCell ⟨ub, 5, none⟩ (.slice go gn gc)).setCell ⟨ub, 6, none⟩ (.bool lk)).setCell ⟨ub, 7, none⟩ (.slice uo un2 uc)).setCell ⟨ub, 8, none⟩ (.slice none 0 0)).setCell ⟨ub, 9, none⟩ (.slice none 0 0)) = wN at *
      refine wpAnyH_done (by kernel_rfl) ?_ _
      refine NoPanic.normal ?_
      clear hHeld HMK1
      clear HKX1
      go_wp2_with fail
      go_meet
      exact ⟨_, _, _, _, rfl, HN⟩
    case pB6 =>
     have hkE : KF wA (wA.alloc (.cells #[.slice none 0 0, .slice none 0 0, .slice none 0 0, .slice none 0 0, .slice none 0 0, .slice none 0 0, .bool false, .slice none 0 0, .slice none 0 0, .slice none 0 0] 54)) := (Keeps.refl _ _).alloc _
     have HZU : Hid ((wA.alloc (.cells #[.slice none 0 0, .slice none 0 0, .slice none 0 0, .slice none 0 0, .slice none 0 0, .slice none 0 0, .bool false, .slice none 0 0, .slice none 0 0, .slice none 0 0] 54)).heap[wA.heap.size]? = some (.cells #[.slice none 0 0, .slice none 0 0, .slice none 0 0, .slice none 0 0, .slice none 0 0, .slice none 0 0, .bool false, .slice none 0 0, .slice none 0 0, .slice none 0 0] 54)) := (MapKept.heap_alloc wA (.cells #[.slice none 0 0, .slice none 0 0, .slice none 0 0, .slice none 0 0, .slice none 0 0, .slice none 0 0, .bool false, .slice none 0 0, .slice none 0 0, .slice none 0 0] 54)).1
     have HUL : Hid (w9.heap.size ≤ wA.heap.size) := HKX1.out.size
     replace HKX1 := Lib.hid (HKX1.out.trans (hkE.mono (fun _ _ z => z.elim)))
     replace HXW := Lib.hid (HXW.out.keeps hkE (fun _ _ z => z))
     clear hkE
     go_simp
     refine hK.out _ _ (HMK1.out _ HKX1.out) fun hHeld => ?_
     clear hK KK
     (try simp only [nz])
     generalize (wA.alloc (.cells #[.slice none 0 0, .slice none 0 0, .slice none 0 0, .slice none 0 0, .slice none 0 0, .slice none 0 0, .bool false, .slice none 0 0, .slice none 0 0, .slice none 0 0] 54)) = wAz at *
     obtain ⟨ub, hub⟩ : ∃ ub, wA.heap.size = ub := ⟨_, rfl⟩
     (try simp only [hub])
     (try simp only [hub] at HZU HUL)
     clear hub
     refine on1 4 rfl fun KK hK => ?_
     have hlo : bf ≤ wAz.heap.size := by have := HKX1.out.size; have := HB9.out; omega
     refine step_app_k (E := strE) rfl (.tmp 36) (.tmp 38) rfl bf xv (uF p (qk, (qa1, qa2), (qb1, qb2), qw) R Lk) (by simp [Act.eval, Act.put] <;> rfl) HXW.out _ (uV p R Lk) (by simp [Act.eval, Act.put] <;> rfl) (HVP.out _ HKX1.out) (by have := HXL.out; omega) hlo ?_
     intro v6 wAze ho hk
     replace HKX1 := Lib.hid (HKX1.out.trans (hk.mono (fun q _ hq => own_block HXW.out q hq)))
     have HX2 : Hid (OwnK strE bf wAze v6 ((uF p (qk, (qa1, qa2), (qb1, qb2), qw) R Lk) ++ (uV p R Lk))) := ho
     replace HZU := Lib.hid ((hk.block _ (lt_of_heap HZU.out) (own_ne HXW.out HZU.out (by show 54 ≠ 9; decide))).trans HZU.out)
     clear hk ho hlo HXW
     (try go_simp)
     refine hK.out _ _ (HMK1.out _ HKX1.out) fun hHeld => ?_
     clear hK KK
     (try simp only [nz])
     refine on1 5 rfl fun KK hK => ?_
     have HNW2 := Lib.hid (names_new (ownK_str.1 HX2.out).reads (by rw [List.length_append]; have := HXL.out; omega))
     go_simp
     refine HNW2.out.mono ?_
     rintro e wAzee ⟨tp2, rfl, hk⟩
     replace HKX1 := Lib.hid (HKX1.out.trans (hk.out.1.mono (fun _ _ z => z.elim)))
     have HT : Hid (Tab wAzee tp2 (uP p (qk, (qa1, qa2), (qb1, qb2), qw) R Lk)) := hk.out.2
     replace HZU := Lib.hid ((hk.out.1.block _ (lt_of_heap HZU.out) (fun x => x)).trans HZU.out)
     clear hk HNW2 HX2
     go_simp
     refine hK.out _ _ (HMK1.out _ HKX1.out) fun hHeld => ?_
     clear hK KK
     (try simp only [nz])
     refine on1 6 rfl fun KK hK => ?_
     have hpl : (uP p (qk, (qa1, qa2), (qb1, qb2), qw) R Lk).length ≤ 32 := by unfold uP; refine Nat.le_trans (tab_len _) ?_; rw [List.length_append]; have := HXL.out; omega
     have HNA := Lib.hid (names_all HT.out (by omega))
     have hsz9 := HKX1.out.size
     go_simp
     refine HNA.out.mono ?_
     rintro e wAzeee ⟨v8, rfl, hk⟩
     replace HKX1 := Lib.hid (HKX1.out.trans (hk.out.1.mono (fun _ _ z => z.elim)))
     have HQ8 : Hid (OwnK strE w9.heap.size wAzeee v8 (uP p (qk, (qa1, qa2), (qb1, qb2), qw) R Lk)) := (ownK_str.2 hk.out.2).base hsz9
     obtain ⟨uo, uc, hq8, _⟩ := id HQ8.out.reads
     obtain ⟨un2, hun2⟩ : ∃ n : Nat, v8 = .slice uo n uc := ⟨_, hq8⟩
     clear hq8
     subst hun2
     replace HZU := Lib.hid ((hk.out.1.block _ (lt_of_heap HZU.out) (fun x => x)).trans HZU.out)
     clear hk HNA HT hpl hsz9
     go_simp
     refine hK.out _ _ (HMK1.out _ HKX1.out) fun hHeld => ?_
     clear hK KK
     refine tk 7 rfl hHeld ?_
     (try simp only [nz])
     refine on1 9 rfl fun KK hK => ?_
     have h10 := set10 HZU.out (u0 := .slice ro rn rc) (u1 := .slice lo ln lc) (u2 := .slice po pn pc) (u3 := .slice fo fn' fc) (u4 := .slice oo on' oc) (u5 := .slice go gn gc) (u6 := .bool lk) (u7 := .slice uo un2 uc) (u8 := .slice none 0 0) (u9 := .slice none 0 0)
     obtain ⟨x0, y0, x1, y1, x2, y2, x3, y3, x4, y4, x5, y5, x6, y6, x7, y7, x8, y8, x9, y9⟩ := cf10 HZU.out
     have hbu : bf ≤ ub := by have := HUL.out; have := HB9.out; omega
     replace HKX1 := Lib.hid (HKX1.out.trans (h10.2.mono (fun q _ e => by have e : q = ub := e; show bf ≤ q; omega)))
     have HN : Hid (Keeps (fun q => bf ≤ q) w9 ((((((((((wAzeee.setCell ⟨ub, 0, none⟩ (.slice ro rn rc)).setCell ⟨ub, 1, none⟩ (.slice lo ln lc)).setCell ⟨ub, 2, none⟩ (.slice po pn pc)).setCell ⟨ub, 3, none⟩ (.slice fo fn' fc)).setCell ⟨ub, 4, none⟩ (.slice oo on' oc)).setCell ⟨ub, 5, none⟩ (.slice go gn gc)).setCell ⟨ub, 6, none⟩ (.bool lk)).setCell ⟨ub, 7, none⟩ (.slice uo un2 uc)).setCell ⟨ub, 8, none⟩ (.slice none 0 0)).setCell ⟨ub, 9, none⟩ (.slice none 0 0)) ∧ w9.heap.size ≤ ub ∧ ((((((((((wAzeee.setCell ⟨ub, 0, none⟩ (.slice ro rn rc)).setCell ⟨ub, 1, none⟩ (.slice lo ln lc)).setCell ⟨ub, 2, none⟩ (.slice po pn pc)).setCell ⟨ub, 3, none⟩ (.slice fo fn' fc)).setCell ⟨ub, 4, none⟩ (.slice oo on' oc)).setCell ⟨ub, 5, none⟩ (.slice go gn gc)).setCell ⟨ub, 6, none⟩ (.bool lk)).setCell ⟨ub, 7, none⟩ (.slice uo un2 uc)).setCell ⟨ub, 8, none⟩ (.slice none 0 0)).setCell ⟨ub, 9, none⟩ (.slice none 0 0)).heap[ub]? = some (.cells #[.slice ro rn rc, .slice lo ln lc, .slice po pn pc, .slice fo fn' fc, .slice oo on' oc, .slice go gn gc, .bool lk, .slice uo un2 uc, .slice none 0 0, .slice none 0 0] 54) ∧ OwnK strE w9.heap.size ((((((((((wAzeee.setCell ⟨ub, 0, none⟩ (.slice ro rn rc)).setCell ⟨ub, 1, none⟩ (.slice lo ln lc)).setCell ⟨ub, 2, none⟩ (.slice po pn pc)).setCell ⟨ub, 3, none⟩ (.slice fo fn' fc)).setCell ⟨ub, 4, none⟩ (.slice oo on' oc)).setCell ⟨ub, 5, none⟩ (.slice go gn gc)).setCell ⟨ub, 6, none⟩ (.bool lk)).setCell ⟨ub, 7, none⟩ (.slice uo un2 uc)).setCell ⟨ub, 8, none⟩ (.slice none 0 0)).setCell ⟨ub, 9, none⟩ (.slice none 0 0)) (.slice uo un2 uc) (uP p (qk, (qa1, qa2), (qb1, qb2), qw) R Lk) ∧ ub < ((((((((((wAzeee.setCell ⟨ub, 0, none⟩ (.slice ro rn rc)).setCell ⟨ub, 1, none⟩ (.slice lo ln lc)).setCell ⟨ub, 2, none⟩ (.slice po pn pc)).setCell ⟨ub, 3, none⟩ (.slice fo fn' fc)).setCell ⟨ub, 4, none⟩ (.slice oo on' oc)).setCell ⟨ub, 5, none⟩ (.slice go gn gc)).setCell ⟨ub, 6, none⟩ (.bool lk)).setCell ⟨ub, 7, none⟩ (.slice uo un2 uc)).setCell ⟨ub, 8, none⟩ (.slice none 0 0)).setCell ⟨ub, 9, none⟩ (.slice none 0 0)).heap.size) := ⟨HKX1.out, HUL.out, h10.1, ownsRow_keeps' HQ8.out h10.2 (fun k hk e => by have e : k = ub := e; rw [e] at hk; exact own_ne HQ8.out HZU.out (by show 54 ≠ 9; decide) hk), lt_of_heap h10.1⟩
     clear h10 HZU HQ8 HUL hbu
     go_simp
     refine hK.out _ _ (HMK1.out _ HKX1.out) fun hHeld => ?_
     clear hK KK
     (try simp only [nz])
     clear x0 x1 x2 x3 x4 x5 x6 x7 x8 x9 y0 y1 y2 y3 y4 y5 y6 y7 y8 y9
     generalize ((((((((((wAzeee.setCell ⟨ub, 0, none⟩ (.slice ro rn rc)).setCell ⟨ub, 1, none⟩ (.slice lo ln lc)).setCell ⟨ub, 2, none⟩ (.slice po pn pc)).setCell ⟨ub, 3, none⟩ (.slice fo fn' fc)).setCell ⟨ub, 4, none⟩ (.slice oo on' oc)).setCell ⟨ub, 5, none⟩ (.slice go gn gc)).setCell ⟨ub, 6, none⟩ (.bool lk)).setCell ⟨ub, 7, none⟩ (.slice uo un2 uc)).setCell ⟨ub, 8, none⟩ (.slice none 0 0)).setCell ⟨ub, 9, none⟩ (.slice none 0 0)) = wN at *
     refine wpAnyH_done (by kernel_rfl) ?_ _
     refine NoPanic.normal ?_
     clear hHeld HMK1
     clear HKX1
     go_wp2_with fail
     go_meet
     exact ⟨_, _, _, _, rfl, HN⟩
   case rest =>
    obtain ⟨ub, uo, un2, uc, rfl, HN⟩ := hcut
    have hb := HBF.out
    have hub := HN.out.2.1
    have hb9 := HB9.out
    have HKC : Hid (KF W wc) := HK9.out.trans_new HN.out.1 (fun q hq e => by have e : bf ≤ q := e; omega)
    have HVC := Lib.hid (((HN.out.1).block _ (lt_of_heap HV9.out) (fun e => by have e : bf ≤ vb := e; omega)).trans HV9.out)
    have HPC := Lib.hid (((HN.out.1).block _ (lt_of_heap HP9.out) (fun e => by have e : bf ≤ pb := e; omega)).trans HP9.out)
    have HZC := Lib.hid (((HN.out.1).block _ (lt_of_heap HZ9.out) (fun e => by have e : bf ≤ zb := e; omega)).trans HZ9.out)
    have HVW : Hid (ViewAt WC.heap.size wc (.slice ro rn rc) (.slice lo ln lc) (.slice po pn pc) (.slice fo fn' fc) (.slice oo on' oc) (.slice go gn gc) lk p (qk, (qa1, qa2), (qb1, qb2), qw) R Lk) := HVK.out wc HN.out.1
    have HU := Lib.hid HN.out.2.2.1
    have HPP : Hid (OwnK strE (vb + 1) wc (.slice uo un2 uc) (uP p (qk, (qa1, qa2), (qb1, qb2), qw) R Lk)) := HN.out.2.2.2.1.base (by omega)
    have HSZ : Hid (W.heap.size < vb + 1 ∧ pb < vb ∧ zb < vb ∧ vb < ub ∧ WC.heap.size ≤ vb ∧ ub < wc.heap.size) := ⟨by have := HORD.out; have := HOR2.out; omega, by have := HORD.out; have := HOR2.out; omega, by have := HORD.out; have := HOR2.out; omega, by omega, HOR2.out.2, HN.out.2.2.2.2⟩
    have HPL : Hid ((uP p (qk, (qa1, qa2), (qb1, qb2), qw) R Lk).length ≤ 32) := by show _ ≤ _; unfold uP; refine Nat.le_trans (tab_len _) ?_; rw [List.length_append]; have := HXL.out; omega
    have hst := HPH.out.1.into HKC.out (fun _ _ _ x => x) (fun _ _ x => x)
    have HCL := Lib.hid (cloneM_spec hst.1 (by have := HLN.out.1; omega))
    obtain ⟨x0, y0, x1, y1, x2, y2, x3, y3⟩ := cf4 HPC.out
    clear y0 y1 y2 y3 hst hb hub hb9 HN HK9 HV9 HP9 HZ9 HVW9 HXF HXW HVK HVP HXL HB9 HB8 HBF
    go_wp2_with fail
    refine HCL.out.mono ?_
    rintro e k1w ⟨cv, rfl, hk⟩
    clear HCL x0 x1 x2 x3
    have HK1 := Lib.hid (HKC.out.trans hk.out.1)
    have HV1 := Lib.hid (((hk.out.1).block _ (lt_of_heap HVC.out) (fun x => x)).trans HVC.out)
    have HP1 := Lib.hid (((hk.out.1).block _ (lt_of_heap HPC.out) (fun x => x)).trans HPC.out)
    have HZ1 := Lib.hid (((hk.out.1).block _ (lt_of_heap HZC.out) (fun x => x)).trans HZC.out)
    have HU1 := Lib.hid (((hk.out.1).block _ (lt_of_heap HU.out) (fun x => x)).trans HU.out)
    have HVW1 := Lib.hid (HVW.out.keeps hk.out.1 (fun _ _ z => z))
    have HPP1 := Lib.hid (HPP.out.keeps hk.out.1 (fun _ _ z => z))
    have HCO : Hid (OwnK stmE wc.heap.size k1w cv p.1) := hk.out.2
    have hsz1 := HSZ.out
    have hcob : ∀ k, cv.ownBlock = some k → wc.heap.size ≤ k := fun k e => own_block HCO.out k e
    have HDL := Lib.hid (mdel_own (cb := vb) (fn := 71) (del := fun y => hasV R Lk y.1) HCO.out (by have := HLN.out.1; omega) (fun _ _ => rfl) (fun y w hkw => by
     have hkb : ∀ k, WC.heap.size ≤ k → k < wc.heap.size → ¬ cv.ownBlock = some k := fun k _ h2 e => by have := hcob k e; omega
     have hvb := (hkw.block vb (lt_of_heap HV1.out) (fun e => by have := hcob vb e; omega)).trans HV1.out
     have r1 : OwnK rolE WC.heap.size w (.slice ro rn rc) R := ownsRow_keeps' HVW1.out.rR hkw (fun k hk2 e => by have := own_lt HVW.out.rR k hk2; have := hcob k e; omega)
     have r2 : OwnK strE WC.heap.size w (.slice lo ln lc) Lk := ownsRow_keeps' HVW1.out.rL hkw (fun k hk2 e => by have := own_lt HVW.out.rL k hk2; have := hcob k e; omega)
     exact ucl1_spec hvb r1.reads (ownK_str.1 r2).reads (by have := HNN.out.1; omega) (by have := HNN.out.2.1; omega) y))
    have HVL : Hid (∀ w, Keeps (fun q => cv.ownBlock = some q) k1w w → ViewAt WC.heap.size w (.slice ro rn rc) (.slice lo ln lc) (.slice po pn pc) (.slice fo fn' fc) (.slice oo on' oc) (.slice go gn gc) lk p (qk, (qa1, qa2), (qb1, qb2), qw) R Lk) := fun w hkw => HVW.out.stay (bf := wc.heap.size) (Nat.le_refl _) hk.out.1 (hkw.mono (fun q _ e => hcob q e))
    have HPL2 : Hid (∀ w, Keeps (fun q => cv.ownBlock = some q) k1w w → OwnK strE (vb + 1) w (.slice uo un2 uc) (uP p (qk, (qa1, qa2), (qb1, qb2), qw) R Lk)) := fun w hkw => ownsRow_keeps' HPP1.out hkw (fun k hk2 e => by have := own_lt HPP.out k hk2; have := hcob k e; omega)
    go_wp2_with fail
    refine HDL.out.mono ?_
    rintro e k2w ⟨dv, rfl, hd⟩
    have HK2 : Hid (KF W k2w) := HK1.out.trans_new hd.out.2 (fun q hq e => by have := hcob q e; omega)
    have HV2 := Lib.hid (((hd.out.2).block _ (lt_of_heap HV1.out) (fun e => by have := hcob vb e; omega)).trans HV1.out)
    have HP2 := Lib.hid (((hd.out.2).block _ (lt_of_heap HP1.out) (fun e => by have := hcob pb e; omega)).trans HP1.out)
    have HZ2 := Lib.hid (((hd.out.2).block _ (lt_of_heap HZ1.out) (fun e => by have := hcob zb e; omega)).trans HZ1.out)
    have HU2 := Lib.hid (((hd.out.2).block _ (lt_of_heap HU1.out) (fun e => by have := hcob ub e; omega)).trans HU1.out)
    have HVW2 := Lib.hid (HVL.out k2w hd.out.2)
    have HPP2 := Lib.hid (HPL2.out k2w hd.out.2)
    have HAV : Hid (RdX stmE k2w dv (uBase p.1 R Lk) (fun k => wc.heap.size ≤ k)) := hd.out.1
    obtain ⟨d0, dc, hdv, _⟩ := id HAV.out.1.1
    obtain ⟨dn, hdn⟩ : ∃ n : Nat, dv = .slice d0 n dc := ⟨_, hdv⟩
    clear hdv hd hk hsz1 hcob HDL HCO HVL HPL2 HK1 HV1 HP1 HZ1 HU1 HVW1 HPP1 HKC HVC HPC HZC HU HVW HPP
    subst hdn
    obtain ⟨m9, n9⟩ : k2w.cell? ⟨ub, 9, none⟩ = some (.slice none 0 0) ∧ k2w.frozen? ⟨ub, 9, none⟩ = false := ⟨by rw [cell_of_heap HU2.out]; rfl, Lib.frozen_of_heap HU2.out 9⟩
    have kS : Keeps (fun q => q = ub) k2w (k2w.setCell ⟨ub, 9, none⟩ (.slice d0 dn dc)) := Keeps.setCell (S := fun q => q = ub) (Keeps.refl _ _) (p := ⟨ub, 9, none⟩) (fun _ => rfl) _
    have hs := HSZ.out
    have HK3 : Hid (KF W (k2w.setCell ⟨ub, 9, none⟩ (.slice d0 dn dc))) := HK2.out.trans_new kS (fun q hq e => by have e : q = ub := e; omega)
    have HV3 := Lib.hid (((kS).block _ (lt_of_heap HV2.out) (by show ¬ _ = _; omega)).trans HV2.out)
    have HP3 := Lib.hid (((kS).block _ (lt_of_heap HP2.out) (by show ¬ _ = _; omega)).trans HP2.out)
    have HZ3 := Lib.hid (((kS).block _ (lt_of_heap HZ2.out) (by show ¬ _ = _; omega)).trans HZ2.out)
    have HU3 : Hid ((k2w.setCell ⟨ub, 9, none⟩ (.slice d0 dn dc)).heap[ub]? = some (.cells #[.slice ro rn rc, .slice lo ln lc, .slice po pn pc, .slice fo fn' fc, .slice oo on' oc, .slice go gn gc, .bool lk, .slice uo un2 uc, .slice none 0 0, .slice d0 dn dc] 54)) := heap_set HU2.out 9 _
    have HVW3 : Hid (ViewAt WC.heap.size (k2w.setCell ⟨ub, 9, none⟩ (.slice d0 dn dc)) (.slice ro rn rc) (.slice lo ln lc) (.slice po pn pc) (.slice fo fn' fc) (.slice oo on' oc) (.slice go gn gc) lk p (qk, (qa1, qa2), (qb1, qb2), qw) R Lk) := HVW2.out.off HU2.out (by decide) (by decide) (by decide) kS
    have HPP3 : Hid (OwnK strE (vb + 1) (k2w.setCell ⟨ub, 9, none⟩ (.slice d0 dn dc)) (.slice uo un2 uc) (uP p (qk, (qa1, qa2), (qb1, qb2), qw) R Lk)) := own_off HPP2.out HU2.out (by show 54 ≠ 9; decide) kS
    have HAV3 : Hid (RdX stmE (k2w.setCell ⟨ub, 9, none⟩ (.slice d0 dn dc)) (.slice d0 dn dc) (uBase p.1 R Lk) (fun k => wc.heap.size ≤ k)) := HAV.out.into kS (fun q hq hp e => by have e : q = ub := e; have hp : wc.heap.size ≤ q := hp; omega) (fun _ _ x => x)
    clear kS hs HK2 HV2 HP2 HZ2 HU2 HVW2 HPP2 HAV
    go_upto_region 11 with fail
    clear m9 n9
    generalize (k2w.setCell ⟨ub, 9, none⟩ (.slice d0 dn dc)) = k3w at *
    have hmul : (uP p (qk, (qa1, qa2), (qb1, qb2), qw) R Lk).length * Lk.length ≤ 32 * 30 := Nat.mul_le_mul HPL.out HNN.out.2.1
    have HRO := Lib.hid (uroles_spec (po := po) (fo := fo) (oo := oo) (so := go) (pn := pn) (pc := pc) (fn := fn') (fc := fc) (on := on') (oc := oc) (sn := gn) (sc := gc) (lk := lk) (bo := none) (bn := 0) (bc := 0) (ao := d0) (an := dn) (ac := dc) HVW3.out.rR.src (ownK_str.1 HVW3.out.rL).reads (ownK_str.1 HPP3.out).reads (by have := HNN.out; omega) (by have := HPL.out; omega))
    have HRL : Hid ((uRoles R (uP p (qk, (qa1, qa2), (qb1, qb2), qw) R Lk) Lk).length ≤ 1100) := by have := uFree_len p.2.1 R (uP p (qk, (qa1, qa2), (qb1, qb2), qw) R Lk) Lk; have := HNN.out; show _ ≤ _; omega
    clear hmul
    obtain ⟨x0, y0, x1, y1, x2, y2, x3, y3, x4, y4, x5, y5, x6, y6, x7, y7, x8, y8, x9, y9⟩ := cf10 HU3.out
    clear y0 y1 y2 y3 y4 y5 y6 y7 y8 y9
    go_wp2_with fail
    refine HRO.out.mono ?_
    rintro e k4w ⟨rv, rfl, hk⟩
    clear HRO x0 x1 x2 x3 x4 x5 x6 x7 x8 x9
    have HK4 := Lib.hid (HK3.out.trans hk.out.1)
    have HV4 := Lib.hid (((hk.out.1).block _ (lt_of_heap HV3.out) (fun x => x)).trans HV3.out)
    have HP4 := Lib.hid (((hk.out.1).block _ (lt_of_heap HP3.out) (fun x => x)).trans HP3.out)
    have HZ4 := Lib.hid (((hk.out.1).block _ (lt_of_heap HZ3.out) (fun x => x)).trans HZ3.out)
    have HU4 := Lib.hid (((hk.out.1).block _ (lt_of_heap HU3.out) (fun x => x)).trans HU3.out)
    have HVW4 := Lib.hid (HVW3.out.keeps hk.out.1 (fun _ _ z => z))
    have HPP4 := Lib.hid (HPP3.out.keeps hk.out.1 (fun _ _ z => z))
    have HAV4 := Lib.hid (HAV3.out.into hk.out.1 (fun _ _ _ z => z) (fun _ _ x => x))
    have HCO : Hid (OwnK rolE k3w.heap.size k4w rv (uRoles R (uP p (qk, (qa1, qa2), (qb1, qb2), qw) R Lk) Lk)) := hk.out.2
    have hcob : ∀ k, rv.ownBlock = some k → k3w.heap.size ≤ k := fun k e => own_block HCO.out k e
    have hlu := lt_of_heap HU3.out
    have hlv := lt_of_heap HV3.out
    have hlp := lt_of_heap HP3.out
    have hlz := lt_of_heap HZ3.out
    have hs := HSZ.out
    have hgr := HPH.out.2.1.into HK4.out (fun _ _ _ x => x) (fun _ _ x => x)
    have hgl := HLN.out
    have HDL := Lib.hid (rdel_own (cb := pb) (fn := 75) (del := fun y => decide (y ∈ p.2.1)) HCO.out (by have := HRL.out; omega) (fun _ _ => rfl) (fun y w hkw => by
     have hpb := (hkw.block pb (lt_of_heap HP4.out) (fun e => by have := hcob pb e; omega)).trans HP4.out
     have hg2 := HPH.out.2.1.into (HK4.out.trans_new hkw (fun q hq e => by have := hcob q e; have := HK3.out.size; omega)) (fun _ _ _ x => x) (fun _ _ x => x)
     exact ucl2_spec hpb hg2.1.1 (by omega) y))
    have HVL : Hid (∀ w, Keeps (fun q => rv.ownBlock = some q) k4w w → ViewAt WC.heap.size w (.slice ro rn rc) (.slice lo ln lc) (.slice po pn pc) (.slice fo fn' fc) (.slice oo on' oc) (.slice go gn gc) lk p (qk, (qa1, qa2), (qb1, qb2), qw) R Lk) := fun w hkw => HVW3.out.stay (bf := k3w.heap.size) (Nat.le_refl _) hk.out.1 (hkw.mono (fun q _ e => hcob q e))
    have HPL2 : Hid (∀ w, Keeps (fun q => rv.ownBlock = some q) k4w w → OwnK strE (vb + 1) w (.slice uo un2 uc) (uP p (qk, (qa1, qa2), (qb1, qb2), qw) R Lk)) := fun w hkw => ownsRow_keeps' HPP4.out hkw (fun k hk2 e => by have := own_lt HPP3.out k hk2; have := hcob k e; omega)
    have HAL2 : Hid (∀ w, Keeps (fun q => rv.ownBlock = some q) k4w w → RdX stmE w (.slice d0 dn dc) (uBase p.1 R Lk) (fun k => wc.heap.size ≤ k)) := fun w hkw => by
     have q0 : RdX stmE k4w (.slice d0 dn dc) (uBase p.1 R Lk) (fun k => wc.heap.size ≤ k ∧ k < k3w.heap.size) := HAV3.out.into hk.out.1 (fun _ _ _ z => z) (fun k h1 h2 => ⟨h2, h1⟩)
     exact q0.into hkw (fun q hq hp e => by have := hcob q e; have := hp.2; omega) (fun _ _ x => x.1)
    clear hgr
    go_wp2_with fail
    refine HDL.out.mono ?_
    rintro e k5w ⟨fr, rfl, hd⟩
    have HK5 : Hid (KF W k5w) := HK4.out.trans_new hd.out.2 (fun q hq e => by have := hcob q e; have := HK3.out.size; omega)
    have HV5 := Lib.hid (((hd.out.2).block _ (lt_of_heap HV4.out) (fun e => by have := hcob vb e; omega)).trans HV4.out)
    have HP5 := Lib.hid (((hd.out.2).block _ (lt_of_heap HP4.out) (fun e => by have := hcob pb e; omega)).trans HP4.out)
    have HZ5 := Lib.hid (((hd.out.2).block _ (lt_of_heap HZ4.out) (fun e => by have := hcob zb e; omega)).trans HZ4.out)
    have HU5 := Lib.hid (((hd.out.2).block _ (lt_of_heap HU4.out) (fun e => by have := hcob ub e; omega)).trans HU4.out)
    have HVW5 := Lib.hid (HVL.out k5w hd.out.2)
    have HPP5 := Lib.hid (HPL2.out k5w hd.out.2)
    have HAV5 := Lib.hid (HAL2.out k5w hd.out.2)
    have HFR : Hid (RdK rolE k5w fr (uFr p (qk, (qa1, qa2), (qb1, qb2), qw) R Lk)) := hd.out.1.1.1
    obtain ⟨fo2, fc2, hfv, hfle, _⟩ := id HFR.out
    obtain ⟨nf2, hnf⟩ : ∃ n, (uFr p (qk, (qa1, qa2), (qb1, qb2), qw) R Lk).length = n := ⟨_, rfl⟩
    rw [hnf] at hfv hfle
    have HNF := Lib.hid hnf
    have hnfm : nf2 ≤ 1100 := by rw [← hnf]; exact Nat.le_trans (List.length_filter_le _ _) HRL.out
    clear hd hk hlu hlv hlp hlz hs hgl hcob hnf hfle HDL HCO HVL HPL2 HAL2 HK3 HV3 HP3 HZ3 HU3 HVW3 HPP3 HAV3 HK4 HV4 HP4 HZ4 HU4 HVW4 HPP4 HAV4 HRL
    subst hfv
    by_cases h61 : 61 < nf2
    case pos =>
     have h61I : (61 : Int) < (nf2 : Int) := by omega
     have HBIG : Hid (61 < (uFr p (qk, (qa1, qa2), (qb1, qb2), qw) R Lk).length) := by rw [HNF.out]; exact h61
     obtain ⟨x0, y0, x1, y1, x2, y2, x3, y3, x4, y4, x5, y5, x6, y6, x7, y7, x8, y8, x9, y9⟩ := cf10 HZ5.out
     have HWHY : Hid (UWhy 5 p (qk, (qa1, qa2), (qb1, qb2), qw)) := .inr ⟨HA.out, R, Lk, HWY.out.1, HWY.out.2, .inr ⟨rfl, by rw [HUQ.out]; exact hn0, .inl HBIG.out⟩⟩
     go_wp2_with fail
     have h10 := set10 HZ5.out (u0 := .slice none 0 0) (u1 := .slice none 0 0) (u2 := .slice none 0 0) (u3 := .slice none 0 0) (u4 := .slice none 0 0) (u5 := .slice none 0 0) (u6 := .bool false) (u7 := .slice none 0 0) (u8 := .slice none 0 0) (u9 := .slice none 0 0)
     clear x0 x1 x2 x3 x4 x5 x6 x7 x8 x9 y0 y1 y2 y3 y4 y5 y6 y7 y8 y9
     generalize ((((((((((k5w.setCell ⟨zb, 0, none⟩ (.slice none 0 0)).setCell ⟨zb, 1, none⟩ (.slice none 0 0)).setCell ⟨zb, 2, none⟩ (.slice none 0 0)).setCell ⟨zb, 3, none⟩ (.slice none 0 0)).setCell ⟨zb, 4, none⟩ (.slice none 0 0)).setCell ⟨zb, 5, none⟩ (.slice none 0 0)).setCell ⟨zb, 6, none⟩ (.bool false)).setCell ⟨zb, 7, none⟩ (.slice none 0 0)).setCell ⟨zb, 8, none⟩ (.slice none 0 0)).setCell ⟨zb, 9, none⟩ (.slice none 0 0)) = w9 at *
     have HE : Hid (KF W w9) := HK5.out.trans_new h10.2 (fun k hk e => by have e : k = zb := e; have := HORD.out; omega)
     obtain ⟨x0, y0, x1, y1, x2, y2, x3, y3, x4, y4, x5, y5, x6, y6, x7, y7, x8, y8, x9, y9⟩ := cf10 h10.1
     clear h10
     refine bodyPost_ret (v := .tuple #[.agg #[.slice none 0 0, .slice none 0 0, .slice none 0 0, .slice none 0 0, .slice none 0 0, .slice none 0 0, .bool false, .slice none 0 0, .slice none 0 0, .slice none 0 0], .int .i64 5]) (by simp [results, Tryz.results32, go_sem, *]) rfl ?_
     exact ⟨HE.out, .inl ⟨5, by decide, rfl, HWHY.out⟩⟩
    case neg =>
     have hnI : ¬ (61 : Int) < (nf2 : Int) := by omega
     have hmm : (uFr p (qk, (qa1, qa2), (qb1, qb2), qw) R Lk).length * (uP p (qk, (qa1, qa2), (qb1, qb2), qw) R Lk).length ≤ 61 * 32 := Nat.mul_le_mul (by rw [HNF.out]; omega) HPL.out
     have HML : Hid ((uMem (uFr p (qk, (qa1, qa2), (qb1, qb2), qw) R Lk) (uP p (qk, (qa1, qa2), (qb1, qb2), qw) R Lk)).length ≤ 1952) := by have := uMem_len (uFr p (qk, (qa1, qa2), (qb1, qb2), qw) R Lk) (uP p (qk, (qa1, qa2), (qb1, qb2), qw) R Lk); show _ ≤ _; omega
     have HCM : Hid (∀ w, KF k5w w → Calls Tryz.prog 79 #[.slice fo2 nf2 fc2, .slice uo un2 uc] w fun e W' => ∃ v', e = .returned v' ∧ Hid (KF w W' ∧ OwnK stmE w.heap.size W' v' (uMem (uFr p (qk, (qa1, qa2), (qb1, qb2), qw) R Lk) (uP p (qk, (qa1, qa2), (qb1, qb2), qw) R Lk)))) := fun w hk => members_spec (HFR.out.keeps hk) ((ownK_str.1 HPP5.out).reads.keeps hk) (by have := HPL.out; omega) (by rw [HNF.out]; omega) (by have := HPL.out; omega)
     have hcf := cf7 HV5.out
     have q3 := hcf.2.2.2.2.2.2.1
     have q4 := hcf.2.2.2.2.2.2.2.2.1
     have q7 : k5w.cell? ⟨ub, 7, none⟩ = some (.slice uo un2 uc) := by rw [cell_of_heap HU5.out]; rfl
     clear hcf hmm hnfm
     go_upto_region 14 with fail
     have HMK30 : Hid (∀ w' : World, KF k5w w' → w'.cell? ⟨vb, 3, none⟩ = some (.slice fo fn' fc) ∧ w'.cell? ⟨vb, 4, none⟩ = some (.slice oo on' oc) ∧ w'.cell? ⟨ub, 7, none⟩ = some (.slice uo un2 uc)) := fun w' hk => ⟨kc hk q3, kc hk q4, kc hk q7⟩
     have HKX30 : Hid (KF k5w k5w.drew) := (Keeps.refl _ _).drew
     have hS0 := HMK30.out _ HKX30.out
     clear q3 q4 q7
     refine wp_region_noPanic ?_
     refine wp_region_held_drew (S := (fun w' => w'.cell? ⟨vb, 3, none⟩ = some (.slice fo fn' fc) ∧ w'.cell? ⟨vb, 4, none⟩ = some (.slice oo on' oc) ∧ w'.cell? ⟨ub, 7, none⟩ = some (.slice uo un2 uc))) (by kernel_rfl) hS0 (fun hHeld => ?_)
     clear hS0
     generalize k5w.drew = yA at *
     refine tk 0 rfl hHeld ?_
     refine tk 1 rfl hHeld ?_
     refine tk 2 rfl hHeld ?_
     (try simp only [nz])
     refine tk 3 rfl hHeld ?_
     refine tk 4 rfl hHeld ?_
     refine tk 6 rfl hHeld ?_
     (try simp only [nz])
     refine tk 7 rfl hHeld ?_
     (try simp only [nz])
     refine on1 5 rfl fun KK hK => ?_
     go_simp
     refine (HCM.out _ HKX30.out).mono ?_
     rintro e yB ⟨m1, rfl, hk⟩
     have HM1 := Lib.hid hk.out.2
     replace HKX30 := Lib.hid (HKX30.out.trans hk.out.1)
     clear hk 
     go_simp
     refine hK.out _ _ (HMK30.out _ HKX30.out) fun hHeld => ?_
     clear hK KK
     (try simp only [nz])
     have HMI := Lib.hid (sminus_spec HM1.out.reads (HVW5.out.rF.reads.keeps HKX30.out) (by have := HML.out; omega) (by have := HNN.out.2.2.2.1; omega))
     refine on1 8 rfl fun KK hK => ?_
     go_simp
     refine (HMI.out).mono ?_
     rintro e yC ⟨m2, rfl, hk⟩
     have HM2 := Lib.hid hk.out.2
     replace HKX30 := Lib.hid (HKX30.out.trans hk.out.1)
     clear hk 
     go_simp
     refine hK.out _ _ (HMK30.out _ HKX30.out) fun hHeld => ?_
     clear hK KK
     (try simp only [nz])
     have HUI := Lib.hid (sunion_spec (HVW5.out.rO.src.keeps HKX30.out) HM2.out.src (by have := HNN.out.2.2.2.2.1; omega) (by have := uMin_len (uMem (uFr p (qk, (qa1, qa2), (qb1, qb2), qw) R Lk) (uP p (qk, (qa1, qa2), (qb1, qb2), qw) R Lk)) (fixV p.2.1 p.2.2.1 p.1 R Lk); have := HML.out; have e : minL (uMem (uFr p (qk, (qa1, qa2), (qb1, qb2), qw) R Lk) (uP p (qk, (qa1, qa2), (qb1, qb2), qw) R Lk)) (fixV p.2.1 p.2.2.1 p.1 R Lk) = uMin (uMem (uFr p (qk, (qa1, qa2), (qb1, qb2), qw) R Lk) (uP p (qk, (qa1, qa2), (qb1, qb2), qw) R Lk)) (fixV p.2.1 p.2.2.1 p.1 R Lk) := rfl; rw [e]; omega))
     have HLBU : Hid (k5w.heap.size ≤ yC.heap.size) := HKX30.out.size
     refine on1 9 rfl fun KK hK => ?_
     go_simp
     refine (HUI.out).mono ?_
     rintro e yD ⟨m3, rfl, hk⟩
     have HM3 : Hid (OwnK stmE k5w.heap.size yD m3 (uB p (qk, (qa1, qa2), (qb1, qb2), qw) R Lk)) := hk.out.2.base HLBU.out
     obtain ⟨m3o, m3c, hm3, _⟩ := id HM3.out.reads
     obtain ⟨m3n, hm3n⟩ : ∃ n, (uB p (qk, (qa1, qa2), (qb1, qb2), qw) R Lk).length = n := ⟨_, rfl⟩
     rw [hm3n] at hm3
     have HNB := Lib.hid hm3n
     subst hm3
     clear hm3n
     replace HKX30 := Lib.hid (HKX30.out.trans hk.out.1)
     clear hk 
     go_simp
     refine hK.out _ _ (HMK30.out _ HKX30.out) fun hHeld => ?_
     clear hK KK
     refine tk 10 rfl hHeld ?_
     (try simp only [nz])
     have hU := (HKX30.out.block _ (lt_of_heap HU5.out) (fun x => x)).trans HU5.out
     obtain ⟨m8, n8⟩ : yD.cell? ⟨ub, 8, none⟩ = some (.slice none 0 0) ∧ yD.frozen? ⟨ub, 8, none⟩ = false := ⟨by rw [cell_of_heap hU]; rfl, Lib.frozen_of_heap hU 8⟩
     have kS : Keeps (fun q => q = ub) yD (yD.setCell ⟨ub, 8, none⟩ (.slice m3o m3n m3c)) := Keeps.setCell (S := fun q => q = ub) (Keeps.refl _ _) (p := ⟨ub, 8, none⟩) (fun _ => rfl) _
     have hs := HSZ.out
     have hlu := lt_of_heap HU5.out
     have hV := (HKX30.out.block _ (lt_of_heap HV5.out) (fun x => x)).trans HV5.out
     have hZ := (HKX30.out.block _ (lt_of_heap HZ5.out) (fun x => x)).trans HZ5.out
     have HK6 : Hid (KF W (yD.setCell ⟨ub, 8, none⟩ (.slice m3o m3n m3c))) := (HK5.out.trans HKX30.out).trans_new kS (fun q hq e => by have e : q = ub := e; omega)
     have HZ6 := Lib.hid ((kS.block _ (lt_of_heap hZ) (by show ¬ _ = _; omega)).trans hZ)
     have hV6 := (kS.block _ (lt_of_heap hV) (by show ¬ _ = _; omega)).trans hV
     have HU6 : Hid ((yD.setCell ⟨ub, 8, none⟩ (.slice m3o m3n m3c)).heap[ub]? = some (.cells #[.slice ro rn rc, .slice lo ln lc, .slice po pn pc, .slice fo fn' fc, .slice oo on' oc, .slice go gn gc, .bool lk, .slice uo un2 uc, .slice m3o m3n m3c, .slice d0 dn dc] 54)) := heap_set hU 8 _
     have HVW6 : Hid (ViewAt WC.heap.size (yD.setCell ⟨ub, 8, none⟩ (.slice m3o m3n m3c)) (.slice ro rn rc) (.slice lo ln lc) (.slice po pn pc) (.slice fo fn' fc) (.slice oo on' oc) (.slice go gn gc) lk p (qk, (qa1, qa2), (qb1, qb2), qw) R Lk) := (HVW5.out.keeps HKX30.out (fun _ _ z => z)).off hU (by decide) (by decide) (by decide) kS
     have HPP6 : Hid (OwnK strE (vb + 1) (yD.setCell ⟨ub, 8, none⟩ (.slice m3o m3n m3c)) (.slice uo un2 uc) (uP p (qk, (qa1, qa2), (qb1, qb2), qw) R Lk)) := own_off (HPP5.out.keeps HKX30.out (fun _ _ z => z)) hU (by show 54 ≠ 9; decide) kS
     have HAV6 : Hid (RdX stmE (yD.setCell ⟨ub, 8, none⟩ (.slice m3o m3n m3c)) (.slice d0 dn dc) (uBase p.1 R Lk) (fun k => wc.heap.size ≤ k)) := (HAV5.out.into HKX30.out (fun _ _ _ z => z) (fun _ _ x => x)).into kS (fun q hq hp e => by have e : q = ub := e; have hp : wc.heap.size ≤ q := hp; omega) (fun _ _ x => x)
     have HBV6 : Hid (OwnK stmE k5w.heap.size (yD.setCell ⟨ub, 8, none⟩ (.slice m3o m3n m3c)) (.slice m3o m3n m3c) (uB p (qk, (qa1, qa2), (qb1, qb2), qw) R Lk)) := own_off HM3.out hU (by show 54 ≠ 38; decide) kS
     have HZS : Hid (W.heap.size ≤ k5w.heap.size) := HK5.out.size
     refine on1 11 rfl fun KK hK => ?_
     go_simp
     refine hK.out _ _ (⟨by rw [cell_of_heap hV6]; rfl, by rw [cell_of_heap hV6]; rfl, by rw [cell_of_heap HU6.out]; rfl⟩) fun hHeld => ?_
     clear hK KK
     (try simp only [nz])
     clear m8 n8 kS hs hlu hV hZ hV6 hU
     generalize (yD.setCell ⟨ub, 8, none⟩ (.slice m3o m3n m3c)) = k6w at *
     refine wpAnyH_done (by kernel_rfl) ?_ _
     refine NoPanic.normal ?_
     clear hHeld HMK30 HKX30 HCM HM1 HMI HM2 HUI HM3 HLBU HK5 HV5 HP5 HZ5 HU5 HVW5 HPP5 HAV5 HFR
     obtain ⟨x0, y0, x1, y1, x2, y2, x3, y3, x4, y4, x5, y5, x6, y6, x7, y7, x8, y8, x9, y9⟩ := cf10 HU6.out
     clear y0 y1 y2 y3 y4 y5 y6 y7 y8 y9
     by_cases hb61 : 61 < m3n
     case pos =>
      have hb61I : (61 : Int) < (m3n : Int) := by omega
      have HBIG : Hid (61 < (uB p (qk, (qa1, qa2), (qb1, qb2), qw) R Lk).length) := by rw [HNB.out]; exact hb61
      go_upto_region 16 with fail
      clear x0 x1 x2 x3 x4 x5 x6 x7 x8 x9
      obtain ⟨x0, y0, x1, y1, x2, y2, x3, y3, x4, y4, x5, y5, x6, y6, x7, y7, x8, y8, x9, y9⟩ := cf10 HZ6.out
      have HWHY : Hid (UWhy 5 p (qk, (qa1, qa2), (qb1, qb2), qw)) := .inr ⟨HA.out, R, Lk, HWY.out.1, HWY.out.2, .inr ⟨rfl, by rw [HUQ.out]; exact hn0, .inr HBIG.out⟩⟩
      go_wp2_with fail
      have h10 := set10 HZ6.out (u0 := .slice none 0 0) (u1 := .slice none 0 0) (u2 := .slice none 0 0) (u3 := .slice none 0 0) (u4 := .slice none 0 0) (u5 := .slice none 0 0) (u6 := .bool false) (u7 := .slice none 0 0) (u8 := .slice none 0 0) (u9 := .slice none 0 0)
      clear x0 x1 x2 x3 x4 x5 x6 x7 x8 x9 y0 y1 y2 y3 y4 y5 y6 y7 y8 y9
      generalize ((((((((((k6w.setCell ⟨zb, 0, none⟩ (.slice none 0 0)).setCell ⟨zb, 1, none⟩ (.slice none 0 0)).setCell ⟨zb, 2, none⟩ (.slice none 0 0)).setCell ⟨zb, 3, none⟩ (.slice none 0 0)).setCell ⟨zb, 4, none⟩ (.slice none 0 0)).setCell ⟨zb, 5, none⟩ (.slice none 0 0)).setCell ⟨zb, 6, none⟩ (.bool false)).setCell ⟨zb, 7, none⟩ (.slice none 0 0)).setCell ⟨zb, 8, none⟩ (.slice none 0 0)).setCell ⟨zb, 9, none⟩ (.slice none 0 0)) = w9 at *
      have HE : Hid (KF W w9) := HK6.out.trans_new h10.2 (fun k hk e => by have e : k = zb := e; have := HORD.out; omega)
      obtain ⟨x0, y0, x1, y1, x2, y2, x3, y3, x4, y4, x5, y5, x6, y6, x7, y7, x8, y8, x9, y9⟩ := cf10 h10.1
      clear h10
      refine bodyPost_ret (v := .tuple #[.agg #[.slice none 0 0, .slice none 0 0, .slice none 0 0, .slice none 0 0, .slice none 0 0, .slice none 0 0, .bool false, .slice none 0 0, .slice none 0 0, .slice none 0 0], .int .i64 5]) (by simp [results, Tryz.results32, go_sem, *]) rfl ?_
      exact ⟨HE.out, .inl ⟨5, by decide, rfl, HWHY.out⟩⟩
     case neg =>
      have hb61I : ¬ (61 : Int) < (m3n : Int) := by omega
      obtain ⟨s0, t0, s1, t1, s2, t2, s3, t3, s4, t4, s5, t5, s6, t6, s7, t7, s8, t8, s9, t9⟩ := cf10 HZ6.out
      go_wp2_with fail
      have h10 := set10 HZ6.out (u0 := .slice ro rn rc) (u1 := .slice lo ln lc) (u2 := .slice po pn pc) (u3 := .slice fo fn' fc) (u4 := .slice oo on' oc) (u5 := .slice go gn gc) (u6 := .bool lk) (u7 := .slice uo un2 uc) (u8 := .slice m3o m3n m3c) (u9 := .slice d0 dn dc)
      clear x0 x1 x2 x3 x4 x5 x6 x7 x8 x9 s0 s1 s2 s3 s4 s5 s6 s7 s8 s9 t0 t1 t2 t3 t4 t5 t6 t7 t8 t9
      have hs := HSZ.out
      have ho := HORD.out
      have hz := HZS.out
      have HE : Hid (KF W (((((((((((k6w.setCell ⟨zb, 0, none⟩ (.slice ro rn rc)).setCell ⟨zb, 1, none⟩ (.slice lo ln lc)).setCell ⟨zb, 2, none⟩ (.slice po pn pc)).setCell ⟨zb, 3, none⟩ (.slice fo fn' fc)).setCell ⟨zb, 4, none⟩ (.slice oo on' oc)).setCell ⟨zb, 5, none⟩ (.slice go gn gc)).setCell ⟨zb, 6, none⟩ (.bool lk)).setCell ⟨zb, 7, none⟩ (.slice uo un2 uc)).setCell ⟨zb, 8, none⟩ (.slice m3o m3n m3c)).setCell ⟨zb, 9, none⟩ (.slice d0 dn dc))) ∧ UniAt W.heap.size (((((((((((k6w.setCell ⟨zb, 0, none⟩ (.slice ro rn rc)).setCell ⟨zb, 1, none⟩ (.slice lo ln lc)).setCell ⟨zb, 2, none⟩ (.slice po pn pc)).setCell ⟨zb, 3, none⟩ (.slice fo fn' fc)).setCell ⟨zb, 4, none⟩ (.slice oo on' oc)).setCell ⟨zb, 5, none⟩ (.slice go gn gc)).setCell ⟨zb, 6, none⟩ (.bool lk)).setCell ⟨zb, 7, none⟩ (.slice uo un2 uc)).setCell ⟨zb, 8, none⟩ (.slice m3o m3n m3c)).setCell ⟨zb, 9, none⟩ (.slice d0 dn dc))) (.slice ro rn rc) (.slice lo ln lc) (.slice po pn pc) (.slice fo fn' fc) (.slice oo on' oc) (.slice go gn gc) lk (.slice uo un2 uc) (.slice m3o m3n m3c) (.slice d0 dn dc) p (qk, (qa1, qa2), (qb1, qb2), qw) R Lk) := by
       refine ⟨HK6.out.trans_new h10.2 (fun k hk e => by have e : k = zb := e; omega), ?_⟩
       have z := HVW6.out.off HZ6.out (by decide) (by decide) (by decide) h10.2
       refine ⟨⟨z.way, z.shut, z.rR.base (by omega), z.rL.base (by omega), z.rP.base (by omega), z.rF.base (by omega), z.rO.base (by omega), z.rG.base (by omega), z.lk⟩, by rw [HUQ.out]; exact hn0, by rw [HNF.out]; omega, by rw [HNB.out]; omega, (own_off HPP6.out HZ6.out (by show 54 ≠ 9; decide) h10.2).base (by omega), (own_off HBV6.out HZ6.out (by show 54 ≠ 38; decide) h10.2).base (by omega), HAV6.out.into h10.2 (fun q hq hp e => by have e : q = zb := e; have hp : wc.heap.size ≤ q := hp; omega) (fun q _ hp => by have hp : wc.heap.size ≤ q := hp; show _ ≤ _; omega)⟩
      generalize ((((((((((k6w.setCell ⟨zb, 0, none⟩ (.slice ro rn rc)).setCell ⟨zb, 1, none⟩ (.slice lo ln lc)).setCell ⟨zb, 2, none⟩ (.slice po pn pc)).setCell ⟨zb, 3, none⟩ (.slice fo fn' fc)).setCell ⟨zb, 4, none⟩ (.slice oo on' oc)).setCell ⟨zb, 5, none⟩ (.slice go gn gc)).setCell ⟨zb, 6, none⟩ (.bool lk)).setCell ⟨zb, 7, none⟩ (.slice uo un2 uc)).setCell ⟨zb, 8, none⟩ (.slice m3o m3n m3c)).setCell ⟨zb, 9, none⟩ (.slice d0 dn dc)) = w9 at *
      obtain ⟨x0, y0, x1, y1, x2, y2, x3, y3, x4, y4, x5, y5, x6, y6, x7, y7, x8, y8, x9, y9⟩ := cf10 h10.1
      clear h10 hs ho hz
      refine bodyPost_ret (v := .tuple #[.agg #[.slice ro rn rc, .slice lo ln lc, .slice po pn pc, .slice fo fn' fc, .slice oo on' oc, .slice go gn gc, .bool lk, .slice uo un2 uc, .slice m3o m3n m3c, .slice d0 dn dc], .int .i64 0]) (by simp [results, Tryz.results32, go_sem, *]) rfl ?_
      exact ⟨HE.out.1, .inr ⟨HA.out, _, _, _, _, _, _, _, _, _, _, R, Lk, rfl, HE.out.2⟩⟩
end Go.Proofs.YtckikkkdabpjkaaGreat
