/-
 What of a policy a query hangs on: the program's.
-/
import Derived.Test.YtckikkkdabpjkaaGreatKitSq
import Derived.Test.YtckikkkdabpjkaaGreatRelevFin
import Derived.Test.YtckikkkdabpjkaaGreatPolAllP
set_option linter.unusedVariables false
set_option linter.unusedSimpArgs false
set_option linter.unnecessarySimpa false
namespace Go.Proofs.YtckikkkdabpjkaaGreat
open Go.ChangeShapes Go.WideShapes Go.ChangeAt Go.RowKit Go.Deep
/-- May it be asked? -/
def askB (p : Pol) (q : Qry) : Bool := qryRB q && decide (q.1 = 6) && polRB (p.1, p.2.1, p.2.2.1, [q])
theorem ask_who {q : Qry} (h : qryRB q = true) (hk : q.1 = 6) : q.2.2.2 = [] := by
 unfold qryRB at h
 rw [if_pos (show (5 : Int) ≤ q.1 by omega)] at h
 simp only [Bool.and_eq_true, decide_eq_true_eq] at h
 exact List.eq_nil_of_length_eq_zero h.2.2
theorem few_one {q x : Qry} (h : qryRB q = true) (hk : q.1 = 6) (hx : x ∈ [q]) : x.2.2.2.length ≤ 20 := by
 obtain rfl : x = q := by simpa using hx
 rw [ask_who h hk]
 simp
/-- A policy's first three rows. -/
def PolH (w : World) (v0 v1 v2 : Value) (p : Pol) (P : Nat → Prop) : Prop := RdX stmE w v0 p.1 P ∧ RdX rolE w v1 p.2.1 P ∧ RdX rolE w v2 p.2.2.1 P
theorem PolH.into {w w' : World} {v0 v1 v2 : Value} {p : Pol} {P P' : Nat → Prop} (h : PolH w v0 v1 v2 p P) {S : Nat → Prop} (hk : Keeps S w w') (hs : ∀ q, q < w.heap.size → P q → ¬ S q) (hp : ∀ q, q < w.heap.size → P q → P' q) : PolH w' v0 v1 v2 p P' :=
 ⟨h.1.into hk hs hp, h.2.1.into hk hs hp, h.2.2.into hk hs hp⟩
theorem one_ask {w : World} {v0 v1 v2 : Value} {p : Pol} {P : Nat → Prop} (h : PolH w v0 v1 v2 p P) {b : Nat} {q : Qry} {wo : Option Addr} {wn wc : Nat} (hq : RdX qE w (.slice (some ⟨b, 0, none⟩) 1 1) [(q.1, q.2.1, q.2.2.1, (wo, wn, wc))] (fun _ => True)) (hw : ReadsS w (.slice wo wn wc) q.2.2.2) (hl : ∀ k, (.slice wo wn wc : Value).ownBlock = some k → k < w.heap.size) : PolX w v0 v1 v2 (.slice (some ⟨b, 0, none⟩) 1 1) (p.1, p.2.1, p.2.2.1, [q]) (fun _ => True) :=
 ⟨h.1.into (Keeps.refl (fun _ => False) _) (fun _ _ _ x => x) (fun _ _ _ => trivial), h.2.1.into (Keeps.refl (fun _ => False) _) (fun _ _ _ x => x) (fun _ _ _ => trivial), h.2.2.into (Keeps.refl (fun _ => False) _) (fun _ _ _ x => x) (fun _ _ _ => trivial), _, rfl, hq, fun j q2 qv hj hv => by
  match j, hj, hv with
  | 0, hj, hv =>
   simp only [List.getElem?_cons_zero, Option.some.injEq] at hj hv
   subst hj
   subst hv
   exact ⟨rfl, rfl, rfl, hw, fun k hk => ⟨hl k hk, trivial⟩⟩
  | j + 1, hj, hv => simp at hj⟩
theorem set7 {w : World} {b : Nat} {T : TypeId} {t0 u0 t1 u1 t2 u2 t3 u3 t4 u4 t5 u5 t6 u6 : Value} (h : w.heap[b]? = some (.cells #[t0, t1, t2, t3, t4, t5, t6] T)) : ((((((((w.setCell ⟨b, 0, none⟩ (u0)).setCell ⟨b, 1, none⟩ (u1)).setCell ⟨b, 2, none⟩ (u2)).setCell ⟨b, 3, none⟩ (u3)).setCell ⟨b, 4, none⟩ (u4)).setCell ⟨b, 5, none⟩ (u5)).setCell ⟨b, 6, none⟩ (u6))).heap[b]? = some (.cells #[u0, u1, u2, u3, u4, u5, u6] T) ∧ Keeps (fun q => q = b) w (((((((w.setCell ⟨b, 0, none⟩ (u0)).setCell ⟨b, 1, none⟩ (u1)).setCell ⟨b, 2, none⟩ (u2)).setCell ⟨b, 3, none⟩ (u3)).setCell ⟨b, 4, none⟩ (u4)).setCell ⟨b, 5, none⟩ (u5)).setCell ⟨b, 6, none⟩ (u6)) := by
 have k : ∀ (w : World) (i : Nat) (u : Value), Keeps (fun q => q = b) w (w.setCell ⟨b, i, none⟩ u) := fun w i u => Keeps.setCell (S := fun q => q = b) (Keeps.refl _ _) (p := ⟨b, i, none⟩) (fun _ => rfl) _
 have h0 := heap_set h 0 u0
 simp only [List.setIfInBounds_toArray, List.set_cons_zero, List.set_cons_succ] at h0
 have h1 := heap_set h0 1 u1
 simp only [List.setIfInBounds_toArray, List.set_cons_zero, List.set_cons_succ] at h1
 have h2 := heap_set h1 2 u2
 simp only [List.setIfInBounds_toArray, List.set_cons_zero, List.set_cons_succ] at h2
 have h3 := heap_set h2 3 u3
 simp only [List.setIfInBounds_toArray, List.set_cons_zero, List.set_cons_succ] at h3
 have h4 := heap_set h3 4 u4
 simp only [List.setIfInBounds_toArray, List.set_cons_zero, List.set_cons_succ] at h4
 have h5 := heap_set h4 5 u5
 simp only [List.setIfInBounds_toArray, List.set_cons_zero, List.set_cons_succ] at h5
 have h6 := heap_set h5 6 u6
 simp only [List.setIfInBounds_toArray, List.set_cons_zero, List.set_cons_succ] at h6
 exact ⟨h6, ((((((k w 0 u0).trans (k _ 1 u1)).trans (k _ 2 u2)).trans (k _ 3 u3)).trans (k _ 4 u4)).trans (k _ 5 u5)).trans (k _ 6 u6)⟩
/-- What a view of a policy and a query is, in memory. -/
structure ViewAt (lo : Nat) (W : World) (rv lv pv fv ov gv : Value) (lk : Bool) (p : Pol) (q : Qry) (R : List Rol) (Lk : List Str) : Prop where
 way : OnWay p.2.1 p.2.2.1 p.1 q.2.1 q.2.2.1 R Lk
 shut : Shut2 p.2.1 p.2.2.1 p.1 R Lk
 rR : OwnK rolE lo W rv R
 rL : OwnK strE lo W lv Lk
 rP : OwnK strE lo W pv (tabL (whosV p.2.1 p.2.2.1 p.1 R Lk))
 rF : OwnK stmE lo W fv (fixV p.2.1 p.2.2.1 p.1 R Lk)
 rO : OwnK stmE lo W ov (looseV p.2.1 p.2.2.1 p.1 R Lk)
 rG : OwnK rolE lo W gv (sortO rolLt (sigV p.2.1 p.2.2.1 p.1 q.2.2.1 R Lk))
 lk : lk = linkV p.2.1 p.2.2.1 p.1 R Lk
theorem ViewAt.keeps {lo : Nat} {W W' : World} {rv lv pv fv ov gv : Value} {lk : Bool} {p : Pol} {q : Qry} {R : List Rol} {Lk : List Str} (h : ViewAt lo W rv lv pv fv ov gv lk p q R Lk) {S : Nat → Prop} (hk : Keeps S W W') (hs : ∀ k, lo ≤ k → ¬ S k) : ViewAt lo W' rv lv pv fv ov gv lk p q R Lk :=
 ⟨h.way, h.shut, h.rR.keeps hk hs, h.rL.keeps hk hs, h.rP.keeps hk hs, h.rF.keeps hk hs, h.rO.keeps hk hs, h.rG.keeps hk hs, h.lk⟩
/-- What a call of Of answers. -/
def OfTo (W : World) (p : Pol) (q : Qry) (e : Ending) (W' : World) : Prop :=
 (askB p q = false ∧ e = .returned (.tuple #[.agg #[.slice none 0 0, .slice none 0 0, .slice none 0 0, .slice none 0 0, .slice none 0 0, .slice none 0 0, .bool false], .int .i64 6]) ∧ KF W W') ∨
 (askB p q = true ∧ ∃ rv lv pv fv ov gv lk R Lk, e = .returned (.tuple #[.agg #[rv, lv, pv, fv, ov, gv, .bool lk], .int .i64 0]) ∧ KF W W' ∧ ViewAt W.heap.size W' rv lv pv fv ov gv lk p q R Lk)
set_option maxRecDepth 100000
set_option maxHeartbeats 6400000
theorem of_spec {W : World} {ao bo co jo wo : Option Addr} {an ac bn bc cn cc jn jc wn wc : Nat} {p : Pol} {P : Nat → Prop} (h : PolH W (.slice ao an ac) (.slice bo bn bc) (.slice co cn cc) p P) (h1 : p.1.length ≤ 60) (h2 : p.2.1.length ≤ 60) (h3 : p.2.2.1.length ≤ 60) {q : Qry} (hw : RowX W (.slice wo wn wc) q.2.2.2 P) (h4 : q.2.2.2.length ≤ 100) :
 Calls Tryz.prog 64 #[.agg #[.slice ao an ac, .slice bo bn bc, .slice co cn cc, .slice jo jn jc], qryV q (.slice wo wn wc)] W fun e W' => Hid (OfTo W p q e W') := by
 have HQR : Hid (∀ w, KF W w → Calls Tryz.prog 110 #[qryV q (.slice wo wn wc)] w fun e W' => e = .returned (.bool (qryRB q)) ∧ Hid (KF w W')) := fun w hk => sqryright_all (hw.into hk (fun _ _ _ x => x) (fun _ _ x => x)).1 (by omega)
 have HPR : Hid (∀ w b, KF W w → RdX qE w (.slice (some ⟨b, 0, none⟩) 1 1) [(q.1, q.2.1, q.2.2.1, (wo, wn, wc))] (fun _ => True) → qryRB q = true → q.1 = 6 → Calls Tryz.prog 111 #[.agg #[.slice ao an ac, .slice bo bn bc, .slice co cn cc, .slice (some ⟨b, 0, none⟩) 1 1]] w fun e W' => e = .returned (.bool (polRB (p.1, p.2.1, p.2.2.1, [q]))) ∧ Hid (KF w W')) := fun w b hk hr hq1 hq2 => prightp_spec (one_ask (h.into hk (fun _ _ _ x => x) (fun _ _ x => x)) hr (hw.into hk (fun _ _ _ x => x) (fun _ _ x => x)).1 (fun k hk2 => ((hw.into hk (fun _ _ _ x => x) (fun _ _ x => x)).2 k hk2).1)) ⟨by show p.1.length ≤ _; omega, by show p.2.1.length ≤ _; omega, by show p.2.2.1.length ≤ _; omega, by simp, fun x hx => few_one hq1 hq2 hx⟩
 have HP0 := Lib.hid h.1.1
 have HP1 := Lib.hid h.2.1.1
 have HP2 := Lib.hid h.2.2.1
 have HLN : Hid (p.1.length ≤ 60 ∧ p.2.1.length ≤ 60 ∧ p.2.2.1.length ≤ 60) := ⟨h1, h2, h3⟩
 have HASK : Hid (askB p q = (qryRB q && decide (q.1 = 6) && polRB (p.1, p.2.1, p.2.2.1, [q]))) := rfl
 have HV3 : Hid (∃ (xo : Option Addr) (xn xc : Nat), (.slice (some ⟨(0 : Nat), 0, none⟩) 1 1 : Value) = .slice xo xn xc) := ⟨_, _, _, rfl⟩
 clear h hw h1 h2 h3 h4
 obtain ⟨qk, ⟨qa1, qa2⟩, ⟨qb1, qb2⟩, qw⟩ := q
 unfold qryV at HQR ⊢
 simp only at HQR HPR HASK ⊢
 -- the boxes
 have hal1 := (MapKept.heap_alloc W (bP ao an ac bo bn bc co cn cc jo jn jc)).1
 obtain ⟨WA, hWA⟩ : ∃ q, W.alloc (bP ao an ac bo bn bc co cn cc jo jn jc) = q := ⟨_, rfl⟩
 have hkA : KF W WA := by rw [← hWA]; exact (Keeps.refl _ _).alloc _
 rw [hWA] at hal1
 have hal2 := (MapKept.heap_alloc WA (bQ qk qa1 qa2 qb1 qb2 wo wn wc)).1
 obtain ⟨WB, hWB⟩ : ∃ q, WA.alloc (bQ qk qa1 qa2 qb1 qb2 wo wn wc) = q := ⟨_, rfl⟩
 have hkB : KF WA WB := by rw [← hWB]; exact (Keeps.refl _ _).alloc _
 rw [hWB] at hal2
 have hal3 := (MapKept.heap_alloc WB (.cells #[.slice none 0 0, .slice none 0 0, .slice none 0 0, .slice none 0 0, .slice none 0 0, .slice none 0 0, .bool false] 52)).1
 obtain ⟨WC, hWC⟩ : ∃ q, WB.alloc (.cells #[.slice none 0 0, .slice none 0 0, .slice none 0 0, .slice none 0 0, .slice none 0 0, .slice none 0 0, .bool false] 52) = q := ⟨_, rfl⟩
 have hkC : KF WB WC := by rw [← hWC]; exact (Keeps.refl _ _).alloc _
 rw [hWC] at hal3
 have hal4 := (MapKept.heap_alloc WC (bQ qk qa1 qa2 qb1 qb2 wo wn wc)).1
 have hrw := (one_srcK (E := qE) WC (qk, (qa1, qa2), (qb1, qb2), (wo, wn, wc)) #[.int .i64 qk, .string ⟨qa1.toArray⟩, .string ⟨qa2.toArray⟩, .string ⟨qb1.toArray⟩, .string ⟨qb2.toArray⟩, .slice wo wn wc] rfl)
 obtain ⟨WD, hWD⟩ : ∃ q, WC.alloc (bQ qk qa1 qa2 qb1 qb2 wo wn wc) = q := ⟨_, rfl⟩
 have hkD : KF WC WD := by rw [← hWD]; exact (Keeps.refl _ _).alloc _
 have hrw2 : SrcK qE WD (.slice (some ⟨WC.heap.size, 0, none⟩) 1 1) [(qk, (qa1, qa2), (qb1, qb2), (wo, wn, wc))] := by rw [← hWD]; exact hrw
 rw [hWD] at hal4
 obtain ⟨pb, hpb⟩ : ∃ q, W.heap.size = q := ⟨_, rfl⟩
 obtain ⟨qb, hqb⟩ : ∃ q, WA.heap.size = q := ⟨_, rfl⟩
 obtain ⟨vb, hvb⟩ : ∃ q, WB.heap.size = q := ⟨_, rfl⟩
 obtain ⟨rb, hrb⟩ : ∃ q, WC.heap.size = q := ⟨_, rfl⟩
 have s1 := lt_of_heap hal1
 have s2 := lt_of_heap hal2
 have s3 := lt_of_heap hal3
 have s4 := lt_of_heap hal4
 rw [hpb] at hal1 s1
 rw [hqb] at hal2 s2 s1
 rw [hvb] at hal3 s3 s2
 rw [hrb] at hal4 s4 s3 hrw2
 have kD2 : Keeps (fun q => q = pb) WD (WD.setCell ⟨pb, 3, none⟩ (.slice (some ⟨rb, 0, none⟩) 1 1)) := Keeps.setCell (S := fun q => q = pb) (Keeps.refl _ _) (p := ⟨pb, 3, none⟩) (fun _ => rfl) _
 have hpD := ((hkB.trans (hkC.trans hkD)).block pb (lt_of_heap hal1) (fun x => x)).trans hal1
 have HW : Hid ((WD.setCell ⟨pb, 3, none⟩ (.slice (some ⟨rb, 0, none⟩) 1 1)).heap[pb]? = some (.cells #[.slice ao an ac, .slice bo bn bc, .slice co cn cc, .slice (some ⟨rb, 0, none⟩) 1 1] 26)) := heap_set hpD 3 _
 have HQB : Hid ((WD.setCell ⟨pb, 3, none⟩ (.slice (some ⟨rb, 0, none⟩) 1 1)).heap[qb]? = some (bQ qk qa1 qa2 qb1 qb2 wo wn wc)) := (kD2.block qb (by have := (hkC.trans hkD).size; have := lt_of_heap hal2; omega) (by show ¬ _ = _; omega)).trans (((hkC.trans hkD).block qb (lt_of_heap hal2) (fun x => x)).trans hal2)
 have HVB : Hid ((WD.setCell ⟨pb, 3, none⟩ (.slice (some ⟨rb, 0, none⟩) 1 1)).heap[vb]? = some (.cells #[.slice none 0 0, .slice none 0 0, .slice none 0 0, .slice none 0 0, .slice none 0 0, .slice none 0 0, .bool false] 52)) := (kD2.block vb (by have := hkD.size; have := lt_of_heap hal3; omega) (by show ¬ _ = _; omega)).trans ((hkD.block vb (lt_of_heap hal3) (fun x => x)).trans hal3)
 have HRB : Hid (RdX qE (WD.setCell ⟨pb, 3, none⟩ (.slice (some ⟨rb, 0, none⟩) 1 1)) (.slice (some ⟨rb, 0, none⟩) 1 1) [(qk, (qa1, qa2), (qb1, qb2), (wo, wn, wc))] (fun _ => True)) := by
  have q0 : RdX qE WD (.slice (some ⟨rb, 0, none⟩) 1 1) [(qk, (qa1, qa2), (qb1, qb2), (wo, wn, wc))] (fun k => k = rb) := ⟨hrw2, fun k hk => by simp only [Value.ownBlock, Option.map_some, Option.some.injEq] at hk; exact ⟨by omega, hk.symm⟩⟩
  exact q0.into kD2 (fun k _ e e2 => by have e2 : k = pb := e2; omega) (fun _ _ _ => trivial)
 have HKD : Hid (KF W (WD.setCell ⟨pb, 3, none⟩ (.slice (some ⟨rb, 0, none⟩) 1 1))) := (hkA.trans (hkB.trans (hkC.trans hkD))).trans_new kD2 (fun k hk e => by have e : k = pb := e; omega)
 have HORD : Hid (W.heap.size = pb ∧ pb < qb ∧ qb < vb ∧ vb < rb) := ⟨hpb, by omega, by omega, by omega⟩
 obtain ⟨c0, d0, c1, d1, c2, d2, c3, d3⟩ := cf4 hal1
 have ec : ∀ j, WC.cell? ⟨qb, j, none⟩ = WA.cell? ⟨qb, j, none⟩ ∨ True := fun _ => .inr trivial
 obtain ⟨x0, y0, x1, y1, x2, y2, x3, y3, x4, y4, x5, y5⟩ := cf6 ((hkC.block qb (lt_of_heap hal2) (fun x => x)).trans hal2)
 obtain ⟨z0, u0z, z1, u1z, z2, u2z, z3, u3z⟩ := cf4 hpD
 clear ec c0 d0 c1 d1 c2 d2 c3 d3 y0 y1 y2 y3 y4 y5 z0 z1 z2 u0z u1z u2z hal1 hal2 hal3 hal4 hkA hkB hkC hkD hrw hrw2 s1 s2 s3 s4 kD2 hpD
 go_enter Tryz.func64, Tryz.ntmps64
 go_upto_region 1 with fail
 (try simp only [hWA, hWB, hWC, hpb, hqb, hvb])
 go_upto_region 2 with fail
 (try simp only [hWD, hrb, hpb])
 clear x0 x1 x2 x3 x4 x5 z3 u3z hWA hWB hWC hWD hpb hqb hvb hrb
 generalize WD.setCell ⟨pb, 3, none⟩ (.slice (some ⟨rb, 0, none⟩) 1 1) = w1 at *
 obtain ⟨b1, hb1⟩ : ∃ x, qryRB (qk, (qa1, qa2), (qb1, qb2), qw) = x := ⟨_, rfl⟩
 rw [hb1] at HQR HASK
 have HB1 := Lib.hid hb1
 clear hb1
 obtain ⟨x0, y0, x1, y1, x2, y2, x3, y3, x4, y4, x5, y5⟩ := cf6 HQB.out
 clear y0 y1 y2 y3 y4 y5
 go_wp2_with fail
 refine (HQR.out _ HKD.out).mono ?_
 rintro e w2 ⟨rfl, hk⟩
 clear HQR x0 x1 x2 x3 x4 x5
 have HK2 := Lib.hid (HKD.out.trans hk.out)
 have HW2 := Lib.hid ((hk.out.block _ (lt_of_heap HW.out) (fun x => x)).trans HW.out)
 have HQ2 := Lib.hid ((hk.out.block _ (lt_of_heap HQB.out) (fun x => x)).trans HQB.out)
 have HV2 := Lib.hid ((hk.out.block _ (lt_of_heap HVB.out) (fun x => x)).trans HVB.out)
 have HR2 := Lib.hid (HRB.out.keeps hk.out (fun _ _ _ x => x))
 clear HKD HW HQB HVB HRB hk
 cases b1
 case false =>
  obtain ⟨x0, y0, x1, y1, x2, y2, x3, y3, x4, y4, x5, y5⟩ := cf6 HQ2.out
  obtain ⟨v0, f0, v1, f1, v2, f2, v3, f3, v4, f4, v5, f5, v6, f6⟩ := cf7 HV2.out
  have HA : Hid (askB p (qk, (qa1, qa2), (qb1, qb2), qw) = false) := by show _ = _; rw [HASK.out]; rfl
  clear HPR HP0 HP1 HP2
  go_wp2_with fail
  have h7 := set7 HV2.out (u0 := .slice none 0 0) (u1 := .slice none 0 0) (u2 := .slice none 0 0) (u3 := .slice none 0 0) (u4 := .slice none 0 0) (u5 := .slice none 0 0) (u6 := .bool false)
  clear v0 f0 v1 f1 v2 f2 v3 f3 v4 f4 v5 f5 v6 f6 x0 y0 x1 y1 x2 y2 x3 y3 x4 y4 x5 y5
  generalize (((((((w2.setCell ⟨vb, 0, none⟩ (.slice none 0 0)).setCell ⟨vb, 1, none⟩ (.slice none 0 0)).setCell ⟨vb, 2, none⟩ (.slice none 0 0)).setCell ⟨vb, 3, none⟩ (.slice none 0 0)).setCell ⟨vb, 4, none⟩ (.slice none 0 0)).setCell ⟨vb, 5, none⟩ (.slice none 0 0)).setCell ⟨vb, 6, none⟩ (.bool false)) = w9 at *
  have HZ : Hid (KF W w9) := HK2.out.trans_new h7.2 (fun k hk e => by have e : k = vb := e; have := HORD.out; omega)
  obtain ⟨v0, f0, v1, f1, v2, f2, v3, f3, v4, f4, v5, f5, v6, f6⟩ := cf7 h7.1
  clear h7
  refine bodyPost_ret (v := .tuple #[.agg #[.slice none 0 0, .slice none 0 0, .slice none 0 0, .slice none 0 0, .slice none 0 0, .slice none 0 0, .bool false], .int .i64 6]) (by simp [results, Tryz.results64, go_sem, *]) rfl ?_
  exact .inl ⟨HA.out, rfl, HZ.out⟩
 case true =>
  by_cases hk6 : qk = 6
  case neg =>
   have hkn : (qk != 6) = true := by simpa using hk6
   obtain ⟨x0, y0, x1, y1, x2, y2, x3, y3, x4, y4, x5, y5⟩ := cf6 HQ2.out
   obtain ⟨v0, f0, v1, f1, v2, f2, v3, f3, v4, f4, v5, f5, v6, f6⟩ := cf7 HV2.out
   have HA : Hid (askB p (qk, (qa1, qa2), (qb1, qb2), qw) = false) := by show _ = _; rw [HASK.out]; rw [decide_eq_false hk6]; rfl
   clear HPR HP0 HP1 HP2
   go_wp2_with fail
   have h7 := set7 HV2.out (u0 := .slice none 0 0) (u1 := .slice none 0 0) (u2 := .slice none 0 0) (u3 := .slice none 0 0) (u4 := .slice none 0 0) (u5 := .slice none 0 0) (u6 := .bool false)
   clear v0 f0 v1 f1 v2 f2 v3 f3 v4 f4 v5 f5 v6 f6 x0 y0 x1 y1 x2 y2 x3 y3 x4 y4 x5 y5
   generalize (((((((w2.setCell ⟨vb, 0, none⟩ (.slice none 0 0)).setCell ⟨vb, 1, none⟩ (.slice none 0 0)).setCell ⟨vb, 2, none⟩ (.slice none 0 0)).setCell ⟨vb, 3, none⟩ (.slice none 0 0)).setCell ⟨vb, 4, none⟩ (.slice none 0 0)).setCell ⟨vb, 5, none⟩ (.slice none 0 0)).setCell ⟨vb, 6, none⟩ (.bool false)) = w9 at *
   have HZ : Hid (KF W w9) := HK2.out.trans_new h7.2 (fun k hk e => by have e : k = vb := e; have := HORD.out; omega)
   obtain ⟨v0, f0, v1, f1, v2, f2, v3, f3, v4, f4, v5, f5, v6, f6⟩ := cf7 h7.1
   clear h7
   refine bodyPost_ret (v := .tuple #[.agg #[.slice none 0 0, .slice none 0 0, .slice none 0 0, .slice none 0 0, .slice none 0 0, .slice none 0 0, .bool false], .int .i64 6]) (by simp [results, Tryz.results64, go_sem, *]) rfl ?_
   exact .inl ⟨HA.out, rfl, HZ.out⟩
  case pos =>
   subst hk6
   obtain ⟨b3, hb3⟩ : ∃ x, polRB (p.1, p.2.1, p.2.2.1, [(6, (qa1, qa2), (qb1, qb2), qw)]) = x := ⟨_, rfl⟩
   have HCP := Lib.hid (HPR.out w2 rb HK2.out HR2.out HB1.out rfl)
   rw [hb3] at HCP HASK
   clear hb3 HPR HR2
   obtain ⟨x0, y0, x1, y1, x2, y2, x3, y3, x4, y4, x5, y5⟩ := cf6 HQ2.out
   obtain ⟨z0, g0, z1, g1, z2, g2, z3, g3⟩ := cf4 HW2.out
   go_wp2_with fail
   refine HCP.out.mono ?_
   rintro e w3 ⟨rfl, hk⟩
   have HK3 := Lib.hid (HK2.out.trans hk.out)
   have HW3 := Lib.hid ((hk.out.block _ (lt_of_heap HW2.out) (fun x => x)).trans HW2.out)
   have HQ3 := Lib.hid ((hk.out.block _ (lt_of_heap HQ2.out) (fun x => x)).trans HQ2.out)
   have HV3b := Lib.hid ((hk.out.block _ (lt_of_heap HV2.out) (fun x => x)).trans HV2.out)
   clear HCP HK2 HW2 HQ2 HV2 hk x0 y0 x1 y1 x2 y2 x3 y3 x4 y4 x5 y5 z0 g0 z1 g1 z2 g2 z3 g3
   cases b3
   case false =>
    obtain ⟨x0, y0, x1, y1, x2, y2, x3, y3, x4, y4, x5, y5⟩ := cf6 HQ3.out
    obtain ⟨v0, f0, v1, f1, v2, f2, v3, f3, v4, f4, v5, f5, v6, f6⟩ := cf7 HV3b.out
    have HA : Hid (askB p (6, (qa1, qa2), (qb1, qb2), qw) = false) := by show _ = _; rw [HASK.out]; rfl
    clear HP0 HP1 HP2
    go_wp2_with fail
    have h7 := set7 HV3b.out (u0 := .slice none 0 0) (u1 := .slice none 0 0) (u2 := .slice none 0 0) (u3 := .slice none 0 0) (u4 := .slice none 0 0) (u5 := .slice none 0 0) (u6 := .bool false)
    clear v0 f0 v1 f1 v2 f2 v3 f3 v4 f4 v5 f5 v6 f6 x0 y0 x1 y1 x2 y2 x3 y3 x4 y4 x5 y5
    generalize (((((((w3.setCell ⟨vb, 0, none⟩ (.slice none 0 0)).setCell ⟨vb, 1, none⟩ (.slice none 0 0)).setCell ⟨vb, 2, none⟩ (.slice none 0 0)).setCell ⟨vb, 3, none⟩ (.slice none 0 0)).setCell ⟨vb, 4, none⟩ (.slice none 0 0)).setCell ⟨vb, 5, none⟩ (.slice none 0 0)).setCell ⟨vb, 6, none⟩ (.bool false)) = w9 at *
    have HZ : Hid (KF W w9) := HK3.out.trans_new h7.2 (fun k hk e => by have e : k = vb := e; have := HORD.out; omega)
    obtain ⟨v0, f0, v1, f1, v2, f2, v3, f3, v4, f4, v5, f5, v6, f6⟩ := cf7 h7.1
    clear h7
    refine bodyPost_ret (v := .tuple #[.agg #[.slice none 0 0, .slice none 0 0, .slice none 0 0, .slice none 0 0, .slice none 0 0, .slice none 0 0, .bool false], .int .i64 6]) (by simp [results, Tryz.results64, go_sem, *]) rfl ?_
    exact .inl ⟨HA.out, rfl, HZ.out⟩
   case true =>
    have HA : Hid (askB p (6, (qa1, qa2), (qb1, qb2), qw) = true) := by show _ = _; rw [HASK.out]; rfl
    obtain ⟨gr, hgr⟩ : ∃ x, p.2.1 = x := ⟨_, rfl⟩
    obtain ⟨sh, hsh⟩ : ∃ x, p.2.2.1 = x := ⟨_, rfl⟩
    obtain ⟨st, hst⟩ : ∃ x, p.1 = x := ⟨_, rfl⟩
    have HPE : Hid (p.2.1 = gr ∧ p.2.2.1 = sh ∧ p.1 = st) := ⟨hgr, hsh, hst⟩
    have HS0 : Hid (SrcK stmE w3 (.slice ao an ac) st) := by have := HP0.out.keeps HK3.out; rw [hst] at this; exact this
    have HS1 : Hid (SrcK rolE w3 (.slice bo bn bc) gr) := by have := HP1.out.keeps HK3.out; rw [hgr] at this; exact this
    have HS2 : Hid (SrcK rolE w3 (.slice co cn cc) sh) := by have := HP2.out.keeps HK3.out; rw [hsh] at this; exact this
    rw [hgr, hsh, hst] at HLN
    clear hgr hsh hst HP0 HP1 HP2 HASK HB1
    have hal1 := (MapKept.heap_alloc w3 (.cells #[.slice none 0 0, .slice none 0 0, .slice none 0 0, .slice none 0 0, .slice none 0 0, .slice none 0 0, .bool false, .slice ao an ac, .slice bo bn bc, .slice co cn cc, .slice (some ⟨rb, 0, none⟩) 1 1] 118)).1
    obtain ⟨WA, hWA⟩ : ∃ q, w3.alloc (.cells #[.slice none 0 0, .slice none 0 0, .slice none 0 0, .slice none 0 0, .slice none 0 0, .slice none 0 0, .bool false, .slice ao an ac, .slice bo bn bc, .slice co cn cc, .slice (some ⟨rb, 0, none⟩) 1 1] 118) = q := ⟨_, rfl⟩
    have hkA : KF w3 WA := by rw [← hWA]; exact (Keeps.refl _ _).alloc _
    rw [hWA] at hal1
    obtain ⟨mb, hmb⟩ : ∃ q, w3.heap.size = q := ⟨_, rfl⟩
    rw [hmb] at hal1
    obtain ⟨WB, hWB⟩ : ∃ q, WA.alloc (.cells #[.string ⟨qa1.toArray⟩, .string ⟨qa2.toArray⟩, .string ⟨qb1.toArray⟩, .string ⟨qb2.toArray⟩] 28) = q := ⟨_, rfl⟩
    have hkB : KF WA WB := by rw [← hWB]; exact (Keeps.refl _ _).alloc _
    have hsr : SrcK rolE WB (.slice (some ⟨WA.heap.size, 0, none⟩) 2 2) [(qa1, qa2), (qb1, qb2)] := by
     have q := lit_srcK (E := rolE) WA [(qa1, qa2), (qb1, qb2)] #[.string ⟨qa1.toArray⟩, .string ⟨qa2.toArray⟩, .string ⟨qb1.toArray⟩, .string ⟨qb2.toArray⟩] rfl
     rw [← hWB]
     exact q
    have HSO := Lib.hid (rsort_own hsr (by simp))
    obtain ⟨lb, hlb⟩ : ∃ q, WA.heap.size = q := ⟨_, rfl⟩
    rw [hlb] at HSO
    have HMB := Lib.hid ((hkB.block _ (lt_of_heap hal1) (fun x => x)).trans hal1)
    have HKB := Lib.hid (hkA.trans hkB)
    have HZ0 : Hid (w3.heap.size ≤ mb ∧ mb + 1 ≤ WB.heap.size) := ⟨by omega, by have := lt_of_heap HMB.out; omega⟩
    obtain ⟨x0, y0, x1, y1, x2, y2, x3, y3, x4, y4, x5, y5⟩ := cf6 ((HKB.out.block _ (lt_of_heap HQ3.out) (fun x => x)).trans HQ3.out)
    obtain ⟨z0, g0, z1, g1, z2, g2, z3, g3⟩ := cf4 HW3.out
    clear y0 y1 y2 y3 y4 y5 g0 g1 g2 g3 hal1 hkA hkB hsr
    go_upto_region 5 with fail
    (try simp only [hWA, hmb])
    obtain ⟨a0, b0⟩ : WB.cell? ⟨mb, 0, none⟩ = some (.slice none 0 0) ∧ WB.frozen? ⟨mb, 0, none⟩ = false := ⟨(cf11 HMB.out).1, (cf11 HMB.out).2.1⟩
    obtain ⟨X1, X2, X3, X4⟩ : WA.cell? ⟨qb, 1, none⟩ = some (.string ⟨qa1.toArray⟩) ∧ WA.cell? ⟨qb, 2, none⟩ = some (.string ⟨qa2.toArray⟩) ∧ WA.cell? ⟨qb, 3, none⟩ = some (.string ⟨qb1.toArray⟩) ∧ WA.cell? ⟨qb, 4, none⟩ = some (.string ⟨qb2.toArray⟩) := by
     have q : WA.heap[qb]? = some (bQ 6 qa1 qa2 qb1 qb2 wo wn wc) := by
      have hA : KF w3 WA := by rw [← hWA]; exact (Keeps.refl _ _).alloc _
      exact (hA.block _ (lt_of_heap HQ3.out) (fun x => x)).trans HQ3.out
     exact ⟨(cf6 q).2.2.1, (cf6 q).2.2.2.2.1, (cf6 q).2.2.2.2.2.2.1, (cf6 q).2.2.2.2.2.2.2.2.1⟩
    clear x0 x1 x2 x3 x4 x5 z0 z1 z2 z3 hWA hmb
    go_wp2_with fail
    (try simp only [hWB, hlb])
    refine HSO.out.mono ?_
    rintro e w4 ⟨rv, rfl, hk⟩
    clear HSO hWB hlb X1 X2 X3 X4 a0 b0
    obtain ⟨ro, rc, hrv, _⟩ := id hk.out.2.reads
    obtain ⟨rn, hrn⟩ : ∃ n, (sortO rolLt [(qa1, qa2), (qb1, qb2)]).length = n := ⟨_, rfl⟩
    rw [hrn] at hrv
    subst hrv
    have hM4 := (hk.out.1.block _ (lt_of_heap HMB.out) (fun x => x)).trans HMB.out
    have hkS : Keeps (fun q => q = mb) w4 (w4.setCell ⟨mb, 0, none⟩ (.slice ro rn rc)) := Keeps.setCell (S := fun q => q = mb) (Keeps.refl _ _) (p := ⟨mb, 0, none⟩) (fun _ => rfl) _
    have HMI : Hid (MkI w3 (w4.setCell ⟨mb, 0, none⟩ (.slice ro rn rc)) mb (.slice ao an ac) (.slice bo bn bc) (.slice co cn cc) (.slice (some ⟨rb, 0, none⟩) 1 1) (.slice ro rn rc) (.slice none 0 0) (sortO rolLt [(qa1, qa2), (qb1, qb2)]) []) :=
     ⟨(HKB.out.trans hk.out.1).trans_new hkS (fun q hq e => by have e : q = mb := e; have := HZ0.out; omega), HZ0.out.1, heap_set hM4 0 _, (hk.out.2.base HZ0.out.2).keeps hkS (fun q hq e => by have e : q = mb := e; omega), ownK_nil _ _ _⟩
    obtain ⟨m0, n0⟩ : w4.cell? ⟨mb, 0, none⟩ = some (.slice none 0 0) ∧ w4.frozen? ⟨mb, 0, none⟩ = false := ⟨(cf11 hM4).1, (cf11 hM4).2.1⟩
    clear hk hrn hM4 hkS HMB HKB
    go_upto_region 6 with fail
    clear m0 n0
    generalize w4.setCell ⟨mb, 0, none⟩ (.slice ro rn rc) = w5 at *
    go_wp2_with fail
    go_loopg [7] 400 (fun g t wx => ∃ (gg : Nat) (again : Bool) (ro lo : Option Addr) (rn rc ln lc : Nat) (R : List Rol) (Lk : List Str), gg = g ∧ t = .bool again ∧ Hid (again = true → 400 ≤ gg + (R.length + Lk.length)) ∧ Hid (MkI w3 wx mb (.slice ao an ac) (.slice bo bn bc) (.slice co cn cc) (.slice (some ⟨rb, 0, none⟩) 1 1) (.slice ro rn rc) (.slice lo ln lc) R Lk ∧ OnWay gr sh st (qa1, qa2) (qb1, qb2) R Lk ∧ (again = false → Shut2 gr sh st R Lk)))
    case atStart => exact ⟨400, true, ro, none, rn, rc, 0, 0, _, [], rfl, rfl, fun _ => by omega, HMI.out, OnWay.begin, fun e => by cases e⟩
    case round =>
     clear HMI
     obtain ⟨g, again, ro, lo, rn, rc, ln, lc, R, Lk, rfl, rfl, HG, HI⟩ := hrel
     have hlens := HI.out.2.1.lens
     have hln := HLN.out
     have hR : R.length ≤ 200 := by omega
     have hL : Lk.length ≤ 100 := by omega
     clear hlens hln
     cases again
     case true =>
      have hg0 : 400 ≤ g + (R.length + Lk.length) := HG.out rfl
      have HC := Lib.hid (more_spec HI.out.1 HS0.out HS1.out.1 HS2.out.1 (by omega) (by omega) (by have := HLN.out; omega) (by have := HLN.out; omega) (by have := HLN.out; omega) HI.out.2.1.ls)
      have HW := Lib.hid HI.out.2.1
      clear HG HI
      go_wp2_with fail
      refine HC.out.mono ?_
      rintro e w6 ⟨rv2, lv2, rfl, hm⟩
      obtain ⟨ro2, rc2, hrv2, _⟩ := id hm.out.R.reads
      obtain ⟨lo2, lc2, hlv2, _⟩ := id (ownK_str.1 hm.out.L).reads
      have hrd := HW.out.round (st.filter (folB gr sh R Lk)) R Lk (fun x hx => List.mem_filter.1 hx) HW.out (fun _ h => h) (fun _ h => h)
      have hend := HW.out.ended
      have HN : Hid (MkI w3 w6 mb (.slice ao an ac) (.slice bo bn bc) (.slice co cn cc) (.slice (some ⟨rb, 0, none⟩) 1 1) rv2 lv2 ((st.filter (folB gr sh R Lk)).foldl addR R) ((st.filter (folB gr sh R Lk)).foldl addL Lk) ∧ OnWay gr sh st (qa1, qa2) (qb1, qb2) ((st.filter (folB gr sh R Lk)).foldl addR R) ((st.filter (folB gr sh R Lk)).foldl addL Lk) ∧ ((decide (R.length + Lk.length < ((st.filter (folB gr sh R Lk)).foldl addR R).length + ((st.filter (folB gr sh R Lk)).foldl addL Lk).length)) = false → Shut2 gr sh st ((st.filter (folB gr sh R Lk)).foldl addR R) ((st.filter (folB gr sh R Lk)).foldl addL Lk))) := by
       refine ⟨hm.out, hrd.1, fun e => ?_⟩
       obtain ⟨e1, e2, e3⟩ := hend (by have := of_decide_eq_false e; omega)
       rw [e1, e2]
       exact e3
      obtain ⟨R2, hR2⟩ : ∃ x, (st.filter (folB gr sh R Lk)).foldl addR R = x := ⟨_, rfl⟩
      obtain ⟨L2, hL2⟩ : ∃ x, (st.filter (folB gr sh R Lk)).foldl addL Lk = x := ⟨_, rfl⟩
      rw [hR2, hL2] at HN ⊢
      rw [hR2] at hrv2
      rw [hL2] at hlv2
      obtain ⟨rn2, hrn2⟩ : ∃ n, R2.length = n := ⟨_, rfl⟩
      obtain ⟨ln2, hln2⟩ : ∃ n, L2.length = n := ⟨_, rfl⟩
      have HGN : Hid (decide (R.length + Lk.length < rn2 + ln2) = true → 400 ≤ (g - 1) + (R2.length + L2.length)) := fun e => by have := of_decide_eq_true e; omega
      rw [hrn2] at hrv2 HN ⊢
      rw [hln2] at hlv2 HN ⊢
      subst hrv2 hlv2
      clear HC HW hm hrd hend hR2 hL2 hrn2 hln2
      go_wp2_with fail
      go_roundg (g - 1)
      case measure => omega
      case rel => exact ⟨g - 1, _, ro2, lo2, rn2, rc2, ln2, lc2, R2, L2, rfl, rfl, HGN, HN⟩
     case false =>
      have HSH := Lib.hid (HI.out.2.2 rfl)
      have HWY := Lib.hid HI.out.2.1
      have HC := Lib.hid (finish_spec HI.out.1 HS0.out HS1.out HS2.out (by omega) (by omega) (by have := HLN.out; omega) (by have := HLN.out; omega) (by have := HLN.out; omega) (6, (qa1, qa2), (qb1, qb2), qw) (.slice wo wn wc) ⟨_, _, _, rfl⟩)
      have HKI := Lib.hid HI.out.1.K
      unfold qryV at HC
      simp only at HC
      clear HG HI
      obtain ⟨x0, y0, x1, y1, x2, y2, x3, y3, x4, y4, x5, y5⟩ := cf6 ((HKI.out.block _ (lt_of_heap HQ3.out) (fun x => x)).trans HQ3.out)
      clear y0 y1 y2 y3 y4 y5
      go_wp2_with fail
      refine HC.out.mono ?_
      rintro e w6 ⟨rfl, pv, fv, ov, gv, hf⟩
      obtain ⟨po, pc, hpv, _⟩ := id hf.out.P.reads
      obtain ⟨fo, fc, hfv, _⟩ := id hf.out.F.reads
      obtain ⟨oo, oc, hov, _⟩ := id hf.out.O.reads
      obtain ⟨go, gc, hgv, _⟩ := id hf.out.G.reads
      have HV6 := Lib.hid ((hf.out.K.block _ (lt_of_heap HV3b.out) (fun x => x)).trans HV3b.out)
      have HFO := Lib.hid hf.out
      obtain ⟨pn, hpn⟩ : ∃ n : Nat, pv = .slice po n pc := ⟨_, hpv⟩
      obtain ⟨fn', hfn⟩ : ∃ n : Nat, fv = .slice fo n fc := ⟨_, hfv⟩
      obtain ⟨on', hon⟩ : ∃ n : Nat, ov = .slice oo n oc := ⟨_, hov⟩
      obtain ⟨gn, hgn⟩ : ∃ n : Nat, gv = .slice go n gc := ⟨_, hgv⟩
      obtain ⟨lk, hlk⟩ : ∃ x, lkF (st.filter (folB gr sh R Lk)) = x := ⟨_, rfl⟩
      clear hpv hfv hov hgv
      subst hpn hfn hon hgn
      rw [hlk] at HFO
      have HLK := Lib.hid hlk
      clear hlk hf HC x0 x1 x2 x3 x4 x5
      obtain ⟨m0, n0, m1, n1, m2, n2, m3, n3, m4, n4, m5, n5, m6, n6, m7, n7, m8, n8, m9, n9, m10, n10⟩ := cf11 HFO.out.M
      obtain ⟨v0, f0, v1, f1, v2, f2, v3, f3, v4, f4, v5, f5, v6, f6⟩ := cf7 HV6.out
      clear n0 n1 n2 n3 n4 n5 n6 n7 n8 n9 n10 m7 m8 m9 m10
      go_wp2_with fail
      have h7 := set7 HV6.out (u0 := .slice ro rn rc) (u1 := .slice lo ln lc) (u2 := .slice po pn pc) (u3 := .slice fo fn' fc) (u4 := .slice oo on' oc) (u5 := .slice go gn gc) (u6 := .bool lk)
      clear v0 f0 v1 f1 v2 f2 v3 f3 v4 f4 v5 f5 v6 f6 m0 m1 m2 m3 m4 m5 m6
      generalize (((((((w6.setCell ⟨vb, 0, none⟩ (.slice ro rn rc)).setCell ⟨vb, 1, none⟩ (.slice lo ln lc)).setCell ⟨vb, 2, none⟩ (.slice po pn pc)).setCell ⟨vb, 3, none⟩ (.slice fo fn' fc)).setCell ⟨vb, 4, none⟩ (.slice oo on' oc)).setCell ⟨vb, 5, none⟩ (.slice go gn gc)).setCell ⟨vb, 6, none⟩ (.bool lk)) = w9 at *
      have HZ : Hid (KF W w9 ∧ ViewAt W.heap.size w9 (.slice ro rn rc) (.slice lo ln lc) (.slice po pn pc) (.slice fo fn' fc) (.slice oo on' oc) (.slice go gn gc) lk p (6, (qa1, qa2), (qb1, qb2), qw) R Lk) := by
       have hv := lt_of_heap HV3b.out
       have h0 := HZ0.out.1
       have hs := HK3.out.size
       have kk := HORD.out
       refine ⟨(HK3.out.trans HFO.out.K).trans_new h7.2 (fun k hk e => by have e : k = vb := e; omega), ?_⟩
       obtain ⟨e1, e2, e3⟩ := HPE.out
       have z : ViewAt (mb + 1) w6 (.slice ro rn rc) (.slice lo ln lc) (.slice po pn pc) (.slice fo fn' fc) (.slice oo on' oc) (.slice go gn gc) lk p (6, (qa1, qa2), (qb1, qb2), qw) R Lk :=
        ⟨by rw [e1, e2, e3]; exact HWY.out, by rw [e1, e2, e3]; exact HSH.out, HFO.out.R, HFO.out.L, by rw [e1, e2, e3]; exact HFO.out.P, by rw [e1, e2, e3]; exact HFO.out.F, by rw [e1, e2, e3]; exact HFO.out.O, by rw [e1, e2, e3]; exact HFO.out.G, by rw [e1, e2, e3, ← HLK.out]; rfl⟩
       have z2 := z.keeps h7.2 (fun k hk e => by have e : k = vb := e; omega)
       exact ⟨z2.way, z2.shut, z2.rR.base (by omega), z2.rL.base (by omega), z2.rP.base (by omega), z2.rF.base (by omega), z2.rO.base (by omega), z2.rG.base (by omega), z2.lk⟩
      obtain ⟨v0, f0, v1, f1, v2, f2, v3, f3, v4, f4, v5, f5, v6, f6⟩ := cf7 h7.1
      clear h7
      refine bodyPost_ret (v := .tuple #[.agg #[.slice ro rn rc, .slice lo ln lc, .slice po pn pc, .slice fo fn' fc, .slice oo on' oc, .slice go gn gc, .bool lk], .int .i64 0]) (by simp [results, Tryz.results64, go_sem, *]) rfl ?_
      exact .inr ⟨HA.out, _, _, _, _, _, _, _, R, Lk, rfl, HZ.out.1, HZ.out.2⟩
end Go.Proofs.YtckikkkdabpjkaaGreat
