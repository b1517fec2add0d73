/-
 The document's: what counts, what is followed, how many are told apart, the very same.
-/
import Derived.Test.YtededjfjbkcepaaGreatKitSq
import Derived.Test.YtededjfjbkcepaaGreatRelevOf
import Derived.Test.YtededjfjbkcepaaGreatPolAll
import Derived.Test.YtededjfjbkcepaaGreatMI
import Derived.Test.YtededjfjbkcepaaGreatRowSame
set_option linter.unusedVariables false
set_option linter.unusedSimpArgs false
set_option linter.unnecessarySimpa false
namespace Go.Proofs.YtededjfjbkcepaaGreat
open Go.ChangeShapes Go.WideShapes Go.ChangeAt Go.RowKit Go.Deep
set_option maxRecDepth 100000
set_option maxHeartbeats 3200000
/-- How many new principals are told apart. -/
def freshN (lk : Bool) (n : Nat) : Int := if lk then (if 4 < n then 0 else (2 : Int) ^ n) else 1
theorem fresh_spec {W : World} {rv lv pv fv ov : Value} {lk : Bool} {go : Option Addr} {gn gc : Nat} (hn : gn ≤ 60) : Calls Tryz.prog 43 #[.agg #[rv, lv, pv, fv, ov, .slice go gn gc, .bool lk]] W fun e W' => e = .returned (.int .i64 (freshN lk gn)) ∧ Hid (KF W W') := by
 have halWA := (MapKept.heap_alloc W (.cells #[rv, lv, pv, fv, ov, .slice go gn gc, .bool lk] 62)).1
 obtain ⟨WA, hWA⟩ : ∃ q, W.alloc (.cells #[rv, lv, pv, fv, ov, .slice go gn gc, .bool lk] 62) = q := ⟨_, rfl⟩
 have hkWA : KF W WA := by rw [← hWA]; exact (Keeps.refl _ _).alloc _
 rw [hWA] at halWA
 obtain ⟨bWA, hbWA⟩ : ∃ q, W.heap.size = q := ⟨_, rfl⟩
 rw [hbWA] at halWA
 have HK := Lib.hid hkWA
 obtain ⟨c0, f0, c1, f1, c2, f2, c3, f3, c4, f4, c5, f5, c6, f6⟩ := cf7 halWA
 clear halWA hkWA f0 f1 f2 f3 f4 f5 f6 c0 c1 c2 c3 c4
 go_enter Tryz.func43, Tryz.ntmps43
 go_upto_region 1 with fail
 (try simp only [hWA, hbWA])
 clear hWA hbWA
 cases lk
 case false =>
  go_wp2_with fail
  go_ret
  exact ⟨rfl, HK⟩
 case true =>
  by_cases h4 : 4 < gn
  case pos =>
   have h4I : (4 : Int) < (gn : Int) := by omega
   have HF : Hid (freshN true gn = 0) := by show (if 4 < gn then _ else _) = _; rw [if_pos h4]
   go_wp2_with fail
   go_ret
   exact ⟨by rw [HF.out]; rfl, HK⟩
  case neg =>
   have h4I : ¬ (4 : Int) < (gn : Int) := by omega
   have h5 : gn = 0 ∨ gn = 1 ∨ gn = 2 ∨ gn = 3 ∨ gn = 4 := by omega
   clear hn
   rcases h5 with rfl | rfl | rfl | rfl | rfl
   all_goals
    clear h4 h4I
    go_wp2_with fail
    go_ret
    exact ⟨rfl, HK⟩
/-- What a view says, read. -/
structure VwR (W : World) (rv lv pv fv ov gv : Value) (R : List Rol) (Lk P : List Str) (Fx Ls : List Stm) (G : List Rol) : Prop where
 r : RdK rolE W rv R
 l : ReadsS W lv Lk
 p : ReadsS W pv P
 f : RdK stmE W fv Fx
 o : RdK stmE W ov Ls
 g : RdK rolE W gv G
theorem VwR.keeps {W W' : World} {rv lv pv fv ov gv : Value} {R : List Rol} {Lk P : List Str} {Fx Ls : List Stm} {G : List Rol} (h : VwR W rv lv pv fv ov gv R Lk P Fx Ls G) (hk : KF W W') : VwR W' rv lv pv fv ov gv R Lk P Fx Ls G := ⟨h.r.keeps hk, h.l.keeps hk, h.p.keeps hk, h.f.keeps hk, h.o.keeps hk, h.g.keeps hk⟩
theorem wright_spec {W : World} {ao bo co jo wo : Option Addr} {an ac bn bc cn cc jn jc wn wc : Nat} {p : Pol} {P : Nat → Prop} (h : PolH W (.slice ao an ac) (.slice bo bn bc) (.slice co cn cc) p P) (h1 : p.1.length ≤ 60) (h2 : p.2.1.length ≤ 60) (h3 : p.2.2.1.length ≤ 60) {q : Qry} (hw : RowX W (.slice wo wn wc) q.2.2.2 P) (h4 : q.2.2.2.length ≤ 100) :
 Calls Tryz.prog 38 #[.agg #[.slice ao an ac, .slice bo bn bc, .slice co cn cc, .slice jo jn jc], qryV q (.slice wo wn wc)] W fun e W' => e = .returned (.bool (askB p q)) ∧ Hid (KF W W') := by
 have HQR : Hid (∀ w, KF W w → Calls Tryz.prog 84 #[qryV q (.slice wo wn wc)] w fun e W' => e = .returned (.bool (qryRB q)) ∧ Hid (KF w W')) := fun w hk => rqryright_all (hw.into hk (fun _ _ _ x => x) (fun _ _ x => x)).1 (by omega)
 have HPR : Hid (∀ w b, KF W w → RdX qE w (.slice (some ⟨b, 0, none⟩) 1 1) [(q.1, q.2.1, q.2.2.1, (wo, wn, wc))] (fun _ => True) → qryRB q = true → q.1 = 6 → Calls Tryz.prog 48 #[.agg #[.slice ao an ac, .slice bo bn bc, .slice co cn cc, .slice (some ⟨b, 0, none⟩) 1 1]] w fun e W' => e = .returned (.bool (polRB (p.1, p.2.1, p.2.2.1, [q]))) ∧ Hid (KF w W')) := fun w b hk hr hq1 hq2 => rpolright_all (one_ask (h.into hk (fun _ _ _ x => x) (fun _ _ x => x)) hr (hw.into hk (fun _ _ _ x => x) (fun _ _ x => x)).1 (fun k hk2 => ((hw.into hk (fun _ _ _ x => x) (fun _ _ x => x)).2 k hk2).1)) ⟨by show p.1.length ≤ _; omega, by show p.2.1.length ≤ _; omega, by show p.2.2.1.length ≤ _; omega, by simp, fun x hx => few_one hq1 hq2 hx⟩
 have HASK : Hid (askB p q = (qryRB q && decide (q.1 = 6) && polRB (p.1, p.2.1, p.2.2.1, [q]))) := rfl
 clear h hw h1 h2 h3 h4
 obtain ⟨qk, ⟨qa1, qa2⟩, ⟨qb1, qb2⟩, qw⟩ := q
 unfold qryV at HQR ⊢
 simp only at HQR HPR HASK ⊢
 have halWA := (MapKept.heap_alloc W (bP ao an ac bo bn bc co cn cc jo jn jc)).1
 obtain ⟨WA, hWA⟩ : ∃ q, W.alloc (bP ao an ac bo bn bc co cn cc jo jn jc) = q := ⟨_, rfl⟩
 have hkWA : KF W WA := by rw [← hWA]; exact (Keeps.refl _ _).alloc _
 rw [hWA] at halWA
 obtain ⟨bWA, hbWA⟩ : ∃ q, W.heap.size = q := ⟨_, rfl⟩
 rw [hbWA] at halWA
 have halWB := (MapKept.heap_alloc WA (bQ qk qa1 qa2 qb1 qb2 wo wn wc)).1
 obtain ⟨WB, hWB⟩ : ∃ q, WA.alloc (bQ qk qa1 qa2 qb1 qb2 wo wn wc) = q := ⟨_, rfl⟩
 have hkWB : KF WA WB := by rw [← hWB]; exact (Keeps.refl _ _).alloc _
 rw [hWB] at halWB
 obtain ⟨bWB, hbWB⟩ : ∃ q, WA.heap.size = q := ⟨_, rfl⟩
 rw [hbWB] at halWB
 have hrw0 := (one_srcK (E := qE) WB (qk, (qa1, qa2), (qb1, qb2), (wo, wn, wc)) #[.int .i64 qk, .string ⟨qa1.toArray⟩, .string ⟨qa2.toArray⟩, .string ⟨qb1.toArray⟩, .string ⟨qb2.toArray⟩, .slice wo wn wc] rfl)
 obtain ⟨WD, hWD⟩ : ∃ q, WB.alloc (bQ qk qa1 qa2 qb1 qb2 wo wn wc) = q := ⟨_, rfl⟩
 have hkD : KF WB WD := by rw [← hWD]; exact (Keeps.refl _ _).alloc _
 have hal4 := (MapKept.heap_alloc WB (bQ qk qa1 qa2 qb1 qb2 wo wn wc)).1
 have hrw : SrcK qE WD (.slice (some ⟨WB.heap.size, 0, none⟩) 1 1) [(qk, (qa1, qa2), (qb1, qb2), (wo, wn, wc))] := by rw [← hWD]; exact hrw0
 clear hrw0
 rw [hWD] at hal4
 obtain ⟨rb, hrb⟩ : ∃ q, WB.heap.size = q := ⟨_, rfl⟩
 rw [hrb] at hal4 hrw
 have s1 := lt_of_heap halWA
 have s2 := lt_of_heap halWB
 have s4 := lt_of_heap hal4
 rw [hbWB] at s1
 rw [hrb] at s2
 have kD2 : Keeps (fun q => q = bWA) WD (WD.setCell ⟨bWA, 3, none⟩ (.slice (some ⟨rb, 0, none⟩) 1 1)) := Keeps.setCell (S := fun q => q = bWA) (Keeps.refl _ _) (p := ⟨bWA, 3, none⟩) (fun _ => rfl) _
 have hpD := ((hkWB.trans hkD).block bWA (lt_of_heap halWA) (fun x => x)).trans halWA
 have HW : Hid ((WD.setCell ⟨bWA, 3, none⟩ (.slice (some ⟨rb, 0, none⟩) 1 1)).heap[bWA]? = some (.cells #[.slice ao an ac, .slice bo bn bc, .slice co cn cc, .slice (some ⟨rb, 0, none⟩) 1 1] 26)) := heap_set hpD 3 _
 have HQB : Hid ((WD.setCell ⟨bWA, 3, none⟩ (.slice (some ⟨rb, 0, none⟩) 1 1)).heap[bWB]? = some (bQ qk qa1 qa2 qb1 qb2 wo wn wc)) := (kD2.block bWB (by have := hkD.size; have := lt_of_heap halWB; omega) (by show ¬ _ = _; omega)).trans ((hkD.block bWB (lt_of_heap halWB) (fun x => x)).trans halWB)
 have HRB : Hid (RdX qE (WD.setCell ⟨bWA, 3, none⟩ (.slice (some ⟨rb, 0, none⟩) 1 1)) (.slice (some ⟨rb, 0, none⟩) 1 1) [(qk, (qa1, qa2), (qb1, qb2), (wo, wn, wc))] (fun _ => True)) := by
  have q0 : RdX qE WD (.slice (some ⟨rb, 0, none⟩) 1 1) [(qk, (qa1, qa2), (qb1, qb2), (wo, wn, wc))] (fun k => k = rb) := ⟨hrw, fun k hk => by simp only [Value.ownBlock, Option.map_some, Option.some.injEq] at hk; exact ⟨by omega, hk.symm⟩⟩
  exact q0.into kD2 (fun k _ e e2 => by have e2 : k = bWA := e2; omega) (fun _ _ _ => trivial)
 have HKD : Hid (KF W (WD.setCell ⟨bWA, 3, none⟩ (.slice (some ⟨rb, 0, none⟩) 1 1))) := (hkWA.trans (hkWB.trans hkD)).trans_new kD2 (fun k hk e => by have e : k = bWA := e; omega)
 obtain ⟨x0, y0, x1, y1, x2, y2, x3, y3, x4, y4, x5, y5⟩ := cf6 halWB
 obtain ⟨z0, u0z, z1, u1z, z2, u2z, z3, u3z⟩ := cf4 hpD
 clear y0 y1 y2 y3 y4 y5 z0 z1 z2 u0z u1z u2z halWA halWB hal4 hkWA hkWB hkD hrw s1 s2 s4 kD2 hpD
 go_enter Tryz.func38, Tryz.ntmps38
 go_upto_region 1 with fail
 (try simp only [hWA, hWB, hbWA, hbWB])
 go_upto_region 2 with fail
 (try simp only [hWD, hrb, hbWA])
 clear x0 x1 x2 x3 x4 x5 z3 u3z hWA hWB hWD hbWA hbWB hrb
 generalize WD.setCell ⟨bWA, 3, none⟩ (.slice (some ⟨rb, 0, none⟩) 1 1) = w1 at *
 obtain ⟨b1, hb1⟩ : ∃ x, qryRB (qk, (qa1, qa2), (qb1, qb2), qw) = x := ⟨_, rfl⟩
 rw [hb1] at HQR HASK
 have HB1 := Lib.hid hb1
 clear hb1
 obtain ⟨x0, y0, x1, y1, x2, y2, x3, y3, x4, y4, x5, y5⟩ := cf6 HQB.out
 clear y0 y1 y2 y3 y4 y5
 by_cases hk6 : qk = 6
 case neg =>
  have hkn : (qk == 6) = false := beq_eq_false_iff_ne.2 hk6
  have HA : Hid (askB p (qk, (qa1, qa2), (qb1, qb2), qw) = false) := by show _ = _; rw [HASK.out, decide_eq_false hk6]; simp
  go_wp2_with fail
  go_ret
  exact ⟨by rw [HA.out]; rfl, HKD⟩
 case pos =>
  subst hk6
  go_wp2_with fail
  refine (HQR.out _ HKD.out).mono ?_
  rintro e w2 ⟨rfl, hk⟩
  clear HQR x0 x1 x2 x3 x4 x5
  have HK2 := Lib.hid (HKD.out.trans hk.out)
  have HW2 := Lib.hid ((hk.out.block _ (lt_of_heap HW.out) (fun x => x)).trans HW.out)
  have HR2 := Lib.hid (HRB.out.keeps hk.out (fun _ _ _ x => x))
  clear HKD HW HQB HRB hk
  obtain ⟨z0, g0, z1, g1, z2, g2, z3, g3⟩ := cf4 HW2.out
  clear g0 g1 g2 g3
  cases b1
  case false =>
   have HA : Hid (askB p (6, (qa1, qa2), (qb1, qb2), qw) = false) := by show _ = _; rw [HASK.out]; rfl
   go_wp2_with fail
   go_ret
   exact ⟨by rw [HA.out]; rfl, HK2⟩
  case true =>
   have HCP := Lib.hid (HPR.out w2 rb HK2.out HR2.out HB1.out (by first | rfl | trivial))
   obtain ⟨b3, hb3⟩ : ∃ x, polRB (p.1, p.2.1, p.2.2.1, [(6, (qa1, qa2), (qb1, qb2), qw)]) = x := ⟨_, rfl⟩
   rw [hb3] at HCP HASK
   have HA : Hid (askB p (6, (qa1, qa2), (qb1, qb2), qw) = b3) := by show _ = _; rw [HASK.out]; cases b3 <;> rfl
   clear hb3 HPR HR2 HASK HB1
   go_wp2_with fail
   refine HCP.out.mono ?_
   rintro e w3 ⟨rfl, hk⟩
   have HK3 := Lib.hid (HK2.out.trans hk.out)
   clear HCP HK2 hk z0 z1 z2 z3
   go_wp2_with fail
   go_ret
   exact ⟨by rw [HA.out]; first | rfl | (cases b3 <;> rfl), HK3⟩
end Go.Proofs.YtededjfjbkcepaaGreat
