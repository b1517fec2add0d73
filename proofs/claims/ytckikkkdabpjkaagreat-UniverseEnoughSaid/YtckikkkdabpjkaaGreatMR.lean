/-
 What may be asked has kinds from 1 to 4; how long a view's rows are.
-/
import Derived.Test.YtckikkkdabpjkaaGreatRelevOf
import Derived.Test.YtckikkkdabpjkaaGreatRelevRef
import Derived.Test.YtckikkkdabpjkaaGreatMC
import Derived.Test.YtckikkkdabpjkaaGreatME
import Derived.Test.YtckikkkdabpjkaaGreatMJ
set_option linter.unusedVariables false
set_option linter.unusedSimpArgs false
set_option linter.unnecessarySimpa false
namespace Go.Proofs.YtckikkkdabpjkaaGreat
open Go.ChangeShapes Go.WideShapes Go.ChangeAt Go.RowKit Go.Deep
theorem kind_of {x : Stm} (h : stmRB x = true) : 1 ≤ x.2.1 ∧ x.2.1 ≤ 4 := by
 unfold stmRB at h
 rw [Bool.and_eq_true] at h
 have h := h.2
 by_cases h1 : x.2.1 = 1
 ·omega
 rw [if_neg h1] at h
 by_cases h2 : x.2.1 = 2
 ·omega
 rw [if_neg h2] at h
 by_cases h3 : x.2.1 = 3
 ·omega
 rw [if_neg h3] at h
 by_cases h4 : x.2.1 = 4
 ·omega
 rw [if_neg h4] at h
 cases h
theorem view_lens {g h R : List Rol} {L : List Str} {l : List Stm} {B : Rol} (hR : R.length ≤ 200) (h1 : l.length ≤ 30) (h2 : g.length ≤ 60) (h3 : h.length ≤ 60) : (tabL (whosV g h l R L)).length ≤ 1000 ∧ (fixV g h l R L).length ≤ 60 ∧ (looseV g h l R L).length ≤ 60 ∧ (sortO rolLt (sigV g h l B R L)).length ≤ 60 := by
 have hf : (l.filter (folB g h R L)).length ≤ l.length := List.length_filter_le _ _
 refine ⟨?_, ?_, ?_, ?_⟩
 ·have a1 := tab_len (whosV g h l R L)
  have a2 : (whosV g h l R L).length ≤ R.length + (l.filter (folB g h R L)).length + (g ++ h).length := by
   unfold whosV
   have b1 : ((l.filter (folB g h R L)).flatMap (fun x => if x.2.1 = 1 then [x.2.2.1] else [])).length ≤ (l.filter (folB g h R L)).length := flat1_len (fun x => by split <;> simp) _
   have b2 : ((g ++ h).filter (fun r => decide (r.2 ∈ L))).length ≤ (g ++ h).length := List.length_filter_le _ _
   simp only [List.length_append, List.length_map] at b2 ⊢
   omega
  rw [List.length_append] at a2
  omega
 ·exact Nat.le_trans (List.length_filter_le _ _) (by omega)
 ·exact Nat.le_trans (List.length_filter_le _ _) (by omega)
 ·refine Nat.le_trans (sortO_len2 _ _) ?_
  unfold sigV
  have b1 : ((l.filter (folB g h R L)).flatMap (fun x => if x.2.1 = 3 ∨ x.2.1 = 4 then [x.2.2.2.1] else [])).length ≤ (l.filter (folB g h R L)).length := flat1_len (fun x => by split <;> simp) _
  rw [List.length_cons]
  omega
end Go.Proofs.YtckikkkdabpjkaaGreat
/-
 The example of layer 20 is as it says.
-/
set_option linter.unusedVariables false
set_option linter.unusedSimpArgs false
set_option linter.unnecessarySimpa false
namespace Go.Proofs.YtckikkkdabpjkaaGreat
open Go.ChangeShapes Go.WideShapes Go.ChangeAt Go.RowKit Go.Deep
set_option maxRecDepth 100000
set_option maxHeartbeats 6400000
def x20 : Stm := (([65], [114]), 2, [], ([66], [115]), ([], []), [])
def p20 : Pol := ([x20], [([65], [114])], [], [])
end Go.Proofs.YtckikkkdabpjkaaGreat
/-
 The laws' guards of a statement, a query, a policy: each answers, and a yes says how long the rows are.
-/
set_option linter.unusedVariables false
set_option linter.unusedSimpArgs false
set_option linter.unnecessarySimpa false
namespace Go.Proofs.YtckikkkdabpjkaaGreat
open Go.ChangeShapes Go.WideShapes Go.ChangeAt Go.RowKit Go.Deep
theorem reads_lit (W : World) (l : List Str) (c : Array Value) (hc : c.toList = l.map encStr) : ReadsS (W.alloc (.cells c 9)) (.slice (some ⟨W.heap.size, 0, none⟩) l.length l.length) l := by
 have ha := (MapKept.heap_alloc W (.cells c 9)).1
 refine ⟨_, _, rfl, Nat.le_refl _, fun _ => ⟨W.heap.size, 0, rfl, lt_of_heap ha, fun j x hj => ?_⟩⟩
 rw [Nat.zero_add, cell_of_heap ha, ← Array.getElem?_toList, hc, List.getElem?_map, hj]
 rfl
theorem PolA.keeps {W W' : World} {v0 v1 v2 v3 : Value} {p : Pol} (h : PolA W v0 v1 v2 v3 p) (hk : KF W W') : PolA W' v0 v1 v2 v3 p := by
 obtain ⟨lv, a1, a2, a3⟩ := h.a
 exact ⟨h.s.keeps hk, h.g.keeps hk, h.h.keeps hk, ⟨lv, a1, a2.keeps hk, fun j q qv x y => ⟨(a3 j q qv x y).1, (a3 j q qv x y).2.1, (a3 j q qv x y).2.2.1, (a3 j q qv x y).2.2.2.keeps hk⟩⟩, fun k hk2 => Nat.lt_of_lt_of_le (h.b0 k hk2) hk.size, fun k hk2 => Nat.lt_of_lt_of_le (h.b1 k hk2) hk.size, fun k hk2 => Nat.lt_of_lt_of_le (h.b2 k hk2) hk.size⟩
theorem PolA.rows {W : World} {v0 v1 v2 v3 : Value} {p : Pol} (h : PolA W v0 v1 v2 v3 p) : PolH W v0 v1 v2 p (fun _ => True) := ⟨⟨h.s, fun k hk => ⟨h.b0 k hk, trivial⟩⟩, ⟨h.g, fun k hk => ⟨h.b1 k hk, trivial⟩⟩, ⟨h.h, fun k hk => ⟨h.b2 k hk, trivial⟩⟩⟩
/-- What a guard answers: a yes says C. -/
def LightTo (C : Prop) (W : World) (e : Ending) (W' : World) : Prop := ∃ b : Bool, e = .returned (.bool b) ∧ Hid ((b = true → C) ∧ KF W W')
set_option maxRecDepth 100000
set_option maxHeartbeats 6400000
theorem slight_spec {W : World} (y : Stm) : Calls Tryz.prog 39 #[stmV y] W fun e W' => ∃ b, e = .returned (.bool b) ∧ Hid (KF W W') := by
 obtain ⟨⟨yh1, yh2⟩, yk, yo, ⟨ya1, ya2⟩, ⟨yb1, yb2⟩, yi⟩ := y
 unfold stmV
 simp only
 have hal := (MapKept.heap_alloc W (bM yk yh1 yh2 yo ya1 ya2 yb1 yb2 yi)).1
 obtain ⟨WA, hWA⟩ : ∃ q, W.alloc (bM yk yh1 yh2 yo ya1 ya2 yb1 yb2 yi) = q := ⟨_, rfl⟩
 have hkA : KF W WA := by rw [← hWA]; exact (Keeps.refl _ _).alloc _
 rw [hWA] at hal
 have hkB : KF WA (WA.alloc (.cells #[.string ⟨yo.toArray⟩, .string ⟨yi.toArray⟩, .string ⟨yh1.toArray⟩, .string ⟨yh2.toArray⟩, .string ⟨ya1.toArray⟩, .string ⟨ya2.toArray⟩, .string ⟨yb1.toArray⟩, .string ⟨yb2.toArray⟩] 9)) := (Keeps.refl _ _).alloc _
 have HRD := Lib.hid (reads_lit WA [yo, yi, yh1, yh2, ya1, ya2, yb1, yb2] #[.string ⟨yo.toArray⟩, .string ⟨yi.toArray⟩, .string ⟨yh1.toArray⟩, .string ⟨yh2.toArray⟩, .string ⟨ya1.toArray⟩, .string ⟨ya2.toArray⟩, .string ⟨yb1.toArray⟩, .string ⟨yb2.toArray⟩] rfl)
 obtain ⟨l8, hl8⟩ : ∃ l, [yo, yi, yh1, yh2, ya1, ya2, yb1, yb2] = l := ⟨_, rfl⟩
 have HL8 : Hid (l8.length = 8) := by rw [← hl8]; exact rfl
 have HK := Lib.hid (hkA.trans hkB)
 rw [hl8, HL8.out] at HRD
 obtain ⟨p0, f0, p1, f1, p2, f2, p3, f3, p4, f4, p5, f5, p6, f6, p7, f7, p8, f8⟩ := cf9 hal
 obtain ⟨xb, hxb⟩ : ∃ q, WA.heap.size = q := ⟨_, rfl⟩
 rw [hxb] at HRD
 clear hl8 hal hkA hkB f0 f1 f2 f3 f4 f5 f6 f7 f8
 go_enter Tryz.func39, Tryz.ntmps39
 go_upto_region 1 with fail
 (try simp only [hWA])
 go_wp2_with fail
 (try simp only [hxb])
 generalize WA.alloc (.cells #[.string ⟨yo.toArray⟩, .string ⟨yi.toArray⟩, .string ⟨yh1.toArray⟩, .string ⟨yh2.toArray⟩, .string ⟨ya1.toArray⟩, .string ⟨ya2.toArray⟩, .string ⟨yb1.toArray⟩, .string ⟨yb2.toArray⟩] 9) = w1 at *
 obtain ⟨xo, hxo⟩ : ∃ xo : Option Addr, some (⟨xb, 0, none⟩ : Addr) = xo := ⟨_, rfl⟩
 rw [hxo] at HRD
 (try simp only [hxo])
 clear hxo p0 p1 p2 p3 p4 p5 p6 p7 p8 hWA hxb
 go_loopg [29] 8 (fun g t wx => ∃ i : Nat, i ≤ 8 ∧ g = 8 - i ∧ t = .int .i64 i ∧ wx = w1)
 case atStart => exact ⟨0, by omega, rfl, rfl, rfl⟩
 case round =>
  obtain ⟨i, hi, rfl, rfl, rfl⟩ := hrel
  by_cases hlt : i < 8
  ·have hiI : (i : Int) < 8 := by omega
   have hwi : IntKind.i64.wrap ((i : Int) + 1) = (i : Int) + 1 := IntWalk.i64_in _ (by omega)
   obtain ⟨y, hy⟩ : ∃ y, l8[i]? = some y := ⟨_, List.getElem?_eq_getElem (by rw [HL8.out]; exact hlt)⟩
   obtain ⟨aoz, cpz, ez, hez, hrz⟩ := id HRD.out
   obtain ⟨g, off, hao, hg, hcc⟩ := hrz (by rw [HL8.out]; omega)
   simp only [Value.slice.injEq] at ez
   obtain ⟨rfl, hzz, rfl⟩ := ez
   subst hao
   have hc : wr.cell? ⟨g, off + i, none⟩ = some (.string ⟨y.toArray⟩) := hcc i y hy
   have hsz : (ByteArray.mk y.toArray).size = y.length := by show y.toArray.size = _; simp
   clear hcc hrz hez hzz hy
   obtain ⟨k, hk⟩ : ∃ k, y.length = k := ⟨_, rfl⟩
   rw [hk] at hsz
   clear hk
   by_cases hy40 : k ≤ 40
   ·have hyI : ¬ (40 : Int) < (k : Int) := by omega
    go_wp2_with fail
    go_roundg (8 - (i + 1))
    case measure => omega
    case rel => exact ⟨i + 1, by omega, rfl, by go_num, rfl⟩
   ·have hyI : (40 : Int) < (k : Int) := by omega
    go_wp2_with fail
    go_ret
    exact ⟨false, rfl, HK⟩
  ·obtain rfl : i = 8 := by omega
   go_wp2_with fail
   go_ret
   exact ⟨true, rfl, HK⟩
theorem qlight_spec {W : World} {wo : Option Addr} {wn wc : Nat} {q : Qry} (hw : ReadsS W (.slice wo wn wc) q.2.2.2) : Calls Tryz.prog 30 #[qryV q (.slice wo wn wc)] W (LightTo (q.2.2.2.length ≤ 40) W) := by
 obtain ⟨qk, ⟨qa1, qa2⟩, ⟨qb1, qb2⟩, qw⟩ := q
 unfold qryV
 simp only at hw ⊢
 have hal := (MapKept.heap_alloc W (bQ qk qa1 qa2 qb1 qb2 wo wn wc)).1
 obtain ⟨WA, hWA⟩ : ∃ q, W.alloc (bQ qk qa1 qa2 qb1 qb2 wo wn wc) = q := ⟨_, rfl⟩
 have hkA : KF W WA := by rw [← hWA]; exact (Keeps.refl _ _).alloc _
 rw [hWA] at hal
 have HC := Lib.hid (light_spec (hw.keeps hkA))
 have HK := Lib.hid hkA
 obtain ⟨lb, hlb⟩ : ∃ b, lightB qw = b := ⟨_, rfl⟩
 have HLB : Hid (lb = true → qw.length ≤ 40) := fun e => by
  rw [← hlb] at e
  unfold lightB at e
  rw [Bool.and_eq_true] at e
  exact of_decide_eq_true e.1
 rw [hlb] at HC
 obtain ⟨p0, f0, p1, f1, p2, f2, p3, f3, p4, f4, p5, f5⟩ := cf6 hal
 clear hlb hal hkA hw f0 f1 f2 f3 f4 f5
 go_enter Tryz.func30, Tryz.ntmps30
 go_upto_region 1 with fail
 (try simp only [hWA])
 clear hWA
 cases lb
 case false =>
  go_wp2_with fail
  refine HC.out.mono ?_
  rintro e w2 ⟨rfl, rfl⟩
  go_wp2_with fail
  go_ret
  exact ⟨false, rfl, Lib.hid ⟨fun e => (by cases e), HK.out⟩⟩
 case true =>
  have HC2 := Lib.hid (light_spec (W := WA.alloc (.cells #[.string ⟨qa1.toArray⟩, .string ⟨qa2.toArray⟩, .string ⟨qb1.toArray⟩, .string ⟨qb2.toArray⟩] 9)) (reads_lit WA [qa1, qa2, qb1, qb2] #[.string ⟨qa1.toArray⟩, .string ⟨qa2.toArray⟩, .string ⟨qb1.toArray⟩, .string ⟨qb2.toArray⟩] rfl))
  have hkB : KF WA (WA.alloc (.cells #[.string ⟨qa1.toArray⟩, .string ⟨qa2.toArray⟩, .string ⟨qb1.toArray⟩, .string ⟨qb2.toArray⟩] 9)) := (Keeps.refl _ _).alloc _
  have HK2 := Lib.hid (HK.out.trans hkB)
  obtain ⟨lb2, hlb2⟩ : ∃ b, lightB [qa1, qa2, qb1, qb2] = b := ⟨_, rfl⟩
  rw [hlb2] at HC2
  simp only [List.length_cons, List.length_nil] at HC2
  clear hkB hlb2 HK
  go_wp2_with fail
  refine HC.out.mono ?_
  rintro e w2 ⟨rfl, rfl⟩
  go_wp2_with fail
  refine HC2.out.mono ?_
  rintro e w3 ⟨rfl, rfl⟩
  go_wp2_with fail
  go_ret
  exact ⟨lb2, rfl, Lib.hid ⟨fun _ => HLB.out (by first | rfl | trivial), HK2.out⟩⟩
theorem plight_spec {W : World} {ao bo co jo : Option Addr} {an ac bn bc cn cc jn jc : Nat} {p : Pol} (h : PolA W (.slice ao an ac) (.slice bo bn bc) (.slice co cn cc) (.slice jo jn jc) p) : Calls Tryz.prog 29 #[.agg #[.slice ao an ac, .slice bo bn bc, .slice co cn cc, .slice jo jn jc]] W (LightTo (p.1.length ≤ 30 ∧ p.2.1.length ≤ 30 ∧ p.2.2.1.length ≤ 30 ∧ p.2.2.2.length ≤ 30) W) := by
 obtain ⟨st, gr, sh, al⟩ := p
 have HS0 := Lib.hid h.s
 have HS1 := Lib.hid h.g
 have HS2 := Lib.hid h.h
 obtain ⟨lv, hlv, hrd, hrel0⟩ := h.a
 simp only at HS0 HS1 HS2 hlv hrd hrel0 ⊢
 clear h
 have HRD := Lib.hid hrd
 have HRL := Lib.hid hrel0
 have nn : ∀ {α : Type} {E : Elt α} {ao : Option Addr} {n c : Nat} {l : List α}, RdK E W (.slice ao n c) l → l.length = n ∧ n ≤ c := fun hq => by
  obtain ⟨_, _, e, hle, _⟩ := hq
  simp only [Value.slice.injEq] at e
  exact ⟨e.2.1.symm, by omega⟩
 have HN0 := Lib.hid (nn HS0.out.1)
 have HN1 := Lib.hid (nn HS1.out.1)
 have HN2 := Lib.hid (nn HS2.out.1)
 have HN3 := Lib.hid (nn hrd)
 have HN3b : Hid (al.length = jn) := hlv.symm.trans HN3.out.1
 clear nn hrd hrel0 hlv
 have hal := (MapKept.heap_alloc W (bP ao an ac bo bn bc co cn cc jo jn jc)).1
 obtain ⟨WA, hWA⟩ : ∃ q, W.alloc (bP ao an ac bo bn bc co cn cc jo jn jc) = q := ⟨_, rfl⟩
 have hkA : KF W WA := by rw [← hWA]; exact (Keeps.refl _ _).alloc _
 rw [hWA] at hal
 have HK := Lib.hid hkA
 have HP := Lib.hid hal
 obtain ⟨wb, hwb⟩ : ∃ q, W.heap.size = q := ⟨_, rfl⟩
 rw [hwb] at HP
 have HLO : Hid (wb < WA.heap.size) := lt_of_heap HP.out
 obtain ⟨p0, f0, p1, f1, p2, f2, p3, f3⟩ := cf4 HP.out
 clear hal hkA f0 f1 f2 f3
 go_enter Tryz.func29, Tryz.ntmps29
 go_upto_region 1 with fail
 (try simp only [hWA, hwb])
 clear hWA hwb
 by_cases h0 : an ≤ 30
 case neg =>
  have g0 : (30 : Int) < (an : Int) := by omega
  go_wp2_with fail
  go_ret
  exact ⟨false, rfl, Lib.hid ⟨fun e => (by cases e), HK.out⟩⟩
 case pos =>
  have g0 : ¬ (30 : Int) < (an : Int) := by omega
  by_cases h1 : bn ≤ 30
  case neg =>
   have g1 : (30 : Int) < (bn : Int) := by omega
   go_wp2_with fail
   go_ret
   exact ⟨false, rfl, Lib.hid ⟨fun e => (by cases e), HK.out⟩⟩
  case pos =>
   have g1 : ¬ (30 : Int) < (bn : Int) := by omega
   by_cases h2 : cn ≤ 30
   case neg =>
    have g2 : (30 : Int) < (cn : Int) := by omega
    go_wp2_with fail
    go_ret
    exact ⟨false, rfl, Lib.hid ⟨fun e => (by cases e), HK.out⟩⟩
   case pos =>
    have g2 : ¬ (30 : Int) < (cn : Int) := by omega
    by_cases h3 : jn ≤ 30
    case neg =>
     have g3 : (30 : Int) < (jn : Int) := by omega
     go_wp2_with fail
     go_ret
     exact ⟨false, rfl, Lib.hid ⟨fun e => (by cases e), HK.out⟩⟩
    case pos =>
     have g3 : ¬ (30 : Int) < (jn : Int) := by omega
     go_upto_if 30 with fail
     go_wp2_with fail
     have HK1 : Hid (KF WA WA) := Keeps.refl _ _
     go_loopg [34] an (fun g t wx => ∃ i : Nat, i ≤ an ∧ g = an - i ∧ t = .int .i64 i ∧ Hid (KF WA wx))
     case atStart => exact ⟨0, Nat.zero_le _, rfl, rfl, HK1.out⟩
     case round =>
      clear HK1
      obtain ⟨i, hi, rfl, rfl, HI⟩ := hrel
      by_cases hlt : i < an
      ·skip
       have hiI : (i : Int) < (an : Int) := by omega
       have hwi : IntKind.i64.wrap ((i : Int) + 1) = (i : Int) + 1 := IntWalk.i64_in _ (by omega)
       obtain ⟨y, hy⟩ : ∃ y, st[i]? = some y := ⟨_, List.getElem?_eq_getElem (by rw [HN0.out.1]; exact hlt)⟩
       obtain ⟨aoz, cpz, ez, hez, hrz⟩ := id ((HS0.out.keeps (HK.out.trans HI.out)).1)
       obtain ⟨g, off, hao, hg, hcc⟩ := hrz (by rw [HN0.out.1]; omega)
       simp only [Value.slice.injEq] at ez
       obtain ⟨rfl, hzz, rfl⟩ := ez
       subst hao
       have hicap : i < ac := by have := HN0.out.2; omega
       have hc := hcc i y hy
       obtain ⟨⟨yh1, yh2⟩, yk, yo, ⟨ya1, ya2⟩, ⟨yb1, yb2⟩, yi⟩ := y
       clear hcc hrz hez hzz hy
       obtain ⟨c0, c1, c2, c3, c4, c5, c6, c7, c8⟩ := n9 hc
       have hka : KF wr (wr.alloc (bM yk yh1 yh2 yo ya1 ya2 yb1 yb2 yi)) := (Keeps.refl _ _).alloc _
       have hal := (MapKept.heap_alloc wr (bM yk yh1 yh2 yo ya1 ya2 yb1 yb2 yi)).1
       obtain ⟨b, hb⟩ : ∃ b, wr.heap.size = b := ⟨_, rfl⟩
       rw [hb] at hal
       have HK2 := Lib.hid (HI.out.trans hka)
       have HB := Lib.hid hal
       have HC := Lib.hid (slight_spec (W := wr.alloc (bM yk yh1 yh2 yo ya1 ya2 yb1 yb2 yi)) ((yh1, yh2), yk, yo, (ya1, ya2), (yb1, yb2), yi))
       unfold stmV at HC
       simp only at HC
       go_upto_region 6 with fail
       (try simp only [hb])
       clear hka hb hal hc hg HI c0 c1 c2 c3 c4 c5 c6 c7 c8
       generalize wr.alloc (bM yk yh1 yh2 yo ya1 ya2 yb1 yb2 yi) = w2 at *
       obtain ⟨k0, l0, k1, l1, k2, l2, k3, l3, k4, l4, k5, l5, k6, l6, k7, l7, k8, l8⟩ := cf9 HB.out
       clear l0 l1 l2 l3 l4 l5 l6 l7 l8
       go_wp2_with fail
       refine HC.out.mono ?_
       rintro e w3 ⟨b3, rfl, hk⟩
       have HK3 := Lib.hid (HK2.out.trans hk.out)
       clear HC HK2 HB hk k0 k1 k2 k3 k4 k5 k6 k7 k8
       cases b3
       case false =>
        go_wp2_with fail
        go_ret
        exact ⟨false, rfl, Lib.hid ⟨fun e => (by cases e), HK.out.trans HK3.out⟩⟩
       case true =>
        go_wp2_with fail
        go_roundg (an - (i + 1))
        case measure => omega
        case rel => exact ⟨i + 1, by omega, rfl, by go_num, HK3⟩
      ·obtain rfl : an = i := by omega
       have hiI : ¬ (an : Int) < (an : Int) := by omega
       have HK1 := Lib.hid HI.out
       clear HI
       have HPW := Lib.hid ((HK1.out.block _ (lt_of_heap HP.out) (fun x => x)).trans HP.out)
       clear p0 p1 p2 p3
       obtain ⟨p0, f0, p1, f1, p2, f2, p3, f3⟩ := cf4 HPW.out
       clear f0 f1 f2 f3 HPW
       go_wp2_with fail
       go_loopg [45] jn (fun g t wx => ∃ i : Nat, i ≤ jn ∧ g = jn - i ∧ t = .int .i64 i ∧ Hid (KF WA wx))
       case atStart => exact ⟨0, Nat.zero_le _, rfl, rfl, HK1.out⟩
       case round =>
        clear HK1
        obtain ⟨i, hi, rfl, rfl, HI⟩ := hrel
        by_cases hlt : i < jn
        ·skip
         have hiI : (i : Int) < (jn : Int) := by omega
         have hwi : IntKind.i64.wrap ((i : Int) + 1) = (i : Int) + 1 := IntWalk.i64_in _ (by omega)
         obtain ⟨y, hy⟩ : ∃ y, lv[i]? = some y := ⟨_, List.getElem?_eq_getElem (by rw [HN3.out.1]; exact hlt)⟩
         obtain ⟨aoz, cpz, ez, hez, hrz⟩ := id (HRD.out.keeps (HK.out.trans HI.out))
         obtain ⟨g, off, hao, hg, hcc⟩ := hrz (by rw [HN3.out.1]; omega)
         simp only [Value.slice.injEq] at ez
         obtain ⟨rfl, hzz, rfl⟩ := ez
         subst hao
         have hicap : i < jc := by have := HN3.out.2; omega
         have hc := hcc i y hy
         obtain ⟨q, hq⟩ : ∃ q, al[i]? = some q := ⟨_, List.getElem?_eq_getElem (by rw [HN3b.out]; exact hlt)⟩
         obtain ⟨r1, r2, r3, r4⟩ := HRL.out i q y hq hy
         obtain ⟨yk, ⟨ya1, ya2⟩, ⟨yb1, yb2⟩, yo, yn, yc⟩ := y
         obtain ⟨zk, ⟨za1, za2⟩, ⟨zb1, zb2⟩, zw⟩ := q
         simp only [Prod.mk.injEq] at r1 r2 r3
         obtain ⟨rfl, rfl⟩ := r2
         obtain ⟨rfl, rfl⟩ := r3
         subst r1
         have r5 : ReadsS W (.slice yo yn yc) zw := r4
         clear hcc hrz hez hzz hy hq r4
         have c0 : wr.cell? ⟨g, off + i * 6, none⟩ = some (.int .i64 yk) := hc 0 _ rfl
         have c1 : wr.cell? ⟨g, off + i * 6 + 1, none⟩ = some (.string ⟨ya1.toArray⟩) := hc 1 _ rfl
         have c2 : wr.cell? ⟨g, off + i * 6 + 2, none⟩ = some (.string ⟨ya2.toArray⟩) := hc 2 _ rfl
         have c3 : wr.cell? ⟨g, off + i * 6 + 3, none⟩ = some (.string ⟨yb1.toArray⟩) := hc 3 _ rfl
         have c4 : wr.cell? ⟨g, off + i * 6 + 4, none⟩ = some (.string ⟨yb2.toArray⟩) := hc 4 _ rfl
         have c5 : wr.cell? ⟨g, off + i * 6 + 5, none⟩ = some (.slice yo yn yc) := hc 5 _ rfl
         have hka : KF wr (wr.alloc (bQ yk ya1 ya2 yb1 yb2 yo yn yc)) := (Keeps.refl _ _).alloc _
         have hal := (MapKept.heap_alloc wr (bQ yk ya1 ya2 yb1 yb2 yo yn yc)).1
         obtain ⟨b, hb⟩ : ∃ b, wr.heap.size = b := ⟨_, rfl⟩
         rw [hb] at hal
         have HK2 := Lib.hid (HI.out.trans hka)
         have HB := Lib.hid hal
         have HC := Lib.hid (qlight_spec (W := wr.alloc (bQ yk ya1 ya2 yb1 yb2 yo yn yc)) (q := (yk, (ya1, ya2), (yb1, yb2), zw)) (r5.keeps (HK.out.trans HK2.out)))
         unfold qryV at HC
         simp only at HC
         go_upto_region 12 with fail
         (try simp only [hb])
         clear hka hb hal hc hg HI r5 c0 c1 c2 c3 c4 c5
         generalize wr.alloc (bQ yk ya1 ya2 yb1 yb2 yo yn yc) = w2 at *
         obtain ⟨k0, l0, k1, l1, k2, l2, k3, l3, k4, l4, k5, l5⟩ := cf6 HB.out
         clear l0 l1 l2 l3 l4 l5
         go_wp2_with fail
         refine HC.out.mono ?_
         rintro e w3 ⟨b3, rfl, hk⟩
         have HK3 := Lib.hid (HK2.out.trans hk.out.2)
         clear HC HK2 HB hk k0 k1 k2 k3 k4 k5
         cases b3
         case false =>
          go_wp2_with fail
          go_ret
          exact ⟨false, rfl, Lib.hid ⟨fun e => (by cases e), HK.out.trans HK3.out⟩⟩
         case true =>
          go_wp2_with fail
          go_roundg (jn - (i + 1))
          case measure => omega
          case rel => exact ⟨i + 1, by omega, rfl, by go_num, HK3⟩
        ·obtain rfl : jn = i := by omega
         have hiI : ¬ (jn : Int) < (jn : Int) := by omega
         have HK1 := Lib.hid HI.out
         clear HI
         have HPW := Lib.hid ((HK1.out.block _ (lt_of_heap HP.out) (fun x => x)).trans HP.out)
         clear p0 p1 p2 p3
         obtain ⟨p0, f0, p1, f1, p2, f2, p3, f3⟩ := cf4 HPW.out
         clear f0 f1 f2 f3 p0 p3 HPW
         obtain ⟨bs, hbs⟩ : ∃ q, wr.heap.size = q := ⟨_, rfl⟩
         have HBS := Lib.hid hbs
         clear hbs
         go_upto_region 15 with fail
         have HMK92 : Hid (∀ w' : World, KF wr w' → w'.cell? ⟨wb, 1, none⟩ = some (.slice bo bn bc) ∧ w'.cell? ⟨wb, 2, none⟩ = some (.slice co cn cc)) := fun w' hk => ⟨kc hk p1, kc hk p2⟩
         have HKX92 : Hid (KF wr wr.drew) := (Keeps.refl _ _).drew
         have hS0 := HMK92.out _ HKX92.out
         clear p1 p2
         refine wp_region_noPanic ?_
         refine wp_region_held_drew (S := (fun w' => w'.cell? ⟨wb, 1, none⟩ = some (.slice bo bn bc) ∧ w'.cell? ⟨wb, 2, none⟩ = some (.slice co cn cc))) (by kernel_rfl) hS0 (fun hHeld => ?_)
         clear hS0
         generalize wr.drew = wA at *
         refine tk 1 rfl hHeld ?_
         refine tk 2 rfl hHeld ?_
         refine tk 4 rfl hHeld ?_
         (try simp only [nz])
         refine tk 5 rfl hHeld ?_
         refine tk 8 rfl hHeld ?_
         (try simp only [nz])
         refine on1 0 rfl fun KK hK => ?_
         have hkE : KF wA (wA.alloc (.cells #[] 28)) := (Keeps.refl _ _).alloc _
         have HOW : Hid (OwnK rolE bs (wA.alloc (.cells #[] 28)) (.slice (some ⟨wA.heap.size, 0, none⟩) 0 0) ([] : List Rol)) := ownK_lit rolE (by have := HKX92.out.size; have := HBS.out; omega)
         replace HKX92 := Lib.hid (HKX92.out.trans hkE)
         clear hkE
         go_simp
         refine hK.out _ _ (HMK92.out _ HKX92.out) fun hHeld => ?_
         clear hK KK
         (try simp only [nz])
         generalize (wA.alloc (.cells #[] 28)) = wB at *
         obtain ⟨ev, hev⟩ : ∃ ev, Value.slice (some ⟨wA.heap.size, 0, none⟩) 0 0 = ev := ⟨_, rfl⟩
         (try simp only [hev])
         (try simp only [hev] at HOW)
         clear hev
         refine on1 3 rfl fun KK hK => ?_
         have hlo : bs ≤ wB.heap.size := by have := HKX92.out.size; have := HBS.out; omega
         refine step_app_k (E := rolE) rfl (.tmp 53) (.tmp 55) rfl bs ev [] (by simp [Act.eval, Act.put] <;> rfl) HOW.out _ gr (by simp [Act.eval, Act.put] <;> rfl) (HS1.out.keeps (HK.out.trans (HK1.out.trans HKX92.out))) (by have := HN1.out.1; have := HN2.out.1; simp; omega) hlo ?_
         intro evC wC ho hk
         have hk0 : KF wr wC := HKX92.out.trans_new hk (fun q hq e => by have := own_block HOW.out q e; have := HBS.out; omega)
         replace HKX92 := Lib.hid hk0
         replace HOW := Lib.hid ho
         clear hk0 hk ho hlo
         (try go_simp)
         refine hK.out _ _ (HMK92.out _ HKX92.out) fun hHeld => ?_
         clear hK KK
         (try simp only [nz])
         refine on1 6 rfl fun KK hK => ?_
         have hlo : bs ≤ wC.heap.size := by have := HKX92.out.size; have := HBS.out; omega
         refine step_app_k (E := rolE) rfl (.tmp 56) (.tmp 58) rfl bs evC ([] ++ gr) (by simp [Act.eval, Act.put] <;> rfl) HOW.out _ sh (by simp [Act.eval, Act.put] <;> rfl) (HS2.out.keeps (HK.out.trans (HK1.out.trans HKX92.out))) (by have := HN1.out.1; have := HN2.out.1; simp; omega) hlo ?_
         intro evD wD ho hk
         have hk0 : KF wr wD := HKX92.out.trans_new hk (fun q hq e => by have := own_block HOW.out q e; have := HBS.out; omega)
         replace HKX92 := Lib.hid hk0
         replace HOW := Lib.hid ho
         clear hk0 hk ho hlo
         (try go_simp)
         refine hK.out _ _ (HMK92.out _ HKX92.out) fun hHeld => ?_
         clear hK KK
         (try simp only [nz])
         obtain ⟨C, hC⟩ : ∃ C, [] ++ gr ++ sh = C := ⟨_, rfl⟩
         have hcl : C.length ≤ 120 := by have := HN1.out.1; have := HN2.out.1; rw [← hC]; simp; omega
         rw [hC] at HOW
         clear hC
         obtain ⟨co5, cc5, hv5, hle5, _⟩ := id HOW.out.reads
         obtain ⟨nC, hnC⟩ : ∃ n, C.length = n := ⟨_, rfl⟩
         have HNC := Lib.hid hnC
         rw [hnC] at hv5 hle5 hcl
         subst hv5
         clear hnC
         refine on1 7 rfl fun KK hK => ?_
         go_simp
         refine hK.out _ _ (HMK92.out _ HKX92.out) fun hHeld => ?_
         clear hK KK
         (try simp only [nz])
         refine wpAnyH_done (by kernel_rfl) ?_ _
         refine NoPanic.normal ?_
         clear hHeld HMK92
         have HCR := Lib.hid HOW.out.reads
         have HKD := Lib.hid (HK1.out.trans HKX92.out)
         have HK1 : Hid (KF wD wD) := Keeps.refl _ _
         clear HOW HKX92 HBS
         go_wp2_with fail
         go_loopg [61] nC (fun g t wx => ∃ i : Nat, i ≤ nC ∧ g = nC - i ∧ t = .int .i64 i ∧ Hid (KF wD wx))
         case atStart => exact ⟨0, Nat.zero_le _, rfl, rfl, HK1.out⟩
         case round =>
          clear HK1
          obtain ⟨i, hi, rfl, rfl, HI⟩ := hrel
          by_cases hlt : i < nC
          ·skip
           have hiI : (i : Int) < (nC : Int) := by omega
           have hwi : IntKind.i64.wrap ((i : Int) + 1) = (i : Int) + 1 := IntWalk.i64_in _ (by omega)
           obtain ⟨y, hy⟩ : ∃ y, C[i]? = some y := ⟨_, List.getElem?_eq_getElem (by rw [HNC.out]; exact hlt)⟩
           obtain ⟨aoz, cpz, ez, hez, hrz⟩ := id (HCR.out.keeps HI.out)
           obtain ⟨g, off, hao, hg, hcc⟩ := hrz (by rw [HNC.out]; omega)
           simp only [Value.slice.injEq] at ez
           obtain ⟨rfl, hzz, rfl⟩ := ez
           subst hao
           have hicap : i < cc5 := by have := hle5; omega
           have hc := hcc i y hy
           obtain ⟨yr1, yr2⟩ := y
           clear hcc hrz hez hzz hy
           have c0 : wr.cell? ⟨g, off + i * 2, none⟩ = some (.string ⟨yr1.toArray⟩) := hc 0 _ rfl
           have c1 : wr.cell? ⟨g, off + i * 2 + 1, none⟩ = some (.string ⟨yr2.toArray⟩) := hc 1 _ rfl
           have hka : KF wr (wr.alloc (bR yr1 yr2)) := (Keeps.refl _ _).alloc _
           have hal := (MapKept.heap_alloc wr (bR yr1 yr2)).1
           obtain ⟨b, hb⟩ : ∃ b, wr.heap.size = b := ⟨_, rfl⟩
           rw [hb] at hal
           have HK2 := Lib.hid (HI.out.trans hka)
           have HB := Lib.hid hal
           have hz1 : (ByteArray.mk yr1.toArray).size = yr1.length := by show yr1.toArray.size = _; simp
           have hz2 : (ByteArray.mk yr2.toArray).size = yr2.length := by show yr2.toArray.size = _; simp
           obtain ⟨k1, hk1⟩ : ∃ k, yr1.length = k := ⟨_, rfl⟩
           obtain ⟨k2, hk2⟩ : ∃ k, yr2.length = k := ⟨_, rfl⟩
           rw [hk1] at hz1
           rw [hk2] at hz2
           clear hk1 hk2
           go_upto_region 18 with fail
           (try simp only [hb])
           clear hka hb hal hc hg HI c0 c1
           generalize wr.alloc (bR yr1 yr2) = w2 at *
           obtain ⟨x0, y0, x1, y1⟩ := cf2 HB.out
           clear y0 y1
           by_cases hh0 : k1 ≤ 40
           case neg =>
            have gg0 : (40 : Int) < (k1 : Int) := by omega
            go_wp2_with fail
            go_ret
            exact ⟨false, rfl, Lib.hid ⟨fun e => (by cases e), HK.out.trans (HKD.out.trans HK2.out)⟩⟩
           case pos =>
            have gg0 : ¬ (40 : Int) < (k1 : Int) := by omega
            by_cases hh1 : k2 ≤ 40
            case neg =>
             have gg1 : (40 : Int) < (k2 : Int) := by omega
             go_wp2_with fail
             go_ret
             exact ⟨false, rfl, Lib.hid ⟨fun e => (by cases e), HK.out.trans (HKD.out.trans HK2.out)⟩⟩
            case pos =>
             have gg1 : ¬ (40 : Int) < (k2 : Int) := by omega
             go_wp2_with fail
             go_roundg (nC - (i + 1))
             case measure => omega
             case rel => exact ⟨i + 1, by omega, rfl, by go_num, HK2⟩
          ·obtain rfl : nC = i := by omega
           have hiI : ¬ (nC : Int) < (nC : Int) := by omega
           have HK1 := Lib.hid HI.out
           clear HI
           go_wp2_with fail
           go_ret
           exact ⟨true, rfl, Lib.hid ⟨fun _ => ⟨by rw [HN0.out.1]; exact h0, by rw [HN1.out.1]; exact h1, by rw [HN2.out.1]; exact h2, by rw [HN3b.out]; exact h3⟩, HK.out.trans (HKD.out.trans HK1.out)⟩⟩
end Go.Proofs.YtckikkkdabpjkaaGreat
