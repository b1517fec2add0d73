/-
 Rows of pairs in memory; is a principal in a role, of what was found?
-/
import Derived.Test.YtckikkkdabpjkaaGreatKitSq
import Derived.Test.YtckikkkdabpjkaaGreatMN
import Derived.Test.YtckikkkdabpjkaaGreatME
import Derived.Test.YtckikkkdabpjkaaGreatStmEql
import Derived.Test.YtckikkkdabpjkaaGreatRelevFol
import Derived.Test.YtckikkkdabpjkaaGreatMJ
set_option linter.unusedVariables false
set_option linter.unusedSimpArgs false
set_option linter.unnecessarySimpa false
namespace Go.Proofs.YtckikkkdabpjkaaGreat
open Go.ChangeShapes Go.WideShapes Go.ChangeAt Go.RowKit Go.Deep
def prEnc (x : Pr) : List Value := [.string ⟨x.1.1.toArray⟩, .string ⟨x.1.2.toArray⟩, .string ⟨x.2.toArray⟩]
theorem prInfo : (Tryz.prog.info? 136).map (fun i => (i.zero, i.size, i.bytes)) = some (some (.agg #[.string ⟨#[]⟩, .string ⟨#[]⟩, .string ⟨#[]⟩]), 3, 48) := by kernel_rfl
theorem pr_one (x : Pr) : ∀ v ∈ prEnc x, v.oneCell' = true := fun v hv => by
 unfold prEnc at hv
 simp only [List.mem_cons, List.not_mem_nil, or_false] at hv
 rcases hv with rfl | rfl | rfl <;> rfl
def prE : Elt Pr where
 enc := prEnc
 k := 3
 pos := by decide
 len := fun _ => rfl
 one := pr_one
 T := 136
 S := 97
 z := .agg #[.string ⟨#[]⟩, .string ⟨#[]⟩, .string ⟨#[]⟩]
 bytes := 48
 hS := Tryz.underlying97
 hT := prInfo
 hz := rfl
 hb := by decide
theorem cf3 {W : World} {T : TypeId} {B : Nat} {u0 u1 u2 : Value} (h : W.heap[B]? = some (.cells #[u0, u1, u2] T)) : W.cell? ⟨B, 0, none⟩ = some u0 ∧ W.frozen? ⟨B, 0, none⟩ = false ∧ W.cell? ⟨B, 1, none⟩ = some u1 ∧ W.frozen? ⟨B, 1, none⟩ = false ∧ W.cell? ⟨B, 2, none⟩ = some u2 ∧ W.frozen? ⟨B, 2, none⟩ = false := ⟨by rw [cell_of_heap h]; rfl, Lib.frozen_of_heap h 0, by rw [cell_of_heap h]; rfl, Lib.frozen_of_heap h 1, by rw [cell_of_heap h]; rfl, Lib.frozen_of_heap h 2⟩
set_option maxRecDepth 100000
set_option maxHeartbeats 6400000
theorem pin_spec {W : World} {v : Value} {l : List Pr} (h : RdK prE W v l) (hl : l.length ≤ 1000000) (r : Rol) (w : Str) :
 Calls Tryz.prog 133 #[v, rolV2 r, .string ⟨w.toArray⟩] W fun e W' => e = .returned (.bool (decide ((r, w) ∈ l))) ∧ Hid (KF W W') := by
 have HV := Lib.hid h
 obtain ⟨ao, cap, rfl, hle, hr⟩ := h
 obtain ⟨n, hn⟩ : ∃ n, l.length = n := ⟨_, rfl⟩
 rw [hn] at hle hl HV ⊢
 have HN := Lib.hid hn
 have HX : Hid (∀ (i : Nat) (y : Pr), l[i]? = some y → y = (r, w) → decide ((r, w) ∈ l) = true) := fun i y hy e => decide_eq_true (by rw [← e]; exact List.mem_of_getElem? hy)
 have HO : Hid ((r, w) ∉ l.take n → decide ((r, w) ∈ l) = false) := fun h => decide_eq_false (by rw [← hn, List.take_length] at h; exact h)
 obtain ⟨res, hres⟩ : ∃ q, decide ((r, w) ∈ l) = q := ⟨_, rfl⟩
 rw [hres] at HX HO ⊢
 clear hr hn hres
 obtain ⟨s1, s2⟩ := r
 obtain ⟨WA, hWA⟩ : ∃ WA, W.alloc (bR s1 s2) = WA := ⟨_, rfl⟩
 have hal := (MapKept.heap_alloc W (bR s1 s2)).1
 have HK0 : Hid (KF W WA) := by rw [← hWA]; exact (Keeps.refl _ _).alloc _
 rw [hWA] at hal
 obtain ⟨rb, hrb⟩ : ∃ q, W.heap.size = q := ⟨_, rfl⟩
 rw [hrb] at hal
 have HA := Lib.hid hal
 clear hal
 unfold rolV2
 go_enter Tryz.func133, Tryz.ntmps133
 go_upto_region 1 with fail
 (try simp only [hWA, hrb])
 clear hWA hrb
 go_wp2_with fail
 go_loopg [11] n (fun g t wx => ∃ i : Nat, i ≤ n ∧ g = n - i ∧ t = .int .i64 i ∧ Hid ((((s1, s2), w) : Pr) ∉ l.take i ∧ KF WA wx))
 case atStart => exact ⟨0, Nat.zero_le _, rfl, rfl, by simp, Keeps.refl _ _⟩
 case round =>
  obtain ⟨i, hi, rfl, rfl, HI⟩ := hrel
  by_cases hlt : i < n
  ·have hiI : (i : Int) < (n : Int) := by omega
   have hwi : IntKind.i64.wrap ((i : Int) + 1) = (i : Int) + 1 := IntWalk.i64_in _ (by omega)
   obtain ⟨y, hy⟩ : ∃ y, l[i]? = some y := ⟨_, List.getElem?_eq_getElem (by rw [HN.out]; exact hlt)⟩
   obtain ⟨aoz, cpz, ez, hez, hrz⟩ := id (HV.out.keeps (HK0.out.trans HI.out.2))
   obtain ⟨g, off, hao, hg, hcc⟩ := hrz (by rw [HN.out]; omega)
   simp only [Value.slice.injEq] at ez
   obtain ⟨rfl, hzz, rfl⟩ := ez
   subst hao
   have hicap : i < cap := by omega
   have hc := hcc i y hy
   have HY := Lib.hid hy
   obtain ⟨⟨y1, y2⟩, y3⟩ := y
   clear hcc hrz hez hzz hy
   have c0 : wr.cell? ⟨g, off + i * 3, none⟩ = some (.string ⟨y1.toArray⟩) := hc 0 _ rfl
   have c1 : wr.cell? ⟨g, off + i * 3 + 1, none⟩ = some (.string ⟨y2.toArray⟩) := hc 1 _ rfl
   have c2 : wr.cell? ⟨g, off + i * 3 + 2, none⟩ = some (.string ⟨y3.toArray⟩) := hc 2 _ rfl
   have hka : KF wr (wr.alloc (.cells #[.string ⟨y1.toArray⟩, .string ⟨y2.toArray⟩, .string ⟨y3.toArray⟩] 136)) := (Keeps.refl _ _).alloc _
   have hal := (MapKept.heap_alloc wr (.cells #[.string ⟨y1.toArray⟩, .string ⟨y2.toArray⟩, .string ⟨y3.toArray⟩] 136)).1
   have HK2 := Lib.hid (HI.out.2.trans hka)
   have HA2 := Lib.hid ((HK2.out.block _ (lt_of_heap HA.out) (fun x => x)).trans HA.out)
   have HNI := Lib.hid HI.out.1
   obtain ⟨b, hb⟩ : ∃ b, wr.heap.size = b := ⟨_, rfl⟩
   rw [hb] at hal
   have HB := Lib.hid hal
   go_upto_region 4 with fail
   (try simp only [hb])
   clear hka hal hb hc hg HI c0 c1 c2
   generalize wr.alloc (.cells #[.string ⟨y1.toArray⟩, .string ⟨y2.toArray⟩, .string ⟨y3.toArray⟩] 136) = w2 at *
   obtain ⟨p0, f0, p1, f1, p2, f2⟩ := cf3 HB.out
   obtain ⟨q0, g0, q1, g1⟩ := cf2 HA2.out
   clear f0 f1 f2 g0 g1
   have qe : ∀ w : World, (binOp .eql 28 (.agg #[.string ⟨y1.toArray⟩, .string ⟨y2.toArray⟩]) (.agg #[.string ⟨s1.toArray⟩, .string ⟨s2.toArray⟩])).run Tryz.prog w = .ok (.bool (decide (((y1, y2) : Rol) = (s1, s2)))) w := rol_eql (y1, y2) (s1, s2)
   obtain ⟨be, hbe⟩ : ∃ x, decide (((y1, y2) : Rol) = (s1, s2)) = x := ⟨_, rfl⟩
   rw [hbe] at qe
   have HBE := Lib.hid hbe
   clear hbe
   have HNX : Hid (¬ (be = true ∧ y3 = w) → (((s1, s2), w) : Pr) ∉ l.take (i + 1)) := fun hn => by
    rw [List.take_add_one, HY.out, List.mem_append]
    rintro (q | q)
    ·exact HNI.out q
    ·simp only [Option.toList_some, List.mem_singleton, Prod.mk.injEq] at q
     refine hn ⟨?_, q.2.symm⟩
     rw [← HBE.out]
     exact decide_eq_true (Prod.ext q.1.1.symm q.1.2.symm)
   have HYS : Hid (be = true ∧ y3 = w → res = true) := fun e => HX.out i _ HY.out (by
    obtain ⟨e1, e2⟩ := e
    rw [← HBE.out] at e1
    rw [of_decide_eq_true e1, e2])
   have HKE : Hid (KF W w2) := HK0.out.trans HK2.out
   clear HX HO HY HNI HBE HB HA2
   cases be
   case false =>
    have HN2 : Hid ((((s1, s2), w) : Pr) ∉ l.take (i + 1)) := HNX.out (fun e => by cases e.1)
    clear HNX HYS HKE
    go_wp2_with fail
    go_roundg (n - (i + 1))
    case measure => omega
    case rel => exact ⟨i + 1, by omega, rfl, by go_num, HN2.out, HK2.out⟩
   case true =>
    by_cases e3 : y3 = w
    ·have hr1 : res = true := HYS.out ⟨rfl, e3⟩
     subst hr1
     subst e3
     clear HNX HYS
     go_wp2_with fail
     go_ret
     exact ⟨rfl, HKE⟩
    ·have HN2 : Hid ((((s1, s2), w) : Pr) ∉ l.take (i + 1)) := HNX.out (fun e => e3 e.2)
     have hb3 := beq_eq_false_iff_ne.2 e3
     clear HNX HYS HKE e3
     go_wp2_with fail
     go_roundg (n - (i + 1))
     case measure => omega
     case rel => exact ⟨i + 1, by omega, rfl, by go_num, HN2.out, HK2.out⟩
  ·obtain rfl : i = n := by omega
   have hiI : ¬ (i : Int) < (i : Int) := by omega
   have hr1 : res = false := HO.out HI.out.1
   subst hr1
   have HE : Hid (KF W wr) := HK0.out.trans HI.out.2
   clear HI HX HO
   go_wp2_with fail
   go_ret
   exact ⟨rfl, HE⟩
end Go.Proofs.YtckikkkdabpjkaaGreat
/-
 Who is in a role, of what was found, rising.
-/
set_option linter.unusedVariables false
set_option linter.unusedSimpArgs false
set_option linter.unnecessarySimpa false
namespace Go.Proofs.YtckikkkdabpjkaaGreat
open Go.ChangeShapes Go.WideShapes Go.ChangeAt Go.RowKit Go.Deep
def memL (l : List Pr) (r : Rol) : List Str := tabL ((l.filter (fun x => decide (x.1 = r))).map (·.2))
theorem memL_mem {l : List Pr} {r : Rol} {w : Str} : w ∈ memL l r ↔ (r, w) ∈ l := by
 unfold memL
 rw [tab_mem, List.mem_map]
 constructor
 ·rintro ⟨x, hx, rfl⟩
  obtain ⟨h1, h2⟩ := List.mem_filter.1 hx
  rw [← of_decide_eq_true h2]
  exact h1
 ·exact fun h => ⟨(r, w), List.mem_filter.2 ⟨h, decide_eq_true rfl⟩, rfl⟩
theorem memL_rises (l : List Pr) (r : Rol) : (memL l r).Pairwise (· < ·) := tab_rises _
theorem memL_same {l l' : List Pr} {r : Rol} (h : ∀ w, (r, w) ∈ l ↔ (r, w) ∈ l') : memL l r = memL l' r := strO.rises_eq (memL_rises l r) (memL_rises l' r) (fun w => by rw [memL_mem, memL_mem]; exact h w)
theorem memL_len (l : List Pr) (r : Rol) : (memL l r).length ≤ l.length := by
 unfold memL
 refine Nat.le_trans (tab_len _) ?_
 rw [List.length_map]
 exact List.length_filter_le _ _
theorem memL_yes {l : List Pr} {i : Nat} {x : Pr} (hx : l[i]? = some x) : putS (memL (l.take i) x.1) x.2 = memL (l.take (i + 1)) x.1 :=
 strO.rises_eq (put_rises (memL_rises _ _) _) (memL_rises _ _) (fun w => by
  rw [put_mem, memL_mem, memL_mem, List.take_add_one, hx, List.mem_append]
  refine or_congr Iff.rfl ⟨fun e => by rw [e]; exact List.mem_singleton.2 rfl, fun e => ?_⟩
  have e := List.mem_singleton.1 e
  rw [← e])
theorem memL_no {l : List Pr} {i : Nat} {x : Pr} (hx : l[i]? = some x) {r : Rol} (hr : x.1 ≠ r) : memL (l.take (i + 1)) r = memL (l.take i) r :=
 strO.rises_eq (memL_rises _ _) (memL_rises _ _) (fun w => by
  rw [memL_mem, memL_mem, List.take_add_one, hx, List.mem_append]
  refine ⟨fun q => q.elim id (fun e => ?_), .inl⟩
  have e := List.mem_singleton.1 e
  exact absurd (by rw [← e]) hr)
set_option maxRecDepth 100000
set_option maxHeartbeats 6400000
theorem pmembers_spec {W : World} {v : Value} {l : List Pr} (h : RdK prE W v l) (hl : l.length ≤ 9000) (r : Rol) :
 Calls Tryz.prog 130 #[v, rolV2 r] W fun e W' => ∃ v', e = .returned v' ∧ Hid (KF W W' ∧ ReadsS W' v' (memL l r)) := by
 have HV := Lib.hid h
 obtain ⟨ao, cap, rfl, hle, hr⟩ := h
 obtain ⟨n, hn⟩ : ∃ n, l.length = n := ⟨_, rfl⟩
 rw [hn] at hle hl HV ⊢
 have HN := Lib.hid hn
 clear hr hn
 obtain ⟨s1, s2⟩ := r
 obtain ⟨WA, hWA⟩ : ∃ WA, W.alloc (bR s1 s2) = WA := ⟨_, rfl⟩
 have hal := (MapKept.heap_alloc W (bR s1 s2)).1
 have HK0 : Hid (KF W WA) := by rw [← hWA]; exact (Keeps.refl _ _).alloc _
 rw [hWA] at hal
 obtain ⟨rb, hrb⟩ : ∃ q, W.heap.size = q := ⟨_, rfl⟩
 rw [hrb] at hal
 have HA := Lib.hid hal
 clear hal
 have HI0 : Hid (KF WA WA ∧ ReadsS WA (.slice none 0 0) (memL (l.take 0) (s1, s2))) := by
  refine ⟨Keeps.refl _ _, ?_⟩
  have e : memL (l.take 0) (s1, s2) = [] := strO.rises_eq (memL_rises _ _) List.Pairwise.nil (fun w => by rw [memL_mem, List.take_zero]; exact ⟨fun h => (by cases h), fun h => (by cases h)⟩)
  rw [e]
  exact ⟨none, 0, rfl, Nat.le_refl _, fun h => absurd h (by simp)⟩
 unfold rolV2
 go_enter Tryz.func130, Tryz.ntmps130
 go_upto_region 1 with fail
 (try simp only [hWA, hrb])
 clear hWA hrb
 go_wp2_with fail
 go_loopg [5, 10] n (fun g o t wx => ∃ (i : Nat) (ov : Value), i ≤ n ∧ g = n - i ∧ t = .int .i64 i ∧ ov = o ∧ Hid (KF WA wx ∧ ReadsS wx ov (memL (l.take i) (s1, s2))))
 case atStart => exact ⟨0, _, Nat.zero_le _, rfl, rfl, rfl, HI0⟩
 case round =>
  clear HI0
  obtain ⟨i, ov, hi, rfl, rfl, rfl, HI⟩ := hrel
  by_cases hlt : i < n
  ·have hiI : (i : Int) < (n : Int) := by omega
   have hwi : IntKind.i64.wrap ((i : Int) + 1) = (i : Int) + 1 := IntWalk.i64_in _ (by omega)
   obtain ⟨y, hy⟩ : ∃ y, l[i]? = some y := ⟨_, List.getElem?_eq_getElem (by rw [HN.out]; exact hlt)⟩
   obtain ⟨aoz, cpz, ez, hez, hrz⟩ := id (HV.out.keeps (HK0.out.trans HI.out.1))
   obtain ⟨g, off, hao, hg, hcc⟩ := hrz (by rw [HN.out]; omega)
   simp only [Value.slice.injEq] at ez
   obtain ⟨rfl, hzz, rfl⟩ := ez
   subst hao
   have hicap : i < cap := by omega
   have hc := hcc i y hy
   have HYY := Lib.hid (memL_yes hy)
   have HYN := Lib.hid (fun hr => memL_no hy (r := (s1, s2)) hr)
   obtain ⟨⟨y1, y2⟩, y3⟩ := y
   simp only at HYY HYN
   clear hcc hrz hez hzz hy
   have c0 : wr.cell? ⟨g, off + i * 3, none⟩ = some (.string ⟨y1.toArray⟩) := hc 0 _ rfl
   have c1 : wr.cell? ⟨g, off + i * 3 + 1, none⟩ = some (.string ⟨y2.toArray⟩) := hc 1 _ rfl
   have c2 : wr.cell? ⟨g, off + i * 3 + 2, none⟩ = some (.string ⟨y3.toArray⟩) := hc 2 _ rfl
   have hka : KF wr (wr.alloc (.cells #[.string ⟨y1.toArray⟩, .string ⟨y2.toArray⟩, .string ⟨y3.toArray⟩] 136)) := (Keeps.refl _ _).alloc _
   have hal := (MapKept.heap_alloc wr (.cells #[.string ⟨y1.toArray⟩, .string ⟨y2.toArray⟩, .string ⟨y3.toArray⟩] 136)).1
   have HK2 := Lib.hid (HI.out.1.trans hka)
   have HA2 := Lib.hid ((HK2.out.block _ (lt_of_heap HA.out) (fun x => x)).trans HA.out)
   have HR2 := Lib.hid (HI.out.2.keeps hka)
   have HLM : Hid ((memL (l.take i) (s1, s2)).length ≤ 10000) := by
    show _ ≤ _
    have := memL_len (l.take i) (s1, s2)
    have : (l.take i).length ≤ l.length := by rw [List.length_take]; omega
    have := HN.out
    omega
   obtain ⟨b, hb⟩ : ∃ b, wr.heap.size = b := ⟨_, rfl⟩
   rw [hb] at hal
   have HB := Lib.hid hal
   go_upto_region 5 with fail
   (try simp only [hb])
   clear hka hal hb hc hg HI c0 c1 c2
   generalize wr.alloc (.cells #[.string ⟨y1.toArray⟩, .string ⟨y2.toArray⟩, .string ⟨y3.toArray⟩] 136) = w2 at *
   obtain ⟨p0, f0, p1, f1, p2, f2⟩ := cf3 HB.out
   obtain ⟨q0, g0, q1, g1⟩ := cf2 HA2.out
   clear f0 f1 f2 g0 g1 HB HA2
   have qe : ∀ w : World, (binOp .eql 28 (.agg #[.string ⟨y1.toArray⟩, .string ⟨y2.toArray⟩]) (.agg #[.string ⟨s1.toArray⟩, .string ⟨s2.toArray⟩])).run Tryz.prog w = .ok (.bool (decide (((y1, y2) : Rol) = (s1, s2)))) w := rol_eql (y1, y2) (s1, s2)
   by_cases e : ((y1, y2) : Rol) = (s1, s2)
   ·rw [decide_eq_true e] at qe
    simp only [Prod.mk.injEq] at e
    obtain ⟨rfl, rfl⟩ := e
    have HPT := Lib.hid (ref_put_at HR2.out HLM.out y3)
    rw [HYY.out] at HPT
    clear HYY HYN HR2 HLM
    go_wp2_with fail
    refine HPT.out.mono ?_
    rintro e w3 ⟨v3, rfl, hk⟩
    have HN2 : Hid (KF WA w3 ∧ ReadsS w3 v3 (memL (l.take (i + 1)) (y1, y2))) := ⟨HK2.out.trans hk.out.1, hk.out.2.1⟩
    clear HPT hk
    go_wp2_with fail
    go_roundg (n - (i + 1))
    case measure => omega
    case rel => exact ⟨i + 1, _, by omega, rfl, by go_num, rfl, HN2⟩
   ·rw [decide_eq_false e] at qe
    have HN2 : Hid (KF WA w2 ∧ ReadsS w2 ov (memL (l.take (i + 1)) (s1, s2))) := ⟨HK2.out, by rw [HYN.out e]; exact HR2.out⟩
    clear HYY HYN HR2 HLM e
    go_wp2_with fail
    go_roundg (n - (i + 1))
    case measure => omega
    case rel => exact ⟨i + 1, _, by omega, rfl, by go_num, rfl, HN2⟩
  ·obtain rfl : i = n := by omega
   have hiI : ¬ (i : Int) < (i : Int) := by omega
   have HE : Hid (KF W wr ∧ ReadsS wr ov (memL l (s1, s2))) := by
    have q := HI.out
    rw [List.take_of_length_le (by rw [HN.out]; exact Nat.le_refl _)] at q
    exact ⟨HK0.out.trans q.1, q.2⟩
   clear HI
   go_wp2_with fail
   go_ret
   exact ⟨_, rfl, HE⟩
end Go.Proofs.YtckikkkdabpjkaaGreat
