/-
 Rows of pairs in memory; is a principal in a role, of what was found?
-/
import Derived.Test.YtededjfjbkcepaaGreatKitSq
import Derived.Test.YtededjfjbkcepaaGreatCutsPlain
import Derived.Test.YtededjfjbkcepaaGreatME
import Derived.Test.YtededjfjbkcepaaGreatStmEql
import Derived.Test.YtededjfjbkcepaaGreatRelevFol
set_option linter.unusedVariables false
set_option linter.unusedSimpArgs false
set_option linter.unnecessarySimpa false
namespace Go.Proofs.YtededjfjbkcepaaGreat
open Go.ChangeShapes Go.WideShapes Go.ChangeAt Go.RowKit Go.Deep
def prEnc (x : Pr) : List Value := [.string ⟨x.1.1.toArray⟩, .string ⟨x.1.2.toArray⟩, .string ⟨x.2.toArray⟩]
theorem prInfo : (Tryz.prog.info? 100).map (fun i => (i.zero, i.size, i.bytes)) = some (some (.agg #[.string ⟨#[]⟩, .string ⟨#[]⟩, .string ⟨#[]⟩]), 3, 48) := by kernel_rfl
theorem pr_one (x : Pr) : ∀ v ∈ prEnc x, v.oneCell' = true := fun v hv => by
 unfold prEnc at hv
 simp only [List.mem_cons, List.not_mem_nil, or_false] at hv
 rcases hv with rfl | rfl | rfl <;> rfl
def prE : Elt Pr where
 enc := prEnc
 k := 3
 pos := by decide
 len := fun _ => rfl
 one := pr_one
 T := 100
 S := 43
 z := .agg #[.string ⟨#[]⟩, .string ⟨#[]⟩, .string ⟨#[]⟩]
 bytes := 48
 hS := Tryz.underlying43
 hT := prInfo
 hz := rfl
 hb := by decide
theorem cf3 {W : World} {T : TypeId} {B : Nat} {u0 u1 u2 : Value} (h : W.heap[B]? = some (.cells #[u0, u1, u2] T)) : W.cell? ⟨B, 0, none⟩ = some u0 ∧ W.frozen? ⟨B, 0, none⟩ = false ∧ W.cell? ⟨B, 1, none⟩ = some u1 ∧ W.frozen? ⟨B, 1, none⟩ = false ∧ W.cell? ⟨B, 2, none⟩ = some u2 ∧ W.frozen? ⟨B, 2, none⟩ = false := ⟨by rw [cell_of_heap h]; rfl, Lib.frozen_of_heap h 0, by rw [cell_of_heap h]; rfl, Lib.frozen_of_heap h 1, by rw [cell_of_heap h]; rfl, Lib.frozen_of_heap h 2⟩
set_option maxRecDepth 100000
set_option maxHeartbeats 6400000
theorem pin_spec {W : World} {v : Value} {l : List Pr} (h : RdK prE W v l) (hl : l.length ≤ 1000000) (r : Rol) (w : Str) :
 Calls Tryz.prog 32 #[v, rolV2 r, .string ⟨w.toArray⟩] W fun e W' => e = .returned (.bool (decide ((r, w) ∈ l))) ∧ Hid (KF W W') := by
 have HV := Lib.hid h
 obtain ⟨ao, cap, rfl, hle, hr⟩ := h
 obtain ⟨n, hn⟩ : ∃ n, l.length = n := ⟨_, rfl⟩
 rw [hn] at hle hl HV ⊢
 have HN := Lib.hid hn
 have HX : Hid (∀ (i : Nat) (y : Pr), l[i]? = some y → y = (r, w) → decide ((r, w) ∈ l) = true) := fun i y hy e => decide_eq_true (by rw [← e]; exact List.mem_of_getElem? hy)
 have HO : Hid ((r, w) ∉ l.take n → decide ((r, w) ∈ l) = false) := fun h => decide_eq_false (by rw [← hn, List.take_length] at h; exact h)
 obtain ⟨res, hres⟩ : ∃ q, decide ((r, w) ∈ l) = q := ⟨_, rfl⟩
 rw [hres] at HX HO ⊢
 clear hr hn hres
 obtain ⟨s1, s2⟩ := r
 obtain ⟨WA, hWA⟩ : ∃ WA, W.alloc (bR s1 s2) = WA := ⟨_, rfl⟩
 have hal := (MapKept.heap_alloc W (bR s1 s2)).1
 have HK0 : Hid (KF W WA) := by rw [← hWA]; exact (Keeps.refl _ _).alloc _
 rw [hWA] at hal
 obtain ⟨rb, hrb⟩ : ∃ q, W.heap.size = q := ⟨_, rfl⟩
 rw [hrb] at hal
 have HA := Lib.hid hal
 clear hal
 unfold rolV2
 go_enter Tryz.func32, Tryz.ntmps32
 go_upto_region 1 with fail
 (try simp only [hWA, hrb])
 clear hWA hrb
 go_wp2_with fail
 go_loopg [11] n (fun g t wx => ∃ i : Nat, i ≤ n ∧ g = n - i ∧ t = .int .i64 i ∧ Hid ((((s1, s2), w) : Pr) ∉ l.take i ∧ KF WA wx))
 case atStart => exact ⟨0, Nat.zero_le _, rfl, rfl, by simp, Keeps.refl _ _⟩
 case round =>
  obtain ⟨i, hi, rfl, rfl, HI⟩ := hrel
  by_cases hlt : i < n
  ·have hiI : (i : Int) < (n : Int) := by omega
   have hwi : IntKind.i64.wrap ((i : Int) + 1) = (i : Int) + 1 := IntWalk.i64_in _ (by omega)
   obtain ⟨y, hy⟩ : ∃ y, l[i]? = some y := ⟨_, List.getElem?_eq_getElem (by rw [HN.out]; exact hlt)⟩
   obtain ⟨aoz, cpz, ez, hez, hrz⟩ := id (HV.out.keeps (HK0.out.trans HI.out.2))
   obtain ⟨g, off, hao, hg, hcc⟩ := hrz (by rw [HN.out]; omega)
   simp only [Value.slice.injEq] at ez
   obtain ⟨rfl, hzz, rfl⟩ := ez
   subst hao
   have hicap : i < cap := by omega
   have hc := hcc i y hy
   have HY := Lib.hid hy
   obtain ⟨⟨y1, y2⟩, y3⟩ := y
   clear hcc hrz hez hzz hy
   have c0 : wr.cell? ⟨g, off + i * 3, none⟩ = some (.string ⟨y1.toArray⟩) := hc 0 _ rfl
   have c1 : wr.cell? ⟨g, off + i * 3 + 1, none⟩ = some (.string ⟨y2.toArray⟩) := hc 1 _ rfl
   have c2 : wr.cell? ⟨g, off + i * 3 + 2, none⟩ = some (.string ⟨y3.toArray⟩) := hc 2 _ rfl
   have hka : KF wr (wr.alloc (.cells #[.string ⟨y1.toArray⟩, .string ⟨y2.toArray⟩, .string ⟨y3.toArray⟩] 100)) := (Keeps.refl _ _).alloc _
   have hal := (MapKept.heap_alloc wr (.cells #[.string ⟨y1.toArray⟩, .string ⟨y2.toArray⟩, .string ⟨y3.toArray⟩] 100)).1
   have HK2 := Lib.hid (HI.out.2.trans hka)
   have HA2 := Lib.hid ((HK2.out.block _ (lt_of_heap HA.out) (fun x => x)).trans HA.out)
   have HNI := Lib.hid HI.out.1
   obtain ⟨b, hb⟩ : ∃ b, wr.heap.size = b := ⟨_, rfl⟩
   rw [hb] at hal
   have HB := Lib.hid hal
   go_upto_region 4 with fail
   (try simp only [hb])
   clear hka hal hb hc hg HI c0 c1 c2
   generalize wr.alloc (.cells #[.string ⟨y1.toArray⟩, .string ⟨y2.toArray⟩, .string ⟨y3.toArray⟩] 100) = w2 at *
   obtain ⟨p0, f0, p1, f1, p2, f2⟩ := cf3 HB.out
   obtain ⟨q0, g0, q1, g1⟩ := cf2 HA2.out
   clear f0 f1 f2 g0 g1
   have qe : ∀ w : World, (binOp .eql 28 (.agg #[.string ⟨y1.toArray⟩, .string ⟨y2.toArray⟩]) (.agg #[.string ⟨s1.toArray⟩, .string ⟨s2.toArray⟩])).run Tryz.prog w = .ok (.bool (decide (((y1, y2) : Rol) = (s1, s2)))) w := rol_eql (y1, y2) (s1, s2)
   obtain ⟨be, hbe⟩ : ∃ x, decide (((y1, y2) : Rol) = (s1, s2)) = x := ⟨_, rfl⟩
   rw [hbe] at qe
   have HBE := Lib.hid hbe
   clear hbe
   have HNX : Hid (¬ (be = true ∧ y3 = w) → (((s1, s2), w) : Pr) ∉ l.take (i + 1)) := fun hn => by
    rw [List.take_add_one, HY.out, List.mem_append]
    rintro (q | q)
    ·exact HNI.out q
    ·simp only [Option.toList_some, List.mem_singleton, Prod.mk.injEq] at q
     refine hn ⟨?_, q.2.symm⟩
     rw [← HBE.out]
     exact decide_eq_true (Prod.ext q.1.1.symm q.1.2.symm)
   have HYS : Hid (be = true ∧ y3 = w → res = true) := fun e => HX.out i _ HY.out (by
    obtain ⟨e1, e2⟩ := e
    rw [← HBE.out] at e1
    rw [of_decide_eq_true e1, e2])
   have HKE : Hid (KF W w2) := HK0.out.trans HK2.out
   clear HX HO HY HNI HBE HB HA2
   cases be
   case false =>
    have HN2 : Hid ((((s1, s2), w) : Pr) ∉ l.take (i + 1)) := HNX.out (fun e => by cases e.1)
    clear HNX HYS HKE
    go_wp2_with fail
    go_roundg (n - (i + 1))
    case measure => omega
    case rel => exact ⟨i + 1, by omega, rfl, by go_num, HN2.out, HK2.out⟩
   case true =>
    by_cases e3 : y3 = w
    ·have hr1 : res = true := HYS.out ⟨rfl, e3⟩
     subst hr1
     subst e3
     clear HNX HYS
     go_wp2_with fail
     go_ret
     exact ⟨rfl, HKE⟩
    ·have HN2 : Hid ((((s1, s2), w) : Pr) ∉ l.take (i + 1)) := HNX.out (fun e => e3 e.2)
     have hb3 := beq_eq_false_iff_ne.2 e3
     clear HNX HYS HKE e3
     go_wp2_with fail
     go_roundg (n - (i + 1))
     case measure => omega
     case rel => exact ⟨i + 1, by omega, rfl, by go_num, HN2.out, HK2.out⟩
  ·obtain rfl : i = n := by omega
   have hiI : ¬ (i : Int) < (i : Int) := by omega
   have hr1 : res = false := HO.out HI.out.1
   subst hr1
   have HE : Hid (KF W wr) := HK0.out.trans HI.out.2
   clear HI HX HO
   go_wp2_with fail
   go_ret
   exact ⟨rfl, HE⟩
end Go.Proofs.YtededjfjbkcepaaGreat
