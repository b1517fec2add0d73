/-
 Rows of roles in memory; the document's Has and Same of them.
-/
import Derived.Test.YtcdfpnlaklaafaaGreatStmMem
set_option linter.unusedVariables false
set_option linter.unusedSimpArgs false
set_option linter.unnecessarySimpa false
namespace Go.Proofs.YtcdfpnlaklaafaaGreat
open Go.ChangeShapes Go.WideShapes Go.ChangeAt Go.RowKit Go.Deep
/-- A slice that reads as roles. -/
def ReadsR (w : World) (v : Value) (l : List Rol) : Prop :=
 ∃ ao cap, v = .slice ao l.length cap ∧ l.length ≤ cap ∧ (0 < l.length → ∃ g off, ao = some ⟨g, off, none⟩ ∧ g < w.heap.size ∧ ∀ (j : Nat) (s : Rol), l[j]? = some s → w.cell? ⟨g, off + j * 2, none⟩ = some (.string ⟨s.1.toArray⟩) ∧ w.cell? ⟨g, off + j * 2 + 1, none⟩ = some (.string ⟨s.2.toArray⟩))
theorem ReadsR.keeps {w w' : World} {v : Value} {l : List Rol} (h : ReadsR w v l) (hk : Keeps (fun _ => False) w w') : ReadsR w' v l := by
 obtain ⟨ao, cap, hv, hle, hr⟩ := h
 refine ⟨ao, cap, hv, hle, fun h0 => ?_⟩
 obtain ⟨g, off, h1, h2, h3⟩ := hr h0
 exact ⟨g, off, h1, Nat.lt_of_lt_of_le h2 hk.size, fun j x hj => ⟨(hk.cell (p := ⟨g, off + j * 2, none⟩) h2 (fun x => x)).trans (h3 j x hj).1, (hk.cell (p := ⟨g, off + j * 2 + 1, none⟩) h2 (fun x => x)).trans (h3 j x hj).2⟩⟩
set_option maxRecDepth 100000
set_option maxHeartbeats 3200000
theorem rsame_spec {w : World} {u v : Value} {a b : List Rol} (hu : ReadsR w u a) (hv : ReadsR w v b) (ha : a.length ≤ 1000000) (hab : a = b) :
  Calls Tryz.prog 37 #[u, v] w fun e w' => e = .returned (.bool true) ∧ ∃ nq, w' = w.drewN nq := by
 subst hab
 obtain ⟨au, cu, rfl, hcu0, hru⟩ := hu
 obtain ⟨av, cv, rfl, hcv0, hrv⟩ := hv
 obtain ⟨n, hn⟩ : ∃ n, a.length = n := ⟨_, rfl⟩
 rw [hn] at hcu0 hcv0 hru hrv ha ⊢
 have HU := Lib.hid hru; have HV := Lib.hid hrv; have HN := Lib.hid hn
 clear hru hrv hn
 go_enter Tryz.func37, Tryz.ntmps37
 go_wp2_with fail
 go_loopg [13] n (fun g s wr => ∃ k nq : Nat, k ≤ n ∧ g = n - k ∧ s = .int .i64 k ∧ wr = w.drewN nq)
 case atStart => exact ⟨0, 0, Nat.zero_le _, rfl, rfl, rfl⟩
 case round =>
  obtain ⟨k, nq, hk, rfl, rfl, rfl⟩ := hrel
  by_cases hlt : k < n
  ·obtain ⟨gu, ou, rfl, hgu, hcu⟩ := HU.out (by omega)
   obtain ⟨gv, ov, rfl, hgv, hcv⟩ := HV.out (by omega)
   obtain ⟨x, hx⟩ : ∃ x, a[k]? = some x := ⟨_, List.getElem?_eq_getElem (by rw [HN.out]; exact hlt)⟩
   have n1 := hcu k x hx
   have n2 := hcv k x hx
   obtain ⟨y1, y2⟩ := x
   obtain ⟨q0, q1⟩ := n1
   obtain ⟨p0, p1⟩ := n2
   simp only at q0 q1 p0 p1
   have hkI : (k : Int) < (n : Int) := by omega
   have hku : k < cu := by omega
   have hkv : k < cv := by omega
   clear hcu hcv hx
   go_wp2_with fail
   go_quiet (fail)
   go_wp2_with fail
   go_roundg (n - (k + 1))
   case measure => omega
   case rel => exact ⟨k + 1, _, by omega, rfl, by go_num, rfl⟩
  ·obtain rfl : k = n := by omega
   have hkI : ¬ (k : Int) < (k : Int) := by omega
   go_wp2_with fail
   go_ret
   exact ⟨rfl, _, rfl⟩
theorem rhas_spec {W : World} {v : Value} {l : List Rol} (h : ReadsR W v l) (hl : l.length ≤ 1000000) (s : Rol) :
  Calls Tryz.prog 59 #[v, rolV2 s] W fun e W' => e = .returned (.bool (decide (s ∈ l))) ∧ Hid (Keeps (fun _ => False) W W') := by
 obtain ⟨ao, cap, rfl, hle, hr⟩ := h
 obtain ⟨n, hn⟩ : ∃ n, l.length = n := ⟨_, rfl⟩
 rw [hn] at hle hr hl ⊢
 have HR := Lib.hid hr
 have HN := Lib.hid hn
 have HX : Hid (∀ (i : Nat) (y : Rol), l[i]? = some y → y = s → decide (s ∈ l) = true) := fun i y hy e => decide_eq_true (by rw [← e]; exact List.mem_of_getElem? hy)
 have HO : Hid (s ∉ l.take n → decide (s ∈ l) = false) := fun h => decide_eq_false (by rw [← hn, List.take_length] at h; exact h)
 obtain ⟨res, hres⟩ : ∃ r, decide (s ∈ l) = r := ⟨_, rfl⟩
 rw [hres] at HX HO ⊢
 clear hr hn hres
 obtain ⟨s1, s2⟩ := s
 obtain ⟨WA, hWA⟩ : ∃ WA, W.alloc (.cells #[.string ⟨s1.toArray⟩, .string ⟨s2.toArray⟩] 40) = WA := ⟨_, rfl⟩
 have hal := (MapKept.heap_alloc W (.cells #[.string ⟨s1.toArray⟩, .string ⟨s2.toArray⟩] 40)).1
 have HK0 : Hid (Keeps (fun _ => False) W WA) := by rw [← hWA]; exact (Keeps.refl _ _).alloc _
 rw [hWA] at hal
 have HA := Lib.hid hal
 clear hal
 unfold rolV2
 go_enter Tryz.func59, Tryz.ntmps59
 go_upto_region 1 with fail
 clear hWA
 go_wp2_with fail
 go_loopg [9] n (fun g t wx => ∃ i : Nat, i ≤ n ∧ g = n - i ∧ t = .int .i64 i ∧ Hid (((s1, s2) : Rol) ∉ l.take i ∧ Keeps (fun _ => False) WA wx))
 case atStart => exact ⟨0, Nat.zero_le _, rfl, rfl, by simp, Keeps.refl _ _⟩
 case round =>
  obtain ⟨i, hi, rfl, rfl, HI⟩ := hrel
  by_cases hlt : i < n
  ·have hiI : (i : Int) < (n : Int) := by omega
   have hwi : IntKind.i64.wrap ((i : Int) + 1) = (i : Int) + 1 := IntWalk.i64_in _ (by omega)
   obtain ⟨y, hy⟩ : ∃ y, l[i]? = some y := ⟨_, List.getElem?_eq_getElem (by rw [HN.out]; exact hlt)⟩
   obtain ⟨g, off, rfl, hg, hcc⟩ := HR.out (by omega)
   have hicap : i < cap := by omega
   have hkw : Keeps (fun _ => False) W wr := HK0.out.trans HI.out.2
   have hA := (HI.out.2.block _ (lt_of_heap HA.out) (fun x => x)).trans HA.out
   have p0 := cell_of_heap hA 0
   have p1 := cell_of_heap hA 1
   simp only [List.getElem?_toArray, List.getElem?_cons_zero, List.getElem?_cons_succ] at p0 p1
   have HY := Lib.hid hy
   have l1 := lt_of_heap hA
   have hne : ¬ wr.heap.size = W.heap.size := by omega
   have hne2 : ¬ W.heap.size = wr.heap.size := by omega
   have HAL : Hid (∀ o : Obj, Keeps (fun _ => False) WA (wr.alloc o)) := fun o => HI.out.2.trans ((Keeps.refl _ _).alloc _)
   have HKW : Hid (∀ o : Obj, Keeps (fun _ => False) W (wr.alloc o)) := fun o => hkw.trans ((Keeps.refl _ _).alloc _)
   have q0 := (hkw.cell (p := ⟨g, off + i * 2, none⟩) hg (fun x => x)).trans (hcc i y hy).1
   have q1 := (hkw.cell (p := ⟨g, off + i * 2 + 1, none⟩) hg (fun x => x)).trans (hcc i y hy).2
   obtain ⟨y1, y2⟩ := y
   simp only at q0 q1
   by_cases e : ((y1, y2) : Rol) = (s1, s2)
   ·have hr1 : res = true := HX.out i _ HY.out e
    subst hr1
    simp only [Prod.mk.injEq] at e
    obtain ⟨rfl, rfl⟩ := e
    clear HX HO HY HI HAL hA hkw hcc hy
    go_wp2_with fail
    go_ret
    exact ⟨rfl, HKW.out _⟩
   ·have HNX : Hid (((s1, s2) : Rol) ∉ l.take (i + 1)) := by
     show ¬ _
     rw [List.take_add_one, HY.out, List.mem_append]
     rintro (q | q)
     ·exact HI.out.1 q
     ·simp at q
      exact e (by simp [q])
    have hd : y1 ≠ s1 ∨ y2 ≠ s2 := by
     apply Classical.byContradiction
     intro hc
     simp only [not_or, Classical.not_not] at hc
     obtain ⟨rfl, rfl⟩ := hc
     exact e rfl
    clear e HI HY HKW hA hkw hcc hy
    rcases hd with hd | hd
    all_goals
     have hb := beq_eq_false_iff_ne.2 hd
     clear hd
     go_wp2_with fail
     go_roundg (n - (i + 1))
     case measure => omega
     case rel => exact ⟨i + 1, by omega, rfl, by go_num, HNX.out, HAL.out _⟩
  ·obtain rfl : i = n := by omega
   have hiI : ¬ (i : Int) < (i : Int) := by omega
   have hr1 : res = false := HO.out HI.out.1
   subst hr1
   have HE : Hid (Keeps (fun _ => False) W wr) := HK0.out.trans HI.out.2
   clear HI HX HO
   go_wp2_with fail
   go_ret
   exact ⟨rfl, HE⟩
end Go.Proofs.YtcdfpnlaklaafaaGreat
