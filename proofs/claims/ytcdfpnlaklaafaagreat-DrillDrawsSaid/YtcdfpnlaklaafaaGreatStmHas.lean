/-
 Is a statement in a row? (the document's)
-/
import Derived.Test.YtcdfpnlaklaafaaGreatStmMem
set_option linter.unusedVariables false
set_option linter.unusedSimpArgs false
set_option linter.unnecessarySimpa false
namespace Go.Proofs.YtcdfpnlaklaafaaGreat
open Go.ChangeShapes Go.WideShapes Go.ChangeAt Go.RowKit Go.Deep
section
variable {W : World}
set_option maxRecDepth 100000
set_option maxHeartbeats 3200000
theorem mhas_spec {v : Value} {l : List Stm} (h : ReadsM W v l) (hl : l.length ≤ 1000000) (s : Stm) :
  Calls Tryz.prog 57 #[v, stmV s] W fun e W' => e = .returned (.bool (decide (s ∈ l))) ∧ Hid (Keeps (fun _ => False) W W') := by
 obtain ⟨ao, cap, rfl, hle, hr⟩ := h
 obtain ⟨n, hn⟩ : ∃ n, l.length = n := ⟨_, rfl⟩
 rw [hn] at hle hr hl ⊢
 have HR := Lib.hid hr
 have HN := Lib.hid hn
 have HX : Hid (∀ i y, l[i]? = some y → y = s → decide (s ∈ l) = true) := fun i y hy e => decide_eq_true (by rw [← e]; exact List.mem_of_getElem? hy)
 have HO : Hid (s ∉ l.take n → decide (s ∈ l) = false) := fun h => decide_eq_false (by rw [← hn, List.take_length] at h; exact h)
 obtain ⟨res, hres⟩ : ∃ r, decide (s ∈ l) = r := ⟨_, rfl⟩
 rw [hres] at HX HO ⊢
 clear hr hn hres
 obtain ⟨⟨sh1, sh2⟩, sk, so, ⟨sa1, sa2⟩, ⟨sb1, sb2⟩, si⟩ := s
 have HK0 : Hid (Keeps (fun _ => False) W (W.alloc (.cells #[.int .i64 sk, .string ⟨sh1.toArray⟩, .string ⟨sh2.toArray⟩, .string ⟨so.toArray⟩, .string ⟨sa1.toArray⟩, .string ⟨sa2.toArray⟩, .string ⟨sb1.toArray⟩, .string ⟨sb2.toArray⟩, .string ⟨si.toArray⟩] 44))) := (Keeps.refl _ _).alloc _
 have hal := (MapKept.heap_alloc W (.cells #[.int .i64 sk, .string ⟨sh1.toArray⟩, .string ⟨sh2.toArray⟩, .string ⟨so.toArray⟩, .string ⟨sa1.toArray⟩, .string ⟨sa2.toArray⟩, .string ⟨sb1.toArray⟩, .string ⟨sb2.toArray⟩, .string ⟨si.toArray⟩] 44)).1
 obtain ⟨WA, hWA⟩ : ∃ WA, W.alloc (.cells #[.int .i64 sk, .string ⟨sh1.toArray⟩, .string ⟨sh2.toArray⟩, .string ⟨so.toArray⟩, .string ⟨sa1.toArray⟩, .string ⟨sa2.toArray⟩, .string ⟨sb1.toArray⟩, .string ⟨sb2.toArray⟩, .string ⟨si.toArray⟩] 44) = WA := ⟨_, rfl⟩
 rw [hWA] at HK0 hal
 have HA := Lib.hid hal
 clear hal
 unfold stmV
 go_enter Tryz.func57, Tryz.ntmps57
 go_upto_region 1 with fail
 clear hWA
 go_wp2_with fail
 go_loopg [9] n (fun g t wx => ∃ i : Nat, i ≤ n ∧ g = n - i ∧ t = .int .i64 i ∧ Hid (((sh1, sh2), sk, so, (sa1, sa2), (sb1, sb2), si) ∉ l.take i ∧ Keeps (fun _ => False) WA wx))
 case atStart => exact ⟨0, Nat.zero_le _, rfl, rfl, by simp, Keeps.refl _ _⟩
 case round =>
  obtain ⟨i, hi, rfl, rfl, HI⟩ := hrel
  by_cases hlt : i < n
  ·have hiI : (i : Int) < (n : Int) := by omega
   have hwi : IntKind.i64.wrap ((i : Int) + 1) = (i : Int) + 1 := IntWalk.i64_in _ (by omega)
   obtain ⟨y, hy⟩ : ∃ y, l[i]? = some y := ⟨_, List.getElem?_eq_getElem (by rw [HN.out]; exact hlt)⟩
   obtain ⟨g, off, rfl, hg, hcc⟩ := HR.out (by omega)
   have hicap : i < cap := by omega
   have hkw : Keeps (fun _ => False) W wr := HK0.out.trans HI.out.2
   have hnine := (hcc i y hy).keeps hg hkw (fun x => x)
   have hA := (HI.out.2.block _ (lt_of_heap HA.out) (fun x => x)).trans HA.out
   obtain ⟨p0, p1, p2, p3, p4, p5, p6, p7, p8⟩ := cells9 hA
   have HY := Lib.hid hy
   have l1 := lt_of_heap hA
   have hne : ¬ wr.heap.size = W.heap.size := by omega
   have hne2 : ¬ W.heap.size = wr.heap.size := by omega
   have HAL : Hid (∀ o : Obj, Keeps (fun _ => False) WA (wr.alloc o)) := fun o => HI.out.2.trans ((Keeps.refl _ _).alloc _)
   obtain ⟨⟨yh1, yh2⟩, yk, yo, ⟨ya1, ya2⟩, ⟨yb1, yb2⟩, yi⟩ := y
   obtain ⟨q0, q1, q2, q3, q4, q5, q6, q7, q8⟩ := hnine
   simp only at q0 q1 q2 q3 q4 q5 q6 q7 q8
   have HKW : Hid (∀ o : Obj, Keeps (fun _ => False) W (wr.alloc o)) := fun o => hkw.trans ((Keeps.refl _ _).alloc _)
   by_cases e : ((yh1, yh2), yk, yo, (ya1, ya2), (yb1, yb2), yi) = ((sh1, sh2), sk, so, (sa1, sa2), (sb1, sb2), si)
   ·have hr1 : res = true := HX.out i _ HY.out e
    subst hr1
    simp only [Prod.mk.injEq] at e
    obtain ⟨⟨rfl, rfl⟩, rfl, rfl, ⟨rfl, rfl⟩, ⟨rfl, rfl⟩, rfl⟩ := e
    clear HX HO HY HI HAL hA hkw hcc hy
    go_wp2_with fail
    go_ret
    exact ⟨rfl, HKW.out _⟩
   ·have HNX : Hid (((sh1, sh2), sk, so, (sa1, sa2), (sb1, sb2), si) ∉ l.take (i + 1)) := by
     show ¬ _
     rw [List.take_add_one, HY.out, List.mem_append]
     rintro (q | q)
     ·exact HI.out.1 q
     ·simp at q
      exact e (by simp [q])
    have hd : yk ≠ sk ∨ yh1 ≠ sh1 ∨ yh2 ≠ sh2 ∨ yo ≠ so ∨ ya1 ≠ sa1 ∨ ya2 ≠ sa2 ∨ yb1 ≠ sb1 ∨ yb2 ≠ sb2 ∨ yi ≠ si := by
     apply Classical.byContradiction
     intro hc
     simp only [not_or, Classical.not_not] at hc
     obtain ⟨rfl, rfl, rfl, rfl, rfl, rfl, rfl, rfl, rfl⟩ := hc
     exact e rfl
    clear e HI HY HKW hA hkw hcc hy
    rcases hd with hd | hd | hd | hd | hd | hd | hd | hd | hd
    all_goals
     first | (have hb := beq_eq_false_iff_ne.2 hd)
     clear hd
     go_wp2_with fail
     go_roundg (n - (i + 1))
     case measure => omega
     case rel => exact ⟨i + 1, by omega, rfl, by go_num, HNX.out, HAL.out _⟩
  ·obtain rfl : i = n := by omega
   have hiI : ¬ (i : Int) < (i : Int) := by omega
   have hr1 : res = false := HO.out HI.out.1
   subst hr1
   have HE : Hid (Keeps (fun _ => False) W wr) := HK0.out.trans HI.out.2
   clear HI HX HO
   go_wp2_with fail
   go_ret
   exact ⟨rfl, HE⟩
end
end Go.Proofs.YtcdfpnlaklaafaaGreat
