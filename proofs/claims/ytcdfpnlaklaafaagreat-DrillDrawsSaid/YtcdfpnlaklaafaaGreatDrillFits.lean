/-
 Which shapes fit: the program's answer and the document's.
-/
import Derived.Test.YtcdfpnlaklaafaaGreatDrillDraw
set_option linter.unusedVariables false
set_option linter.unusedSimpArgs false
set_option linter.unnecessarySimpa false
namespace Go.Proofs.YtcdfpnlaklaafaaGreat
open Go.ChangeShapes Go.WideShapes Go.ChangeAt Go.RowKit Go.Deep
section
variable {W W' : World}
set_option maxRecDepth 100000
set_option maxHeartbeats 1600000
theorem within_spec (n lo hi : Int) : Calls Tryz.prog 25 #[.int .i64 n, .int .i64 lo, .int .i64 hi] W fun e W' => e = .returned (.bool (decide (lo ≤ n ∧ n ≤ hi))) ∧ W = W' := by
 by_cases h1 : lo ≤ n
 ·by_cases h2 : n ≤ hi
  ·rw [decide_eq_true (And.intro h1 h2)]
   go_enter Tryz.func25, Tryz.ntmps25
   go_wp2_with fail
   go_ret
   exact ⟨rfl, rfl⟩
  ·rw [decide_eq_false (fun h => h2 h.2)]
   go_enter Tryz.func25, Tryz.ntmps25
   go_wp2_with fail
   go_ret
   exact ⟨rfl, rfl⟩
 ·rw [decide_eq_false (fun h => h1 h.1)]
  go_enter Tryz.func25, Tryz.ntmps25
  go_wp2_with fail
  go_ret
  exact ⟨rfl, rfl⟩
def ShpO (T : TypeId) (s : Shp) : Obj := .cells #[.int .i64 s.prins, .int .i64 s.links, .int .i64 s.stmts, .int .i64 s.grow, .int .i64 s.shrink, .int .i64 s.asks] T
theorem dfits_spec (s : Shp) : Calls Tryz.prog 7 #[ShpV s] W fun e W' => e = .returned (.bool (fitsD s)) ∧ Hid (Keeps (fun _ => False) W W') := by
 have HK : Hid (Keeps (fun _ => False) W (W.alloc (.cells #[.int .i64 s.prins, .int .i64 s.links, .int .i64 s.stmts, .int .i64 s.grow, .int .i64 s.shrink, .int .i64 s.asks] 32))) := (Keeps.refl _ _).alloc _
 have H1 : Hid (∀ W : World, Calls Tryz.prog 25 #[.int .i64 s.prins, .int .i64 1, .int .i64 8] W fun e W' => e = .returned (.bool (decide (1 ≤ s.prins ∧ s.prins ≤ 8))) ∧ W = W') := fun W => within_spec _ _ _
 have H2 : Hid (∀ W : World, Calls Tryz.prog 25 #[.int .i64 s.links, .int .i64 1, .int .i64 6] W fun e W' => e = .returned (.bool (decide (1 ≤ s.links ∧ s.links ≤ 6))) ∧ W = W') := fun W => within_spec _ _ _
 have H3 : Hid (∀ W : World, Calls Tryz.prog 25 #[.int .i64 s.stmts, .int .i64 0, .int .i64 40] W fun e W' => e = .returned (.bool (decide (0 ≤ s.stmts ∧ s.stmts ≤ 40))) ∧ W = W') := fun W => within_spec _ _ _
 have H4 : Hid (∀ W : World, Calls Tryz.prog 25 #[.int .i64 s.grow, .int .i64 0, .int .i64 40] W fun e W' => e = .returned (.bool (decide (0 ≤ s.grow ∧ s.grow ≤ 40))) ∧ W = W') := fun W => within_spec _ _ _
 have H5 : Hid (∀ W : World, Calls Tryz.prog 25 #[.int .i64 s.shrink, .int .i64 0, .int .i64 40] W fun e W' => e = .returned (.bool (decide (0 ≤ s.shrink ∧ s.shrink ≤ 40))) ∧ W = W') := fun W => within_spec _ _ _
 have H6 : Hid (∀ W : World, Calls Tryz.prog 25 #[.int .i64 s.asks, .int .i64 0, .int .i64 8] W fun e W' => e = .returned (.bool (decide (0 ≤ s.asks ∧ s.asks ≤ 8))) ∧ W = W') := fun W => within_spec _ _ _
 have HF : fitsD s = (decide (1 ≤ s.prins ∧ s.prins ≤ 8) && decide (1 ≤ s.links ∧ s.links ≤ 6) && decide (0 ≤ s.stmts ∧ s.stmts ≤ 40) && decide (0 ≤ s.grow ∧ s.grow ≤ 40) && decide (0 ≤ s.shrink ∧ s.shrink ≤ 40) && decide (0 ≤ s.asks ∧ s.asks ≤ 8)) := by
  unfold fitsD
  rw [Bool.eq_iff_iff]
  simp only [Bool.and_eq_true, decide_eq_true_eq]
  omega
 rw [HF]
 clear HF
 obtain ⟨b1, hb1⟩ : ∃ b, decide (1 ≤ s.prins ∧ s.prins ≤ 8) = b := ⟨_, rfl⟩
 rw [hb1] at H1 ⊢
 clear hb1
 obtain ⟨b2, hb2⟩ : ∃ b, decide (1 ≤ s.links ∧ s.links ≤ 6) = b := ⟨_, rfl⟩
 rw [hb2] at H2 ⊢
 clear hb2
 obtain ⟨b3, hb3⟩ : ∃ b, decide (0 ≤ s.stmts ∧ s.stmts ≤ 40) = b := ⟨_, rfl⟩
 rw [hb3] at H3 ⊢
 clear hb3
 obtain ⟨b4, hb4⟩ : ∃ b, decide (0 ≤ s.grow ∧ s.grow ≤ 40) = b := ⟨_, rfl⟩
 rw [hb4] at H4 ⊢
 clear hb4
 obtain ⟨b5, hb5⟩ : ∃ b, decide (0 ≤ s.shrink ∧ s.shrink ≤ 40) = b := ⟨_, rfl⟩
 rw [hb5] at H5 ⊢
 clear hb5
 obtain ⟨b6, hb6⟩ : ∃ b, decide (0 ≤ s.asks ∧ s.asks ≤ 8) = b := ⟨_, rfl⟩
 rw [hb6] at H6 ⊢
 clear hb6
 unfold ShpV
 cases b1 with
 | false =>
  go_enter Tryz.func7, Tryz.ntmps7
  go_wp2_with fail
  refine (H1.out _).mono ?_
  rintro e w' ⟨rfl, rfl⟩
  clear H1 H2 H3 H4 H5 H6
  go_wp2_with fail
  go_ret
  exact ⟨rfl, HK⟩
 | true =>
  cases b2 with
  | false =>
   go_enter Tryz.func7, Tryz.ntmps7
   go_wp2_with fail
   refine (H1.out _).mono ?_
   rintro e w' ⟨rfl, rfl⟩
   go_wp2_with fail
   refine (H2.out _).mono ?_
   rintro e w' ⟨rfl, rfl⟩
   clear H1 H2 H3 H4 H5 H6
   go_wp2_with fail
   go_ret
   exact ⟨rfl, HK⟩
  | true =>
   cases b3 with
   | false =>
    go_enter Tryz.func7, Tryz.ntmps7
    go_wp2_with fail
    refine (H1.out _).mono ?_
    rintro e w' ⟨rfl, rfl⟩
    go_wp2_with fail
    refine (H2.out _).mono ?_
    rintro e w' ⟨rfl, rfl⟩
    go_wp2_with fail
    refine (H3.out _).mono ?_
    rintro e w' ⟨rfl, rfl⟩
    clear H1 H2 H3 H4 H5 H6
    go_wp2_with fail
    go_ret
    exact ⟨rfl, HK⟩
   | true =>
    cases b4 with
    | false =>
     go_enter Tryz.func7, Tryz.ntmps7
     go_wp2_with fail
     refine (H1.out _).mono ?_
     rintro e w' ⟨rfl, rfl⟩
     go_wp2_with fail
     refine (H2.out _).mono ?_
     rintro e w' ⟨rfl, rfl⟩
     go_wp2_with fail
     refine (H3.out _).mono ?_
     rintro e w' ⟨rfl, rfl⟩
     go_wp2_with fail
     refine (H4.out _).mono ?_
     rintro e w' ⟨rfl, rfl⟩
     clear H1 H2 H3 H4 H5 H6
     go_wp2_with fail
     go_ret
     exact ⟨rfl, HK⟩
    | true =>
     cases b5 with
     | false =>
      go_enter Tryz.func7, Tryz.ntmps7
      go_wp2_with fail
      refine (H1.out _).mono ?_
      rintro e w' ⟨rfl, rfl⟩
      go_wp2_with fail
      refine (H2.out _).mono ?_
      rintro e w' ⟨rfl, rfl⟩
      go_wp2_with fail
      refine (H3.out _).mono ?_
      rintro e w' ⟨rfl, rfl⟩
      go_wp2_with fail
      refine (H4.out _).mono ?_
      rintro e w' ⟨rfl, rfl⟩
      go_wp2_with fail
      refine (H5.out _).mono ?_
      rintro e w' ⟨rfl, rfl⟩
      clear H1 H2 H3 H4 H5 H6
      go_wp2_with fail
      go_ret
      exact ⟨rfl, HK⟩
     | true =>
      cases b6 with
      | false =>
       go_enter Tryz.func7, Tryz.ntmps7
       go_wp2_with fail
       refine (H1.out _).mono ?_
       rintro e w' ⟨rfl, rfl⟩
       go_wp2_with fail
       refine (H2.out _).mono ?_
       rintro e w' ⟨rfl, rfl⟩
       go_wp2_with fail
       refine (H3.out _).mono ?_
       rintro e w' ⟨rfl, rfl⟩
       go_wp2_with fail
       refine (H4.out _).mono ?_
       rintro e w' ⟨rfl, rfl⟩
       go_wp2_with fail
       refine (H5.out _).mono ?_
       rintro e w' ⟨rfl, rfl⟩
       go_wp2_with fail
       refine (H6.out _).mono ?_
       rintro e w' ⟨rfl, rfl⟩
       clear H1 H2 H3 H4 H5 H6
       go_wp2_with fail
       go_ret
       exact ⟨rfl, HK⟩
      | true =>
       go_enter Tryz.func7, Tryz.ntmps7
       go_wp2_with fail
       refine (H1.out _).mono ?_
       rintro e w' ⟨rfl, rfl⟩
       go_wp2_with fail
       refine (H2.out _).mono ?_
       rintro e w' ⟨rfl, rfl⟩
       go_wp2_with fail
       refine (H3.out _).mono ?_
       rintro e w' ⟨rfl, rfl⟩
       go_wp2_with fail
       refine (H4.out _).mono ?_
       rintro e w' ⟨rfl, rfl⟩
       go_wp2_with fail
       refine (H5.out _).mono ?_
       rintro e w' ⟨rfl, rfl⟩
       go_wp2_with fail
       refine (H6.out _).mono ?_
       rintro e w' ⟨rfl, rfl⟩
       clear H1 H2 H3 H4 H5 H6
       go_wp2_with fail
       go_ret
       exact ⟨rfl, HK⟩
theorem rfits_spec (s : Shp) : Calls Tryz.prog 6 #[ShpV s] W fun e W' => e = .returned (.bool (fitsD s)) ∧ Hid (Keeps (fun _ => False) W W') := by
 have HK : Hid (Keeps (fun _ => False) W (W.alloc (.cells #[.int .i64 s.prins, .int .i64 s.links, .int .i64 s.stmts, .int .i64 s.grow, .int .i64 s.shrink, .int .i64 s.asks] 24))) := (Keeps.refl _ _).alloc _
 by_cases c0 : s.prins < 1
 ·have hf : fitsD s = false := by unfold fitsD; exact decide_eq_false (by omega)
  rw [hf]
  clear hf
  unfold ShpV
  go_enter Tryz.func6, Tryz.ntmps6
  go_wp2_with fail
  go_ret
  first | exact ⟨rfl, HK⟩ | exact ⟨by show Ending.returned (.bool (decide (s.asks ≤ 8))) = _; rw [decide_eq_false (by omega)], HK⟩
 by_cases c1 : 8 < s.prins
 ·have hf : fitsD s = false := by unfold fitsD; exact decide_eq_false (by omega)
  rw [hf]
  clear hf
  unfold ShpV
  go_enter Tryz.func6, Tryz.ntmps6
  go_wp2_with fail
  go_ret
  first | exact ⟨rfl, HK⟩ | exact ⟨by show Ending.returned (.bool (decide (s.asks ≤ 8))) = _; rw [decide_eq_false (by omega)], HK⟩
 by_cases c2 : s.links < 1
 ·have hf : fitsD s = false := by unfold fitsD; exact decide_eq_false (by omega)
  rw [hf]
  clear hf
  unfold ShpV
  go_enter Tryz.func6, Tryz.ntmps6
  go_wp2_with fail
  go_ret
  first | exact ⟨rfl, HK⟩ | exact ⟨by show Ending.returned (.bool (decide (s.asks ≤ 8))) = _; rw [decide_eq_false (by omega)], HK⟩
 by_cases c3 : 6 < s.links
 ·have hf : fitsD s = false := by unfold fitsD; exact decide_eq_false (by omega)
  rw [hf]
  clear hf
  unfold ShpV
  go_enter Tryz.func6, Tryz.ntmps6
  go_wp2_with fail
  go_ret
  first | exact ⟨rfl, HK⟩ | exact ⟨by show Ending.returned (.bool (decide (s.asks ≤ 8))) = _; rw [decide_eq_false (by omega)], HK⟩
 by_cases c4 : s.stmts < 0
 ·have hf : fitsD s = false := by unfold fitsD; exact decide_eq_false (by omega)
  rw [hf]
  clear hf
  unfold ShpV
  go_enter Tryz.func6, Tryz.ntmps6
  go_wp2_with fail
  go_ret
  first | exact ⟨rfl, HK⟩ | exact ⟨by show Ending.returned (.bool (decide (s.asks ≤ 8))) = _; rw [decide_eq_false (by omega)], HK⟩
 by_cases c5 : 40 < s.stmts
 ·have hf : fitsD s = false := by unfold fitsD; exact decide_eq_false (by omega)
  rw [hf]
  clear hf
  unfold ShpV
  go_enter Tryz.func6, Tryz.ntmps6
  go_wp2_with fail
  go_ret
  first | exact ⟨rfl, HK⟩ | exact ⟨by show Ending.returned (.bool (decide (s.asks ≤ 8))) = _; rw [decide_eq_false (by omega)], HK⟩
 by_cases c6 : s.grow < 0
 ·have hf : fitsD s = false := by unfold fitsD; exact decide_eq_false (by omega)
  rw [hf]
  clear hf
  unfold ShpV
  go_enter Tryz.func6, Tryz.ntmps6
  go_wp2_with fail
  go_ret
  first | exact ⟨rfl, HK⟩ | exact ⟨by show Ending.returned (.bool (decide (s.asks ≤ 8))) = _; rw [decide_eq_false (by omega)], HK⟩
 by_cases c7 : 40 < s.grow
 ·have hf : fitsD s = false := by unfold fitsD; exact decide_eq_false (by omega)
  rw [hf]
  clear hf
  unfold ShpV
  go_enter Tryz.func6, Tryz.ntmps6
  go_wp2_with fail
  go_ret
  first | exact ⟨rfl, HK⟩ | exact ⟨by show Ending.returned (.bool (decide (s.asks ≤ 8))) = _; rw [decide_eq_false (by omega)], HK⟩
 by_cases c8 : s.shrink < 0
 ·have hf : fitsD s = false := by unfold fitsD; exact decide_eq_false (by omega)
  rw [hf]
  clear hf
  unfold ShpV
  go_enter Tryz.func6, Tryz.ntmps6
  go_wp2_with fail
  go_ret
  first | exact ⟨rfl, HK⟩ | exact ⟨by show Ending.returned (.bool (decide (s.asks ≤ 8))) = _; rw [decide_eq_false (by omega)], HK⟩
 by_cases c9 : 40 < s.shrink
 ·have hf : fitsD s = false := by unfold fitsD; exact decide_eq_false (by omega)
  rw [hf]
  clear hf
  unfold ShpV
  go_enter Tryz.func6, Tryz.ntmps6
  go_wp2_with fail
  go_ret
  first | exact ⟨rfl, HK⟩ | exact ⟨by show Ending.returned (.bool (decide (s.asks ≤ 8))) = _; rw [decide_eq_false (by omega)], HK⟩
 by_cases c10 : s.asks < 0
 ·have hf : fitsD s = false := by unfold fitsD; exact decide_eq_false (by omega)
  rw [hf]
  clear hf
  unfold ShpV
  go_enter Tryz.func6, Tryz.ntmps6
  go_wp2_with fail
  go_ret
  first | exact ⟨rfl, HK⟩ | exact ⟨by show Ending.returned (.bool (decide (s.asks ≤ 8))) = _; rw [decide_eq_false (by omega)], HK⟩
 by_cases c11 : 8 < s.asks
 ·have hf : fitsD s = false := by unfold fitsD; exact decide_eq_false (by omega)
  rw [hf]
  clear hf
  unfold ShpV
  go_enter Tryz.func6, Tryz.ntmps6
  go_wp2_with fail
  go_ret
  first | exact ⟨rfl, HK⟩ | exact ⟨by show Ending.returned (.bool (decide (s.asks ≤ 8))) = _; rw [decide_eq_false (by omega)], HK⟩
 have hf : fitsD s = true := by unfold fitsD; exact decide_eq_true (by omega)
 rw [hf]
 clear hf
 unfold ShpV
 go_enter Tryz.func6, Tryz.ntmps6
 go_wp2_with fail
 go_ret
 first | exact ⟨rfl, HK⟩ | exact ⟨by show Ending.returned (.bool (decide (s.asks ≤ 8))) = _; rw [decide_eq_false (by omega)], HK⟩
theorem dmay_spec {b : Nat} (s : Shp) : Calls Tryz.prog 27 #[.pointer (some ⟨b, 0, none⟩), ShpV s] W fun e W' => e = .returned (.bool (fitsD s)) ∧ Hid (Keeps (fun _ => False) W W') := by
 have hk : Keeps (fun _ => False) W (W.alloc (.cells #[.int .i64 s.prins, .int .i64 s.links, .int .i64 s.stmts, .int .i64 s.grow, .int .i64 s.shrink, .int .i64 s.asks] 32)) := (Keeps.refl _ _).alloc _
 have HK := Lib.hid hk
 have HF := Lib.hid (dfits_spec (W := W.alloc (.cells #[.int .i64 s.prins, .int .i64 s.links, .int .i64 s.stmts, .int .i64 s.grow, .int .i64 s.shrink, .int .i64 s.asks] 32)) s)
 clear hk
 unfold ShpV at *
 go_enter Tryz.func27, Tryz.ntmps27
 go_wp2_with fail
 refine HF.out.mono ?_
 rintro e w1 ⟨rfl, h1⟩
 have HE : Hid (Keeps (fun _ => False) W w1) := HK.out.trans h1.out
 clear HF HK h1
 go_wp2_with fail
 go_ret
 exact ⟨rfl, HE⟩
end
end Go.Proofs.YtcdfpnlaklaafaaGreat
