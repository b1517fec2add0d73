/-
  Walks of what is drawn: numbers, letters, roles: the program's and the document's.
-/
import Derived.Test.YtcdfpnlaklaafaaGreatDrillPlain
import Derived.Test.YtcdfpnlaklaafaaGreatKit
import Derived.Deep.Light
import Derived.Lib.Hide
import Derived.Deep.LoopGhost
import Derived.BigQuiet
import Derived.Deep.QuietTactic
import Derived.Laws.IdiomStrings
set_option linter.unusedVariables false
set_option linter.unusedSimpArgs false
set_option linter.unnecessarySimpa false
namespace Go.Proofs.YtcdfpnlaklaafaaGreat
open Go.ChangeShapes Go.WideShapes Go.ChangeAt Go.RowKit Go.Deep
/-- A state in a block of its own. -/
def StB (W : World) (T : TypeId) (b : Nat) (x : Int) : Prop := W.heap[b]? = some (.cells #[.int .u64 x] T (0, 0)) ∧ U64 x
def encStr8 (s : Str) : Value := .string ⟨s.toArray⟩
def ShpV (s : Shp) : Value := .agg #[.int .i64 s.prins, .int .i64 s.links, .int .i64 s.stmts, .int .i64 s.grow, .int .i64 s.shrink, .int .i64 s.asks]
section
variable {W W' : World} {T : TypeId} {b : Nat} {x : Int}
theorem StB.keeps {S : Nat → Prop} (h : StB W T b x) (hk : Keeps S W W') (hs : ¬ S b) : StB W' T b x := ⟨(hk.block b (lt_of_heap h.1) hs).trans h.1, h.2⟩
theorem StB.c0 (h : StB W T b x) : W.cell? ⟨b, 0, none⟩ = some (.int .u64 x) := by rw [cell_of_heap h.1]; rfl
theorem StB.f0 (h : StB W T b x) : W.frozen? ⟨b, 0, none⟩ = false := Lib.frozen_of_heap h.1 0
theorem StB.put (h : StB W T b x) {y : Int} (hy : U64 y) : StB (W.setCell ⟨b, 0, none⟩ (.int .u64 y)) T b y ∧ Keeps (fun q => q = b) W (W.setCell ⟨b, 0, none⟩ (.int .u64 y)) := by
  refine ⟨⟨?_, hy⟩, Keeps.setCell (S := fun q => q = b) (Keeps.refl _ _) (p := ⟨b, 0, none⟩) (fun _ => rfl) _⟩
  exact heap_set h.1 0 (.int .u64 y)
/-- What a drawing call leaves. -/
def DrTo (W : World) (T : TypeId) (b : Nat) (v : Value) (y : Int) (e : Ending) (W' : World) : Prop := e = .returned v ∧ Hid (StB W' T b y ∧ Keeps (fun q => q = b) W W')
set_option maxRecDepth 100000
set_option maxHeartbeats 1600000
theorem dbelow_spec {n : Int} (hn2 : n ≤ 9223372036854775807) (h : StB W 67 b x) :
    Calls Tryz.prog 10 #[.pointer (some ⟨b, 0, none⟩), .int .i64 n] W (DrTo W 67 b (.int .i64 (belD x n).1) (belD x n).2) := by
  by_cases hn : n < 1
  · refine (drillBelow_none b n hn W).mono ?_
    rintro e W' ⟨rfl, rfl⟩
    unfold belD
    rw [if_pos hn]
    exact ⟨rfl, h, Keeps.refl _ _⟩
  · refine (drillBelow_any b x n (by omega) hn2 W h.c0 h.f0).mono ?_
    rintro e W' ⟨rfl, rfl⟩
    unfold belD
    rw [if_neg hn]
    exact ⟨rfl, h.put (lcg_u64 x)⟩
theorem rbelow_spec {n : Int} (hn2 : n ≤ 9223372036854775807) (h : StB W 30 b x) :
    Calls Tryz.prog 9 #[.pointer (some ⟨b, 0, none⟩), .int .i64 n] W (DrTo W 30 b (.int .i64 (belD x n).1) (belD x n).2) := by
  have c0 := h.c0
  have f0 := h.f0
  by_cases hn : n < 1
  · have HE : Hid (DrTo W 30 b (.int .i64 (belD x n).1) (belD x n).2 (.returned (.int .i64 0)) W) := by
      unfold belD
      rw [if_pos hn]
      exact ⟨rfl, h, Keeps.refl _ _⟩
    clear h
    go_enter Tryz.func9, Tryz.ntmps9
    go_wp2_with fail
    go_ret
    exact HE
  · obtain ⟨hr1, hr2⟩ := lcg_range x
    have h3 := Int.emod_nonneg (told (lcg x)) (b := n) (by omega)
    have h4 := Int.emod_lt_of_pos (told (lcg x)) (b := n) (by omega)
    have HE : Hid (DrTo W 30 b (.int .i64 (belD x n).1) (belD x n).2 (.returned (.int .i64 (told (lcg x) % n))) (W.setCell ⟨b, 0, none⟩ (.int .u64 (lcg x)))) := by
      unfold belD
      rw [if_neg hn]
      exact ⟨rfl, h.put (lcg_u64 x)⟩
    have e1 : IntKind.u64.wrap (1442695040888963407 + IntKind.u64.wrap (6364136223846793005 * x)) = lcg x := by
      unfold lcg
      rw [Int.add_comm, Int.mul_comm]
    have e2 : lcg x / 8589934592 = told (lcg x) := rfl
    have hwn : IntKind.u64.wrap n = n := IntWalk.u64_in _ (by omega)
    clear h
    go_enter Tryz.func9, Tryz.ntmps9
    go_wp2_with fail
    go_ret
    exact HE
theorem prin_letters {x : Int} {s : Shp} (hs : fitsD s = true) : 0 ≤ (belD x s.prins).1 ∧ (belD x s.prins).1 < 8 := by
  unfold fitsD at hs
  rw [decide_eq_true_eq] at hs
  have := belD_range (x := x) (n := s.prins) (by omega)
  omega
theorem name_letters {x : Int} {s : Shp} (hs : fitsD s = true) : 0 ≤ (belD x s.links).1 ∧ (belD x s.links).1 < 6 := by
  unfold fitsD at hs
  rw [decide_eq_true_eq] at hs
  have := belD_range (x := x) (n := s.links) (by omega)
  omega
theorem dprin_spec {s : Shp} (hs : fitsD s = true) (h : StB W 67 b x) :
    Calls Tryz.prog 28 #[.pointer (some ⟨b, 0, none⟩), ShpV s] W (DrTo W 67 b (encStr8 (prinD x s).1) (prinD x s).2) := by
  have hr := prin_letters (x := x) hs
  have hk : Keeps (fun _ => False) W (W.alloc (.cells #[.int .i64 s.prins, .int .i64 s.links, .int .i64 s.stmts, .int .i64 s.grow, .int .i64 s.shrink, .int .i64 s.asks] 32)) := (Keeps.refl _ _).alloc _
  have hn : s.prins ≤ 9223372036854775807 := by
    unfold fitsD at hs
    rw [decide_eq_true_eq] at hs
    omega
  have HB := Lib.hid (dbelow_spec hn (h.keeps hk (fun x => x)))
  have HK := Lib.hid hk
  have HR : Hid ((prinD x s).1 = [(65 + (belD x s.prins).1).toNat.toUInt8] ∧ (prinD x s).2 = (belD x s.prins).2) := ⟨rfl, rfl⟩
  obtain ⟨q, hq⟩ : ∃ q, belD x s.prins = q := ⟨_, rfl⟩
  rw [hq] at hr HB HR
  obtain ⟨i, y⟩ := q
  simp only at hr HB HR
  rw [HR.out.1, HR.out.2]
  clear hq HR h hk
  unfold ShpV
  go_enter Tryz.func28, Tryz.ntmps28
  go_wp2_with fail
  refine HB.out.mono ?_
  rintro e w1 ⟨rfl, h1⟩
  have HE : Hid (StB w1 67 b y ∧ Keeps (fun q => q = b) W w1) := ⟨h1.out.1, (HK.out.mono (fun _ _ x => x.elim)).trans h1.out.2⟩
  clear HB h1 HK
  have hi : i = 0 ∨ i = 1 ∨ i = 2 ∨ i = 3 ∨ i = 4 ∨ i = 5 ∨ i = 6 ∨ i = 7 := by omega
  rcases hi with rfl | rfl | rfl | rfl | rfl | rfl | rfl | rfl
  all_goals
    go_wp2_with fail
    go_ret
    exact ⟨rfl, HE⟩
end
end Go.Proofs.YtcdfpnlaklaafaaGreat
/-
 Which shapes fit: the program's answer and the document's.
-/
set_option linter.unusedVariables false
set_option linter.unusedSimpArgs false
set_option linter.unnecessarySimpa false
namespace Go.Proofs.YtcdfpnlaklaafaaGreat
open Go.ChangeShapes Go.WideShapes Go.ChangeAt Go.RowKit Go.Deep
section
variable {W W' : World}
set_option maxRecDepth 100000
set_option maxHeartbeats 1600000
theorem within_spec (n lo hi : Int) : Calls Tryz.prog 25 #[.int .i64 n, .int .i64 lo, .int .i64 hi] W fun e W' => e = .returned (.bool (decide (lo ≤ n ∧ n ≤ hi))) ∧ W = W' := by
 by_cases h1 : lo ≤ n
 ·by_cases h2 : n ≤ hi
  ·rw [decide_eq_true (And.intro h1 h2)]
   go_enter Tryz.func25, Tryz.ntmps25
   go_wp2_with fail
   go_ret
   exact ⟨rfl, rfl⟩
  ·rw [decide_eq_false (fun h => h2 h.2)]
   go_enter Tryz.func25, Tryz.ntmps25
   go_wp2_with fail
   go_ret
   exact ⟨rfl, rfl⟩
 ·rw [decide_eq_false (fun h => h1 h.1)]
  go_enter Tryz.func25, Tryz.ntmps25
  go_wp2_with fail
  go_ret
  exact ⟨rfl, rfl⟩
def ShpO (T : TypeId) (s : Shp) : Obj := .cells #[.int .i64 s.prins, .int .i64 s.links, .int .i64 s.stmts, .int .i64 s.grow, .int .i64 s.shrink, .int .i64 s.asks] T
theorem dfits_spec (s : Shp) : Calls Tryz.prog 7 #[ShpV s] W fun e W' => e = .returned (.bool (fitsD s)) ∧ Hid (Keeps (fun _ => False) W W') := by
 have HK : Hid (Keeps (fun _ => False) W (W.alloc (.cells #[.int .i64 s.prins, .int .i64 s.links, .int .i64 s.stmts, .int .i64 s.grow, .int .i64 s.shrink, .int .i64 s.asks] 32))) := (Keeps.refl _ _).alloc _
 have H1 : Hid (∀ W : World, Calls Tryz.prog 25 #[.int .i64 s.prins, .int .i64 1, .int .i64 8] W fun e W' => e = .returned (.bool (decide (1 ≤ s.prins ∧ s.prins ≤ 8))) ∧ W = W') := fun W => within_spec _ _ _
 have H2 : Hid (∀ W : World, Calls Tryz.prog 25 #[.int .i64 s.links, .int .i64 1, .int .i64 6] W fun e W' => e = .returned (.bool (decide (1 ≤ s.links ∧ s.links ≤ 6))) ∧ W = W') := fun W => within_spec _ _ _
 have H3 : Hid (∀ W : World, Calls Tryz.prog 25 #[.int .i64 s.stmts, .int .i64 0, .int .i64 40] W fun e W' => e = .returned (.bool (decide (0 ≤ s.stmts ∧ s.stmts ≤ 40))) ∧ W = W') := fun W => within_spec _ _ _
 have H4 : Hid (∀ W : World, Calls Tryz.prog 25 #[.int .i64 s.grow, .int .i64 0, .int .i64 40] W fun e W' => e = .returned (.bool (decide (0 ≤ s.grow ∧ s.grow ≤ 40))) ∧ W = W') := fun W => within_spec _ _ _
 have H5 : Hid (∀ W : World, Calls Tryz.prog 25 #[.int .i64 s.shrink, .int .i64 0, .int .i64 40] W fun e W' => e = .returned (.bool (decide (0 ≤ s.shrink ∧ s.shrink ≤ 40))) ∧ W = W') := fun W => within_spec _ _ _
 have H6 : Hid (∀ W : World, Calls Tryz.prog 25 #[.int .i64 s.asks, .int .i64 0, .int .i64 8] W fun e W' => e = .returned (.bool (decide (0 ≤ s.asks ∧ s.asks ≤ 8))) ∧ W = W') := fun W => within_spec _ _ _
 have HF : fitsD s = (decide (1 ≤ s.prins ∧ s.prins ≤ 8) && decide (1 ≤ s.links ∧ s.links ≤ 6) && decide (0 ≤ s.stmts ∧ s.stmts ≤ 40) && decide (0 ≤ s.grow ∧ s.grow ≤ 40) && decide (0 ≤ s.shrink ∧ s.shrink ≤ 40) && decide (0 ≤ s.asks ∧ s.asks ≤ 8)) := by
  unfold fitsD
  rw [Bool.eq_iff_iff]
  simp only [Bool.and_eq_true, decide_eq_true_eq]
  omega
 rw [HF]
 clear HF
 obtain ⟨b1, hb1⟩ : ∃ b, decide (1 ≤ s.prins ∧ s.prins ≤ 8) = b := ⟨_, rfl⟩
 rw [hb1] at H1 ⊢
 clear hb1
 obtain ⟨b2, hb2⟩ : ∃ b, decide (1 ≤ s.links ∧ s.links ≤ 6) = b := ⟨_, rfl⟩
 rw [hb2] at H2 ⊢
 clear hb2
 obtain ⟨b3, hb3⟩ : ∃ b, decide (0 ≤ s.stmts ∧ s.stmts ≤ 40) = b := ⟨_, rfl⟩
 rw [hb3] at H3 ⊢
 clear hb3
 obtain ⟨b4, hb4⟩ : ∃ b, decide (0 ≤ s.grow ∧ s.grow ≤ 40) = b := ⟨_, rfl⟩
 rw [hb4] at H4 ⊢
 clear hb4
 obtain ⟨b5, hb5⟩ : ∃ b, decide (0 ≤ s.shrink ∧ s.shrink ≤ 40) = b := ⟨_, rfl⟩
 rw [hb5] at H5 ⊢
 clear hb5
 obtain ⟨b6, hb6⟩ : ∃ b, decide (0 ≤ s.asks ∧ s.asks ≤ 8) = b := ⟨_, rfl⟩
 rw [hb6] at H6 ⊢
 clear hb6
 unfold ShpV
 cases b1 with
 | false =>
  go_enter Tryz.func7, Tryz.ntmps7
  go_wp2_with fail
  refine (H1.out _).mono ?_
  rintro e w' ⟨rfl, rfl⟩
  clear H1 H2 H3 H4 H5 H6
  go_wp2_with fail
  go_ret
  exact ⟨rfl, HK⟩
 | true =>
  cases b2 with
  | false =>
   go_enter Tryz.func7, Tryz.ntmps7
   go_wp2_with fail
   refine (H1.out _).mono ?_
   rintro e w' ⟨rfl, rfl⟩
   go_wp2_with fail
   refine (H2.out _).mono ?_
   rintro e w' ⟨rfl, rfl⟩
   clear H1 H2 H3 H4 H5 H6
   go_wp2_with fail
   go_ret
   exact ⟨rfl, HK⟩
  | true =>
   cases b3 with
   | false =>
    go_enter Tryz.func7, Tryz.ntmps7
    go_wp2_with fail
    refine (H1.out _).mono ?_
    rintro e w' ⟨rfl, rfl⟩
    go_wp2_with fail
    refine (H2.out _).mono ?_
    rintro e w' ⟨rfl, rfl⟩
    go_wp2_with fail
    refine (H3.out _).mono ?_
    rintro e w' ⟨rfl, rfl⟩
    clear H1 H2 H3 H4 H5 H6
    go_wp2_with fail
    go_ret
    exact ⟨rfl, HK⟩
   | true =>
    cases b4 with
    | false =>
     go_enter Tryz.func7, Tryz.ntmps7
     go_wp2_with fail
     refine (H1.out _).mono ?_
     rintro e w' ⟨rfl, rfl⟩
     go_wp2_with fail
     refine (H2.out _).mono ?_
     rintro e w' ⟨rfl, rfl⟩
     go_wp2_with fail
     refine (H3.out _).mono ?_
     rintro e w' ⟨rfl, rfl⟩
     go_wp2_with fail
     refine (H4.out _).mono ?_
     rintro e w' ⟨rfl, rfl⟩
     clear H1 H2 H3 H4 H5 H6
     go_wp2_with fail
     go_ret
     exact ⟨rfl, HK⟩
    | true =>
     cases b5 with
     | false =>
      go_enter Tryz.func7, Tryz.ntmps7
      go_wp2_with fail
      refine (H1.out _).mono ?_
      rintro e w' ⟨rfl, rfl⟩
      go_wp2_with fail
      refine (H2.out _).mono ?_
      rintro e w' ⟨rfl, rfl⟩
      go_wp2_with fail
      refine (H3.out _).mono ?_
      rintro e w' ⟨rfl, rfl⟩
      go_wp2_with fail
      refine (H4.out _).mono ?_
      rintro e w' ⟨rfl, rfl⟩
      go_wp2_with fail
      refine (H5.out _).mono ?_
      rintro e w' ⟨rfl, rfl⟩
      clear H1 H2 H3 H4 H5 H6
      go_wp2_with fail
      go_ret
      exact ⟨rfl, HK⟩
     | true =>
      cases b6 with
      | false =>
       go_enter Tryz.func7, Tryz.ntmps7
       go_wp2_with fail
       refine (H1.out _).mono ?_
       rintro e w' ⟨rfl, rfl⟩
       go_wp2_with fail
       refine (H2.out _).mono ?_
       rintro e w' ⟨rfl, rfl⟩
       go_wp2_with fail
       refine (H3.out _).mono ?_
       rintro e w' ⟨rfl, rfl⟩
       go_wp2_with fail
       refine (H4.out _).mono ?_
       rintro e w' ⟨rfl, rfl⟩
       go_wp2_with fail
       refine (H5.out _).mono ?_
       rintro e w' ⟨rfl, rfl⟩
       go_wp2_with fail
       refine (H6.out _).mono ?_
       rintro e w' ⟨rfl, rfl⟩
       clear H1 H2 H3 H4 H5 H6
       go_wp2_with fail
       go_ret
       exact ⟨rfl, HK⟩
      | true =>
       go_enter Tryz.func7, Tryz.ntmps7
       go_wp2_with fail
       refine (H1.out _).mono ?_
       rintro e w' ⟨rfl, rfl⟩
       go_wp2_with fail
       refine (H2.out _).mono ?_
       rintro e w' ⟨rfl, rfl⟩
       go_wp2_with fail
       refine (H3.out _).mono ?_
       rintro e w' ⟨rfl, rfl⟩
       go_wp2_with fail
       refine (H4.out _).mono ?_
       rintro e w' ⟨rfl, rfl⟩
       go_wp2_with fail
       refine (H5.out _).mono ?_
       rintro e w' ⟨rfl, rfl⟩
       go_wp2_with fail
       refine (H6.out _).mono ?_
       rintro e w' ⟨rfl, rfl⟩
       clear H1 H2 H3 H4 H5 H6
       go_wp2_with fail
       go_ret
       exact ⟨rfl, HK⟩
theorem rfits_spec (s : Shp) : Calls Tryz.prog 6 #[ShpV s] W fun e W' => e = .returned (.bool (fitsD s)) ∧ Hid (Keeps (fun _ => False) W W') := by
 have HK : Hid (Keeps (fun _ => False) W (W.alloc (.cells #[.int .i64 s.prins, .int .i64 s.links, .int .i64 s.stmts, .int .i64 s.grow, .int .i64 s.shrink, .int .i64 s.asks] 24))) := (Keeps.refl _ _).alloc _
 by_cases c0 : s.prins < 1
 ·have hf : fitsD s = false := by unfold fitsD; exact decide_eq_false (by omega)
  rw [hf]
  clear hf
  unfold ShpV
  go_enter Tryz.func6, Tryz.ntmps6
  go_wp2_with fail
  go_ret
  first | exact ⟨rfl, HK⟩ | exact ⟨by show Ending.returned (.bool (decide (s.asks ≤ 8))) = _; rw [decide_eq_false (by omega)], HK⟩
 by_cases c1 : 8 < s.prins
 ·have hf : fitsD s = false := by unfold fitsD; exact decide_eq_false (by omega)
  rw [hf]
  clear hf
  unfold ShpV
  go_enter Tryz.func6, Tryz.ntmps6
  go_wp2_with fail
  go_ret
  first | exact ⟨rfl, HK⟩ | exact ⟨by show Ending.returned (.bool (decide (s.asks ≤ 8))) = _; rw [decide_eq_false (by omega)], HK⟩
 by_cases c2 : s.links < 1
 ·have hf : fitsD s = false := by unfold fitsD; exact decide_eq_false (by omega)
  rw [hf]
  clear hf
  unfold ShpV
  go_enter Tryz.func6, Tryz.ntmps6
  go_wp2_with fail
  go_ret
  first | exact ⟨rfl, HK⟩ | exact ⟨by show Ending.returned (.bool (decide (s.asks ≤ 8))) = _; rw [decide_eq_false (by omega)], HK⟩
 by_cases c3 : 6 < s.links
 ·have hf : fitsD s = false := by unfold fitsD; exact decide_eq_false (by omega)
  rw [hf]
  clear hf
  unfold ShpV
  go_enter Tryz.func6, Tryz.ntmps6
  go_wp2_with fail
  go_ret
  first | exact ⟨rfl, HK⟩ | exact ⟨by show Ending.returned (.bool (decide (s.asks ≤ 8))) = _; rw [decide_eq_false (by omega)], HK⟩
 by_cases c4 : s.stmts < 0
 ·have hf : fitsD s = false := by unfold fitsD; exact decide_eq_false (by omega)
  rw [hf]
  clear hf
  unfold ShpV
  go_enter Tryz.func6, Tryz.ntmps6
  go_wp2_with fail
  go_ret
  first | exact ⟨rfl, HK⟩ | exact ⟨by show Ending.returned (.bool (decide (s.asks ≤ 8))) = _; rw [decide_eq_false (by omega)], HK⟩
 by_cases c5 : 40 < s.stmts
 ·have hf : fitsD s = false := by unfold fitsD; exact decide_eq_false (by omega)
  rw [hf]
  clear hf
  unfold ShpV
  go_enter Tryz.func6, Tryz.ntmps6
  go_wp2_with fail
  go_ret
  first | exact ⟨rfl, HK⟩ | exact ⟨by show Ending.returned (.bool (decide (s.asks ≤ 8))) = _; rw [decide_eq_false (by omega)], HK⟩
 by_cases c6 : s.grow < 0
 ·have hf : fitsD s = false := by unfold fitsD; exact decide_eq_false (by omega)
  rw [hf]
  clear hf
  unfold ShpV
  go_enter Tryz.func6, Tryz.ntmps6
  go_wp2_with fail
  go_ret
  first | exact ⟨rfl, HK⟩ | exact ⟨by show Ending.returned (.bool (decide (s.asks ≤ 8))) = _; rw [decide_eq_false (by omega)], HK⟩
 by_cases c7 : 40 < s.grow
 ·have hf : fitsD s = false := by unfold fitsD; exact decide_eq_false (by omega)
  rw [hf]
  clear hf
  unfold ShpV
  go_enter Tryz.func6, Tryz.ntmps6
  go_wp2_with fail
  go_ret
  first | exact ⟨rfl, HK⟩ | exact ⟨by show Ending.returned (.bool (decide (s.asks ≤ 8))) = _; rw [decide_eq_false (by omega)], HK⟩
 by_cases c8 : s.shrink < 0
 ·have hf : fitsD s = false := by unfold fitsD; exact decide_eq_false (by omega)
  rw [hf]
  clear hf
  unfold ShpV
  go_enter Tryz.func6, Tryz.ntmps6
  go_wp2_with fail
  go_ret
  first | exact ⟨rfl, HK⟩ | exact ⟨by show Ending.returned (.bool (decide (s.asks ≤ 8))) = _; rw [decide_eq_false (by omega)], HK⟩
 by_cases c9 : 40 < s.shrink
 ·have hf : fitsD s = false := by unfold fitsD; exact decide_eq_false (by omega)
  rw [hf]
  clear hf
  unfold ShpV
  go_enter Tryz.func6, Tryz.ntmps6
  go_wp2_with fail
  go_ret
  first | exact ⟨rfl, HK⟩ | exact ⟨by show Ending.returned (.bool (decide (s.asks ≤ 8))) = _; rw [decide_eq_false (by omega)], HK⟩
 by_cases c10 : s.asks < 0
 ·have hf : fitsD s = false := by unfold fitsD; exact decide_eq_false (by omega)
  rw [hf]
  clear hf
  unfold ShpV
  go_enter Tryz.func6, Tryz.ntmps6
  go_wp2_with fail
  go_ret
  first | exact ⟨rfl, HK⟩ | exact ⟨by show Ending.returned (.bool (decide (s.asks ≤ 8))) = _; rw [decide_eq_false (by omega)], HK⟩
 by_cases c11 : 8 < s.asks
 ·have hf : fitsD s = false := by unfold fitsD; exact decide_eq_false (by omega)
  rw [hf]
  clear hf
  unfold ShpV
  go_enter Tryz.func6, Tryz.ntmps6
  go_wp2_with fail
  go_ret
  first | exact ⟨rfl, HK⟩ | exact ⟨by show Ending.returned (.bool (decide (s.asks ≤ 8))) = _; rw [decide_eq_false (by omega)], HK⟩
 have hf : fitsD s = true := by unfold fitsD; exact decide_eq_true (by omega)
 rw [hf]
 clear hf
 unfold ShpV
 go_enter Tryz.func6, Tryz.ntmps6
 go_wp2_with fail
 go_ret
 first | exact ⟨rfl, HK⟩ | exact ⟨by show Ending.returned (.bool (decide (s.asks ≤ 8))) = _; rw [decide_eq_false (by omega)], HK⟩
theorem dmay_spec {b : Nat} (s : Shp) : Calls Tryz.prog 27 #[.pointer (some ⟨b, 0, none⟩), ShpV s] W fun e W' => e = .returned (.bool (fitsD s)) ∧ Hid (Keeps (fun _ => False) W W') := by
 have hk : Keeps (fun _ => False) W (W.alloc (.cells #[.int .i64 s.prins, .int .i64 s.links, .int .i64 s.stmts, .int .i64 s.grow, .int .i64 s.shrink, .int .i64 s.asks] 32)) := (Keeps.refl _ _).alloc _
 have HK := Lib.hid hk
 have HF := Lib.hid (dfits_spec (W := W.alloc (.cells #[.int .i64 s.prins, .int .i64 s.links, .int .i64 s.stmts, .int .i64 s.grow, .int .i64 s.shrink, .int .i64 s.asks] 32)) s)
 clear hk
 unfold ShpV at *
 go_enter Tryz.func27, Tryz.ntmps27
 go_wp2_with fail
 refine HF.out.mono ?_
 rintro e w1 ⟨rfl, h1⟩
 have HE : Hid (Keeps (fun _ => False) W w1) := HK.out.trans h1.out
 clear HF HK h1
 go_wp2_with fail
 go_ret
 exact ⟨rfl, HE⟩
end
end Go.Proofs.YtcdfpnlaklaafaaGreat
/-
 Walks of the drawing of roles: the program's and the document's.
-/
set_option linter.unusedVariables false
set_option linter.unusedSimpArgs false
set_option linter.unnecessarySimpa false
namespace Go.Proofs.YtcdfpnlaklaafaaGreat
open Go.ChangeShapes Go.WideShapes Go.ChangeAt Go.RowKit Go.Deep
section
variable {W W' : World} {T : TypeId} {b : Nat} {x : Int}
theorem shp_cells {B : Nat} {s : Shp} (h : W.heap[B]? = some (.cells #[.int .i64 s.prins, .int .i64 s.links, .int .i64 s.stmts, .int .i64 s.grow, .int .i64 s.shrink, .int .i64 s.asks] T)) :
  W.cell? ⟨B, 0, none⟩ = some (.int .i64 s.prins) ∧ W.cell? ⟨B, 1, none⟩ = some (.int .i64 s.links) ∧ W.cell? ⟨B, 2, none⟩ = some (.int .i64 s.stmts) ∧ W.cell? ⟨B, 3, none⟩ = some (.int .i64 s.grow) ∧ W.cell? ⟨B, 4, none⟩ = some (.int .i64 s.shrink) ∧ W.cell? ⟨B, 5, none⟩ = some (.int .i64 s.asks) := by
 refine ⟨?_, ?_, ?_, ?_, ?_, ?_⟩ <;> (rw [cell_of_heap h]; rfl)
set_option maxRecDepth 100000
set_option maxHeartbeats 3200000
theorem dname_spec {s : Shp} (hs : fitsD s = true) (h : StB W 67 b x) :
  Calls Tryz.prog 29 #[.pointer (some ⟨b, 0, none⟩), ShpV s] W (DrTo W 67 b (encStr8 (nameD x s).1) (nameD x s).2) := by
 have hr := name_letters (x := x) hs
 have hk : Keeps (fun _ => False) W (W.alloc (.cells #[.int .i64 s.prins, .int .i64 s.links, .int .i64 s.stmts, .int .i64 s.grow, .int .i64 s.shrink, .int .i64 s.asks] 32)) := (Keeps.refl _ _).alloc _
 have hn : s.links ≤ 9223372036854775807 := by
  unfold fitsD at hs
  rw [decide_eq_true_eq] at hs
  omega
 have HB := Lib.hid (dbelow_spec hn (h.keeps hk (fun x => x)))
 have HK := Lib.hid hk
 have HR : Hid ((nameD x s).1 = [(114 + (belD x s.links).1).toNat.toUInt8] ∧ (nameD x s).2 = (belD x s.links).2) := ⟨rfl, rfl⟩
 obtain ⟨q, hq⟩ : ∃ q, belD x s.links = q := ⟨_, rfl⟩
 rw [hq] at hr HB HR
 obtain ⟨i, y⟩ := q
 simp only at hr HB HR
 rw [HR.out.1, HR.out.2]
 clear hq HR h hk
 unfold ShpV
 go_enter Tryz.func29, Tryz.ntmps29
 go_wp2_with fail
 refine HB.out.mono ?_
 rintro e w1 ⟨rfl, h1⟩
 have HE : Hid (StB w1 67 b y ∧ Keeps (fun q => q = b) W w1) := ⟨h1.out.1, (HK.out.mono (fun _ _ x => x.elim)).trans h1.out.2⟩
 clear HB h1 HK
 have hi : i = 0 ∨ i = 1 ∨ i = 2 ∨ i = 3 ∨ i = 4 ∨ i = 5 := by omega
 rcases hi with rfl | rfl | rfl | rfl | rfl | rfl
 all_goals
  go_wp2_with fail
  go_ret
  exact ⟨rfl, HE⟩
theorem heap_set1 {B : Nat} {u0 u1 : Value} (h : W.heap[B]? = some (.cells #[u0, u1] T)) (v0 : Value) :
  (W.setCell ⟨B, 0, none⟩ v0).heap[B]? = some (.cells #[v0, u1] T) ∧ Keeps (fun q => q = B) W (W.setCell ⟨B, 0, none⟩ v0) :=
 ⟨heap_set h 0 v0, Keeps.setCell (S := fun q => q = B) (Keeps.refl _ _) (p := ⟨B, 0, none⟩) (fun _ => rfl) _⟩
theorem heap_set2 {B : Nat} {u0 u1 : Value} (h : W.heap[B]? = some (.cells #[u0, u1] T)) (v0 v1 : Value) :
  ((W.setCell ⟨B, 0, none⟩ v0).setCell ⟨B, 1, none⟩ v1).heap[B]? = some (.cells #[v0, v1] T) ∧ Keeps (fun q => q = B) W ((W.setCell ⟨B, 0, none⟩ v0).setCell ⟨B, 1, none⟩ v1) :=
 ⟨heap_set (heap_set h 0 v0) 1 v1, Keeps.setCell (S := fun q => q = B) (Keeps.setCell (S := fun q => q = B) (Keeps.refl _ _) (p := ⟨B, 0, none⟩) (fun _ => rfl) _) (p := ⟨B, 1, none⟩) (fun _ => rfl) _⟩
/-- A role's value. -/
def rolV (r : Rol) : Value := .agg #[encStr8 r.1, encStr8 r.2]
theorem drole_spec {s : Shp} (h : StB W 67 b x) :
  Calls Tryz.prog 12 #[.pointer (some ⟨b, 0, none⟩), ShpV s] W (DrTo W 67 b (rolV (orD s noRol rolD x).1) (orD s noRol rolD x).2) := by
 have hbl := lt_of_heap h.1
 have HM : Hid (∀ W : World, Calls Tryz.prog 27 #[.pointer (some ⟨b, 0, none⟩), ShpV s] W fun e W' => e = .returned (.bool (fitsD s)) ∧ Hid (Keeps (fun _ => False) W W')) := fun W => dmay_spec s
 have hal := (MapKept.heap_alloc W (.cells #[.int .i64 s.prins, .int .i64 s.links, .int .i64 s.stmts, .int .i64 s.grow, .int .i64 s.shrink, .int .i64 s.asks] 32)).1
 obtain ⟨WA, hWA⟩ : ∃ WA, W.alloc (.cells #[.int .i64 s.prins, .int .i64 s.links, .int .i64 s.stmts, .int .i64 s.grow, .int .i64 s.shrink, .int .i64 s.asks] 32) = WA := ⟨_, rfl⟩
 have hkA : Keeps (fun _ => False) W WA := by rw [← hWA]; exact (Keeps.refl _ _).alloc _
 have hsz : WA.heap.size = W.heap.size + 1 := by rw [← hWA]; simp
 rw [hWA] at hal
 have hal2 := (MapKept.heap_alloc WA (.cells #[.string ⟨#[]⟩, .string ⟨#[]⟩] 40)).1
 obtain ⟨WB, hWB⟩ : ∃ WB, WA.alloc (.cells #[.string ⟨#[]⟩, .string ⟨#[]⟩] 40) = WB := ⟨_, rfl⟩
 have hkB : Keeps (fun _ => False) WA WB := by rw [← hWB]; exact (Keeps.refl _ _).alloc _
 rw [hWB] at hal2
 have halB := (hkB.block _ (lt_of_heap hal) (fun x => x)).trans hal
 have HB0 := Lib.hid halB
 have HB1 := Lib.hid hal2
 have HKB := Lib.hid (hkA.trans hkB)
 have HH := Lib.hid h
 have HN : Hid (W.heap.size ≠ b ∧ WA.heap.size ≠ b ∧ WA.heap.size ≠ W.heap.size ∧ W.heap.size ≤ WA.heap.size) := ⟨by omega, by omega, by omega, by omega⟩
 obtain ⟨p0, p1, p2, p3, p4, p5⟩ := shp_cells halB
 cases hf : fitsD s with
 | false =>
  have HE : Hid (orD s noRol rolD x = (noRol, x)) := by unfold orD; rw [hf]; exact rfl
  rw [HE.out]
  rw [hf] at HM
  clear hf halB hal hal2 hkA hkB hsz h
  unfold ShpV at *
  go_enter Tryz.func12, Tryz.ntmps12
  go_wp2_with fail
  refine (HM.out _).mono ?_
  rintro e w1 ⟨rfl, h1⟩
  have hB1 := (h1.out.block _ (lt_of_heap HB1.out) (fun x => x)).trans HB1.out
  have c0 := cell_of_heap hB1 0
  have c1 := cell_of_heap hB1 1
  simp only [List.getElem?_toArray, List.getElem?_cons_zero, List.getElem?_cons_succ] at c0 c1
  have f0 := Lib.frozen_of_heap hB1 0
  have f1 := Lib.frozen_of_heap hB1 1
  have HKW := Lib.hid (HKB.out.trans h1.out)
  have HHB := Lib.hid hB1
  clear HM h1 HB0 HB1 p0 p1 p2 p3 p4 p5 hWA hWB HE HKB hB1
  go_wp2_with fail
  have hs2 := heap_set2 HHB.out (.string ⟨#[]⟩) (.string ⟨#[]⟩)
  have HE : Hid (StB ((w1.setCell ⟨WA.heap.size, 0, none⟩ (.string ⟨#[]⟩)).setCell ⟨WA.heap.size, 1, none⟩ (.string ⟨#[]⟩)) 67 b x ∧ Keeps (fun q => q = b) W ((w1.setCell ⟨WA.heap.size, 0, none⟩ (.string ⟨#[]⟩)).setCell ⟨WA.heap.size, 1, none⟩ (.string ⟨#[]⟩))) := by
   have hk : Keeps (fun _ => False) W ((w1.setCell ⟨WA.heap.size, 0, none⟩ (.string ⟨#[]⟩)).setCell ⟨WA.heap.size, 1, none⟩ (.string ⟨#[]⟩)) := HKW.out.trans_new hs2.2 (fun q hq e => by have := HN.out; omega)
   exact ⟨HH.out.keeps hk (fun x => x), hk.mono (fun _ _ x => x.elim)⟩
  have d0 := cell_of_heap hs2.1 0
  have d1 := cell_of_heap hs2.1 1
  simp only [List.getElem?_toArray, List.getElem?_cons_zero, List.getElem?_cons_succ] at d0 d1
  clear hs2 HHB c0 c1 f0 f1
  generalize ((w1.setCell ⟨WA.heap.size, 0, none⟩ (.string ⟨#[]⟩)).setCell ⟨WA.heap.size, 1, none⟩ (.string ⟨#[]⟩)) = WE at *
  refine bodyPost_ret (v := rolV noRol) (by simp [results, Tryz.results12, go_sem, *, rolV, noRol, encStr8]) rfl ?_
  exact ⟨rfl, HE⟩
 | true =>
  have HE0 : Hid (orD s noRol rolD x = (((prinD x s).1, (nameD (prinD x s).2 s).1), (nameD (prinD x s).2 s).2)) := by unfold orD; rw [hf]; exact rfl
  rw [HE0.out]
  rw [hf] at HM
  have HPR : Hid (∀ W : World, StB W 67 b x → Calls Tryz.prog 28 #[.pointer (some ⟨b, 0, none⟩), ShpV s] W (DrTo W 67 b (encStr8 (prinD x s).1) (prinD x s).2)) := fun W h => dprin_spec hf h
  obtain ⟨P, hP⟩ : ∃ P, prinD x s = P := ⟨_, rfl⟩
  rw [hP] at HPR ⊢
  have HNA : Hid (∀ (W : World), StB W 67 b P.2 → Calls Tryz.prog 29 #[.pointer (some ⟨b, 0, none⟩), ShpV s] W (DrTo W 67 b (encStr8 (nameD P.2 s).1) (nameD P.2 s).2)) := fun W h => dname_spec hf h
  obtain ⟨Q, hQ⟩ : ∃ Q, nameD P.2 s = Q := ⟨_, rfl⟩
  rw [hQ] at HNA ⊢
  clear hf halB hal hal2 hkA hkB hsz h HE0 hP hQ
  unfold ShpV encStr8 at *
  go_enter Tryz.func12, Tryz.ntmps12
  go_wp2_with fail
  refine (HM.out _).mono ?_
  rintro e w1 ⟨rfl, h1⟩
  have HB1' := Lib.hid ((h1.out.block _ (lt_of_heap HB1.out) (fun x => x)).trans HB1.out)
  have HB0' := Lib.hid ((h1.out.block _ (lt_of_heap HB0.out) (fun x => x)).trans HB0.out)
  have HKW := Lib.hid (HKB.out.trans h1.out)
  have HPC := Lib.hid (HPR.out w1 (HH.out.keeps HKW.out (fun x => x)))
  clear HM h1 HB0 HB1 p0 p1 p2 p3 p4 p5 hWA hWB HKB HPR
  obtain ⟨p0, p1, p2, p3, p4, p5⟩ := shp_cells HB0'.out
  go_wp2_with fail
  refine HPC.out.mono ?_
  rintro e w2 ⟨rfl, h2⟩
  have hB1 := (h2.out.2.block _ (lt_of_heap HB1'.out) HN.out.2.1).trans HB1'.out
  have HB0 := Lib.hid ((h2.out.2.block _ (lt_of_heap HB0'.out) HN.out.1).trans HB0'.out)
  have c0 := cell_of_heap hB1 0
  simp only [List.getElem?_toArray, List.getElem?_cons_zero, List.getElem?_cons_succ] at c0
  have f0 := Lib.frozen_of_heap hB1 0
  have HSB := Lib.hid h2.out.1
  have hk2 : Keeps (fun q => q = b) W w2 := (HKW.out.mono (fun _ _ x => x.elim)).trans h2.out.2
  have hs1 := heap_set1 hB1 (.string ⟨P.1.toArray⟩)
  have HB13 : Hid ((w2.setCell ⟨WA.heap.size, 0, none⟩ (.string ⟨P.1.toArray⟩)).heap[WA.heap.size]? = some (.cells #[.string ⟨P.1.toArray⟩, .string ⟨#[]⟩] 40)) := hs1.1
  have HB03 : Hid ((w2.setCell ⟨WA.heap.size, 0, none⟩ (.string ⟨P.1.toArray⟩)).heap[W.heap.size]? = some (.cells #[.int .i64 s.prins, .int .i64 s.links, .int .i64 s.stmts, .int .i64 s.grow, .int .i64 s.shrink, .int .i64 s.asks] 32)) := (hs1.2.block _ (lt_of_heap HB0.out) (by have := HN.out; omega)).trans HB0.out
  have HK3 : Hid (Keeps (fun q => q = b) W (w2.setCell ⟨WA.heap.size, 0, none⟩ (.string ⟨P.1.toArray⟩))) := hk2.trans_new hs1.2 (fun q hq e => by have := HN.out; omega)
  have HS3 : Hid (StB (w2.setCell ⟨WA.heap.size, 0, none⟩ (.string ⟨P.1.toArray⟩)) 67 b P.2) := HSB.out.keeps hs1.2 (by have := HN.out; omega)
  clear HPC h2 HB1' HB0' HKW p0 p1 p2 p3 p4 p5 hs1 hk2 HB0 HSB hB1
  obtain ⟨p0, p1, p2, p3, p4, p5⟩ := shp_cells HB03.out
  go_upto_region 4 with fail
  generalize (w2.setCell ⟨WA.heap.size, 0, none⟩ (.string ⟨P.1.toArray⟩)) = w3 at *
  have HNC := Lib.hid (HNA.out w3 HS3.out)
  clear HNA c0 f0
  go_wp2_with fail
  refine HNC.out.mono ?_
  rintro e w4 ⟨rfl, h4⟩
  have hB1 := (h4.out.2.block _ (lt_of_heap HB13.out) HN.out.2.1).trans HB13.out
  have c1 := cell_of_heap hB1 1
  have c0 := cell_of_heap hB1 0
  simp only [List.getElem?_toArray, List.getElem?_cons_zero, List.getElem?_cons_succ] at c0 c1
  have f0 := Lib.frozen_of_heap hB1 0
  have f1 := Lib.frozen_of_heap hB1 1
  have hE : ((((w4.setCell ⟨WA.heap.size, 1, none⟩ (.string ⟨Q.1.toArray⟩)).setCell ⟨WA.heap.size, 0, none⟩ (.string ⟨P.1.toArray⟩)).setCell ⟨WA.heap.size, 1, none⟩ (.string ⟨Q.1.toArray⟩)).heap[WA.heap.size]? = some (.cells #[.string ⟨P.1.toArray⟩, .string ⟨Q.1.toArray⟩] 40)) := heap_set (heap_set (heap_set hB1 1 (.string ⟨Q.1.toArray⟩)) 0 (.string ⟨P.1.toArray⟩)) 1 (.string ⟨Q.1.toArray⟩)
  have hKE : Keeps (fun q => q = WA.heap.size) w4 (((w4.setCell ⟨WA.heap.size, 1, none⟩ (.string ⟨Q.1.toArray⟩)).setCell ⟨WA.heap.size, 0, none⟩ (.string ⟨P.1.toArray⟩)).setCell ⟨WA.heap.size, 1, none⟩ (.string ⟨Q.1.toArray⟩)) :=
   Keeps.setCell (S := fun q => q = WA.heap.size) (Keeps.setCell (S := fun q => q = WA.heap.size) (Keeps.setCell (S := fun q => q = WA.heap.size) (Keeps.refl _ _) (p := ⟨WA.heap.size, 1, none⟩) (fun _ => rfl) _) (p := ⟨WA.heap.size, 0, none⟩) (fun _ => rfl) _) (p := ⟨WA.heap.size, 1, none⟩) (fun _ => rfl) _
  have HEW := Lib.hid hE
  have HE : Hid (StB (((w4.setCell ⟨WA.heap.size, 1, none⟩ (.string ⟨Q.1.toArray⟩)).setCell ⟨WA.heap.size, 0, none⟩ (.string ⟨P.1.toArray⟩)).setCell ⟨WA.heap.size, 1, none⟩ (.string ⟨Q.1.toArray⟩)) 67 b Q.2 ∧ Keeps (fun q => q = b) W (((w4.setCell ⟨WA.heap.size, 1, none⟩ (.string ⟨Q.1.toArray⟩)).setCell ⟨WA.heap.size, 0, none⟩ (.string ⟨P.1.toArray⟩)).setCell ⟨WA.heap.size, 1, none⟩ (.string ⟨Q.1.toArray⟩))) :=
   ⟨h4.out.1.keeps hKE (by have := HN.out; omega), (HK3.out.trans h4.out.2).trans_new hKE (fun q hq e => by have := HN.out; omega)⟩
  clear HNC h4 HB13 HB03 HK3 HS3 p0 p1 p2 p3 p4 p5 hE hKE hB1
  go_wp2_with fail
  clear c0 c1 f0 f1
  generalize (((w4.setCell ⟨WA.heap.size, 1, none⟩ (.string ⟨Q.1.toArray⟩)).setCell ⟨WA.heap.size, 0, none⟩ (.string ⟨P.1.toArray⟩)).setCell ⟨WA.heap.size, 1, none⟩ (.string ⟨Q.1.toArray⟩)) = WE at *
  have d0 := cell_of_heap HEW.out 0
  have d1 := cell_of_heap HEW.out 1
  simp only [List.getElem?_toArray, List.getElem?_cons_zero, List.getElem?_cons_succ] at d0 d1
  refine bodyPost_ret (v := rolV (P.1, Q.1)) (by simp [results, Tryz.results12, go_sem, *, rolV, encStr8]) rfl ?_
  exact ⟨rfl, HE⟩
theorem rletter_spec {c : Int} (hc : c = 65 ∨ c = 114) {n : Int} (hn0 : 0 ≤ n) (hn8 : n < 8) :
  Calls Tryz.prog 26 #[.int .u8 c, .int .i64 n] W fun e W' => e = .returned (encStr8 [(c + n).toNat.toUInt8]) ∧ Hid (Keeps (fun _ => False) W W') := by
 have hi : n = 0 ∨ n = 1 ∨ n = 2 ∨ n = 3 ∨ n = 4 ∨ n = 5 ∨ n = 6 ∨ n = 7 := by omega
 unfold encStr8
 obtain ⟨d, hd⟩ : ∃ d, (c + n).toNat.toUInt8 = d := ⟨_, rfl⟩
 have hdn : ((d.toNat : Nat) : Int) = c + n := by
  rw [← hd]
  rcases hc with rfl | rfl <;> rcases hi with rfl | rfl | rfl | rfl | rfl | rfl | rfl | rfl <;> decide
 rw [hd]
 have hal := (MapKept.heap_alloc W (.cells #[.int .u8 (c + n)] 5)).1
 have hrun : (convert 85 9 (.slice (some ⟨W.heap.size, 0, none⟩) 1 1)).run Tryz.prog (W.alloc (.cells #[.int .u8 (c + n)] 5)) = .ok (.string ⟨[d].toArray⟩) (W.alloc (.cells #[.int .u8 (c + n)] 5)) :=
  run_convert_bytes_back (W.alloc (.cells #[.int .u8 (c + n)] 5)) 85 9 5 ⟨W.heap.size, 0, none⟩ 1 [d] Tryz.underlying85 Tryz.underlying5 Tryz.underlying9 (fun j hj => by
   have hj0 : j = 0 := by simpa using hj
   subst hj0
   rw [Addr.add_lit, cell_of_heap hal]
   simp only [List.getElem_cons_zero, hdn]
   rfl)
 have HK : Hid (Keeps (fun _ => False) W (W.alloc (.cells #[.int .u8 (c + n)] 5))) := (Keeps.refl _ _).alloc _
 clear hd hdn hal
 have hcn : 0 ≤ c ∧ c ≤ 114 := by omega
 obtain ⟨hcn0, hcn1⟩ := hcn
 clear hi hc
 go_enter Tryz.func26, Tryz.ntmps26
 go_wp2_with fail
 go_ret
 exact ⟨rfl, HK⟩
/-- A drawn number below a shape's, as a letter. -/
theorem rrole_spec {s : Shp} (hs : fitsD s = true) (h : StB W 30 b x) :
  Calls Tryz.prog 11 #[.pointer (some ⟨b, 0, none⟩), ShpV s] W (DrTo W 30 b (rolV (rolD x s).1) (rolD x s).2) := by
 have hbl := lt_of_heap h.1
 have hr1 := prin_letters (x := x) hs
 have hr2 := name_letters (x := (belD x s.prins).2) hs
 have hn1 : s.prins ≤ 9223372036854775807 := by unfold fitsD at hs; rw [decide_eq_true_eq] at hs; omega
 have hn2 : s.links ≤ 9223372036854775807 := by unfold fitsD at hs; rw [decide_eq_true_eq] at hs; omega
 have HD : Hid (rolD x s = (([(65 + (belD x s.prins).1).toNat.toUInt8], [(114 + (belD (belD x s.prins).2 s.links).1).toNat.toUInt8]), (belD (belD x s.prins).2 s.links).2)) := rfl
 obtain ⟨P, hP⟩ : ∃ P, belD x s.prins = P := ⟨_, rfl⟩
 rw [hP] at hr1 hr2 HD
 obtain ⟨Q, hQ⟩ : ∃ Q, belD P.2 s.links = Q := ⟨_, rfl⟩
 rw [hQ] at hr2 HD
 have HB1 : Hid (∀ W, StB W 30 b x → Calls Tryz.prog 9 #[.pointer (some ⟨b, 0, none⟩), .int .i64 s.prins] W (DrTo W 30 b (.int .i64 P.1) P.2)) := fun W h => by
  have q := rbelow_spec hn1 h
  rw [hP] at q
  exact q
 have HB2 : Hid (∀ W, StB W 30 b P.2 → Calls Tryz.prog 9 #[.pointer (some ⟨b, 0, none⟩), .int .i64 s.links] W (DrTo W 30 b (.int .i64 Q.1) Q.2)) := fun W h => by
  have q := rbelow_spec hn2 h
  rw [hQ] at q
  exact q
 have HL1 : Hid (∀ W : World, Calls Tryz.prog 26 #[.int .u8 65, .int .i64 P.1] W fun e W' => e = .returned (encStr8 [(65 + P.1).toNat.toUInt8]) ∧ Hid (Keeps (fun _ => False) W W')) := fun W => rletter_spec (.inl rfl) hr1.1 hr1.2
 have HL2 : Hid (∀ W : World, Calls Tryz.prog 26 #[.int .u8 114, .int .i64 Q.1] W fun e W' => e = .returned (encStr8 [(114 + Q.1).toNat.toUInt8]) ∧ Hid (Keeps (fun _ => False) W W')) := fun W => rletter_spec (.inr rfl) hr2.1 (by omega)
 rw [HD.out]
 obtain ⟨u, hu⟩ : ∃ u : Str, [(65 + P.1).toNat.toUInt8] = u := ⟨_, rfl⟩
 obtain ⟨v, hv⟩ : ∃ u : Str, [(114 + Q.1).toNat.toUInt8] = u := ⟨_, rfl⟩
 rw [hu] at HL1 ⊢
 rw [hv] at HL2 ⊢
 have hal := (MapKept.heap_alloc W (.cells #[.int .i64 s.prins, .int .i64 s.links, .int .i64 s.stmts, .int .i64 s.grow, .int .i64 s.shrink, .int .i64 s.asks] 24)).1
 obtain ⟨WA, hWA⟩ : ∃ WA, W.alloc (.cells #[.int .i64 s.prins, .int .i64 s.links, .int .i64 s.stmts, .int .i64 s.grow, .int .i64 s.shrink, .int .i64 s.asks] 24) = WA := ⟨_, rfl⟩
 have hkA : Keeps (fun _ => False) W WA := by rw [← hWA]; exact (Keeps.refl _ _).alloc _
 have hsz : WA.heap.size = W.heap.size + 1 := by rw [← hWA]; simp
 rw [hWA] at hal
 have hal2 := (MapKept.heap_alloc WA (.cells #[.string ⟨#[]⟩, .string ⟨#[]⟩] 40)).1
 obtain ⟨WB, hWB⟩ : ∃ WB, WA.alloc (.cells #[.string ⟨#[]⟩, .string ⟨#[]⟩] 40) = WB := ⟨_, rfl⟩
 have hkB : Keeps (fun _ => False) WA WB := by rw [← hWB]; exact (Keeps.refl _ _).alloc _
 rw [hWB] at hal2
 have halB := (hkB.block _ (lt_of_heap hal) (fun x => x)).trans hal
 have HB1' := Lib.hid hal2
 have HB0' := Lib.hid halB
 have HKB := Lib.hid (hkA.trans hkB)
 have HH := Lib.hid h
 have HN : Hid (W.heap.size ≠ b ∧ WA.heap.size ≠ b ∧ WA.heap.size ≠ W.heap.size ∧ W.heap.size ≤ WA.heap.size) := ⟨by omega, by omega, by omega, by omega⟩
 have HC1 := Lib.hid (HB1.out WB (h.keeps HKB.out (fun x => x)))
 obtain ⟨p0, p1, p2, p3, p4, p5⟩ := shp_cells halB
 clear halB hal hal2 hkA hkB hsz h HD hP hQ hu hv hr1 hr2 hn1 hn2 hs HB1
 unfold ShpV encStr8 at *
 go_enter Tryz.func11, Tryz.ntmps11
 go_wp2_with fail
 refine HC1.out.mono ?_
 rintro e w2 ⟨rfl, h2⟩
 have HB1 := Lib.hid ((h2.out.2.block _ (lt_of_heap HB1'.out) HN.out.2.1).trans HB1'.out)
 have HB0 := Lib.hid ((h2.out.2.block _ (lt_of_heap HB0'.out) HN.out.1).trans HB0'.out)
 have HS2 := Lib.hid h2.out.1
 have HK2 : Hid (Keeps (fun q => q = b) W w2) := (HKB.out.mono (fun _ _ x => x.elim)).trans h2.out.2
 clear HC1 h2 HB1' HB0' HKB p0 p1 p2 p3 p4 p5 hWA hWB HH
 go_wp2_with fail
 refine (HL1.out w2).mono ?_
 rintro e w3 ⟨rfl, h3⟩
 have HB13 := Lib.hid ((h3.out.block _ (lt_of_heap HB1.out) (fun x => x)).trans HB1.out)
 have HB03 := Lib.hid ((h3.out.block _ (lt_of_heap HB0.out) (fun x => x)).trans HB0.out)
 have HC2 := Lib.hid (HB2.out w3 (HS2.out.keeps h3.out (fun x => x)))
 have HK3 : Hid (Keeps (fun q => q = b) W w3) := HK2.out.trans (h3.out.mono (fun _ _ x => x.elim))
 clear HL1 h3 HB1 HB0 HS2 HK2 HB2
 obtain ⟨p0, p1, p2, p3, p4, p5⟩ := shp_cells HB03.out
 go_wp2_with fail
 refine HC2.out.mono ?_
 rintro e w4 ⟨rfl, h4⟩
 have HB14 := Lib.hid ((h4.out.2.block _ (lt_of_heap HB13.out) HN.out.2.1).trans HB13.out)
 have HS4 := Lib.hid h4.out.1
 have HK4 : Hid (Keeps (fun q => q = b) W w4) := HK3.out.trans h4.out.2
 clear HC2 h4 HB13 HB03 HK3 p0 p1 p2 p3 p4 p5
 go_wp2_with fail
 refine (HL2.out w4).mono ?_
 rintro e w5 ⟨rfl, h5⟩
 have hB1 := (h5.out.block _ (lt_of_heap HB14.out) (fun x => x)).trans HB14.out
 have c0 := cell_of_heap hB1 0
 have c1 := cell_of_heap hB1 1
 simp only [List.getElem?_toArray, List.getElem?_cons_zero, List.getElem?_cons_succ] at c0 c1
 have f0 := Lib.frozen_of_heap hB1 0
 have f1 := Lib.frozen_of_heap hB1 1
 have hs2 := heap_set2 hB1 (.string ⟨u.toArray⟩) (.string ⟨v.toArray⟩)
 have HE : Hid (StB ((w5.setCell ⟨WA.heap.size, 0, none⟩ (.string ⟨u.toArray⟩)).setCell ⟨WA.heap.size, 1, none⟩ (.string ⟨v.toArray⟩)) 30 b Q.2 ∧ Keeps (fun q => q = b) W ((w5.setCell ⟨WA.heap.size, 0, none⟩ (.string ⟨u.toArray⟩)).setCell ⟨WA.heap.size, 1, none⟩ (.string ⟨v.toArray⟩))) :=
  ⟨(HS4.out.keeps h5.out (fun x => x)).keeps hs2.2 (by have := HN.out; omega), (HK4.out.trans (h5.out.mono (fun _ _ x => x.elim))).trans_new hs2.2 (fun q hq e => by have := HN.out; omega)⟩
 have HEW := Lib.hid hs2.1
 clear HL2 h5 HB14 HS4 HK4 hs2 hB1
 go_wp2_with fail
 clear c0 c1 f0 f1
 generalize ((w5.setCell ⟨WA.heap.size, 0, none⟩ (.string ⟨u.toArray⟩)).setCell ⟨WA.heap.size, 1, none⟩ (.string ⟨v.toArray⟩)) = WE at *
 have d0 := cell_of_heap HEW.out 0
 have d1 := cell_of_heap HEW.out 1
 simp only [List.getElem?_toArray, List.getElem?_cons_zero, List.getElem?_cons_succ] at d0 d1
 refine bodyPost_ret (v := rolV (u, v)) (by simp [results, Tryz.results11, go_sem, *, rolV, encStr8]) rfl ?_
 exact ⟨rfl, HE⟩
end
end Go.Proofs.YtcdfpnlaklaafaaGreat
