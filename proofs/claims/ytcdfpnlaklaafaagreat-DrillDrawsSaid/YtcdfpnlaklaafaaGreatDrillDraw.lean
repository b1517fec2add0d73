/-
  Walks of what is drawn: numbers, letters, roles: the program's and the document's.
-/
import Derived.Test.YtcdfpnlaklaafaaGreatDrillPlain
import Derived.Test.YtcdfpnlaklaafaaGreatKit
import Derived.Deep.Light
import Derived.Lib.Hide
import Derived.Deep.LoopGhost
import Derived.BigQuiet
import Derived.Deep.QuietTactic
set_option linter.unusedVariables false
set_option linter.unusedSimpArgs false
set_option linter.unnecessarySimpa false
namespace Go.Proofs.YtcdfpnlaklaafaaGreat
open Go.ChangeShapes Go.WideShapes Go.ChangeAt Go.RowKit Go.Deep
/-- A state in a block of its own. -/
def StB (W : World) (T : TypeId) (b : Nat) (x : Int) : Prop := W.heap[b]? = some (.cells #[.int .u64 x] T (0, 0)) ∧ U64 x
def encStr8 (s : Str) : Value := .string ⟨s.toArray⟩
def ShpV (s : Shp) : Value := .agg #[.int .i64 s.prins, .int .i64 s.links, .int .i64 s.stmts, .int .i64 s.grow, .int .i64 s.shrink, .int .i64 s.asks]
section
variable {W W' : World} {T : TypeId} {b : Nat} {x : Int}
theorem StB.keeps {S : Nat → Prop} (h : StB W T b x) (hk : Keeps S W W') (hs : ¬ S b) : StB W' T b x := ⟨(hk.block b (lt_of_heap h.1) hs).trans h.1, h.2⟩
theorem StB.c0 (h : StB W T b x) : W.cell? ⟨b, 0, none⟩ = some (.int .u64 x) := by rw [cell_of_heap h.1]; rfl
theorem StB.f0 (h : StB W T b x) : W.frozen? ⟨b, 0, none⟩ = false := Lib.frozen_of_heap h.1 0
theorem StB.put (h : StB W T b x) {y : Int} (hy : U64 y) : StB (W.setCell ⟨b, 0, none⟩ (.int .u64 y)) T b y ∧ Keeps (fun q => q = b) W (W.setCell ⟨b, 0, none⟩ (.int .u64 y)) := by
  refine ⟨⟨?_, hy⟩, Keeps.setCell (S := fun q => q = b) (Keeps.refl _ _) (p := ⟨b, 0, none⟩) (fun _ => rfl) _⟩
  exact heap_set h.1 0 (.int .u64 y)
/-- What a drawing call leaves. -/
def DrTo (W : World) (T : TypeId) (b : Nat) (v : Value) (y : Int) (e : Ending) (W' : World) : Prop := e = .returned v ∧ Hid (StB W' T b y ∧ Keeps (fun q => q = b) W W')
set_option maxRecDepth 100000
set_option maxHeartbeats 1600000
theorem dbelow_spec {n : Int} (hn2 : n ≤ 9223372036854775807) (h : StB W 67 b x) :
    Calls Tryz.prog 10 #[.pointer (some ⟨b, 0, none⟩), .int .i64 n] W (DrTo W 67 b (.int .i64 (belD x n).1) (belD x n).2) := by
  by_cases hn : n < 1
  · refine (drillBelow_none b n hn W).mono ?_
    rintro e W' ⟨rfl, rfl⟩
    unfold belD
    rw [if_pos hn]
    exact ⟨rfl, h, Keeps.refl _ _⟩
  · refine (drillBelow_any b x n (by omega) hn2 W h.c0 h.f0).mono ?_
    rintro e W' ⟨rfl, rfl⟩
    unfold belD
    rw [if_neg hn]
    exact ⟨rfl, h.put (lcg_u64 x)⟩
theorem rbelow_spec {n : Int} (hn2 : n ≤ 9223372036854775807) (h : StB W 30 b x) :
    Calls Tryz.prog 9 #[.pointer (some ⟨b, 0, none⟩), .int .i64 n] W (DrTo W 30 b (.int .i64 (belD x n).1) (belD x n).2) := by
  have c0 := h.c0
  have f0 := h.f0
  by_cases hn : n < 1
  · have HE : Hid (DrTo W 30 b (.int .i64 (belD x n).1) (belD x n).2 (.returned (.int .i64 0)) W) := by
      unfold belD
      rw [if_pos hn]
      exact ⟨rfl, h, Keeps.refl _ _⟩
    clear h
    go_enter Tryz.func9, Tryz.ntmps9
    go_wp2_with fail
    go_ret
    exact HE
  · obtain ⟨hr1, hr2⟩ := lcg_range x
    have h3 := Int.emod_nonneg (told (lcg x)) (b := n) (by omega)
    have h4 := Int.emod_lt_of_pos (told (lcg x)) (b := n) (by omega)
    have HE : Hid (DrTo W 30 b (.int .i64 (belD x n).1) (belD x n).2 (.returned (.int .i64 (told (lcg x) % n))) (W.setCell ⟨b, 0, none⟩ (.int .u64 (lcg x)))) := by
      unfold belD
      rw [if_neg hn]
      exact ⟨rfl, h.put (lcg_u64 x)⟩
    have e1 : IntKind.u64.wrap (1442695040888963407 + IntKind.u64.wrap (6364136223846793005 * x)) = lcg x := by
      unfold lcg
      rw [Int.add_comm, Int.mul_comm]
    have e2 : lcg x / 8589934592 = told (lcg x) := rfl
    have hwn : IntKind.u64.wrap n = n := IntWalk.u64_in _ (by omega)
    clear h
    go_enter Tryz.func9, Tryz.ntmps9
    go_wp2_with fail
    go_ret
    exact HE
theorem prin_letters {x : Int} {s : Shp} (hs : fitsD s = true) : 0 ≤ (belD x s.prins).1 ∧ (belD x s.prins).1 < 8 := by
  unfold fitsD at hs
  rw [decide_eq_true_eq] at hs
  have := belD_range (x := x) (n := s.prins) (by omega)
  omega
theorem name_letters {x : Int} {s : Shp} (hs : fitsD s = true) : 0 ≤ (belD x s.links).1 ∧ (belD x s.links).1 < 6 := by
  unfold fitsD at hs
  rw [decide_eq_true_eq] at hs
  have := belD_range (x := x) (n := s.links) (by omega)
  omega
theorem dprin_spec {s : Shp} (hs : fitsD s = true) (h : StB W 67 b x) :
    Calls Tryz.prog 28 #[.pointer (some ⟨b, 0, none⟩), ShpV s] W (DrTo W 67 b (encStr8 (prinD x s).1) (prinD x s).2) := by
  have hr := prin_letters (x := x) hs
  have hk : Keeps (fun _ => False) W (W.alloc (.cells #[.int .i64 s.prins, .int .i64 s.links, .int .i64 s.stmts, .int .i64 s.grow, .int .i64 s.shrink, .int .i64 s.asks] 32)) := (Keeps.refl _ _).alloc _
  have hn : s.prins ≤ 9223372036854775807 := by
    unfold fitsD at hs
    rw [decide_eq_true_eq] at hs
    omega
  have HB := Lib.hid (dbelow_spec hn (h.keeps hk (fun x => x)))
  have HK := Lib.hid hk
  have HR : Hid ((prinD x s).1 = [(65 + (belD x s.prins).1).toNat.toUInt8] ∧ (prinD x s).2 = (belD x s.prins).2) := ⟨rfl, rfl⟩
  obtain ⟨q, hq⟩ : ∃ q, belD x s.prins = q := ⟨_, rfl⟩
  rw [hq] at hr HB HR
  obtain ⟨i, y⟩ := q
  simp only at hr HB HR
  rw [HR.out.1, HR.out.2]
  clear hq HR h hk
  unfold ShpV
  go_enter Tryz.func28, Tryz.ntmps28
  go_wp2_with fail
  refine HB.out.mono ?_
  rintro e w1 ⟨rfl, h1⟩
  have HE : Hid (StB w1 67 b y ∧ Keeps (fun q => q = b) W w1) := ⟨h1.out.1, (HK.out.mono (fun _ _ x => x.elim)).trans h1.out.2⟩
  clear HB h1 HK
  have hi : i = 0 ∨ i = 1 ∨ i = 2 ∨ i = 3 ∨ i = 4 ∨ i = 5 ∨ i = 6 ∨ i = 7 := by omega
  rcases hi with rfl | rfl | rfl | rfl | rfl | rfl | rfl | rfl
  all_goals
    go_wp2_with fail
    go_ret
    exact ⟨rfl, HE⟩
end
end Go.Proofs.YtcdfpnlaklaafaaGreat
