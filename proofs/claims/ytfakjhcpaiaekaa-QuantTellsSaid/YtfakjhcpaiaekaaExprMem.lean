/-
  Formulas in memory; the steps that a step stands on.
-/
import Derived.Test.YtfakjhcpaiaekaaExprPlain
import Derived.Deep.LoopGhost
import Derived.BigQuiet
set_option linter.unusedVariables false
set_option linter.unusedSimpArgs false
set_option linter.unnecessarySimpa false
namespace Go.Proofs.Ytfakjhcpaiaekaa
open Go.ChangeShapes Go.WideShapes Go.ChangeAt Go.RowKit Go.Deep NodePlain
def SpIn (s : Sp) : Prop := (-9223372036854775808 ≤ s.op ∧ s.op ≤ 9223372036854775807) ∧ (-9223372036854775808 ≤ s.a ∧ s.a ≤ 9223372036854775807) ∧ (-9223372036854775808 ≤ s.b ∧ s.b ≤ 9223372036854775807)
def SpRow (w : World) (ao : Option Addr) (l : List Sp) : Prop :=
  0 < l.length → ∃ b off, ao = some ⟨b, off, none⟩ ∧ b < w.heap.size ∧ ∀ (i : Nat) (s : Sp), l[i]? = some s →
    w.cell? ⟨b, off + i * 3, none⟩ = some (.int .i64 s.op) ∧ w.cell? ⟨b, off + i * 3 + 1, none⟩ = some (.int .i64 s.a) ∧ w.cell? ⟨b, off + i * 3 + 2, none⟩ = some (.int .i64 s.b)
theorem SpRow.keeps {w w' : World} {ao : Option Addr} {l : List Sp} (h : SpRow w ao l) {S : Nat → Prop} (hk : Keeps S w w') (hs : ∀ b off, ao = some ⟨b, off, none⟩ → 0 < l.length → ¬ S b) : SpRow w' ao l := fun h0 => by
  obtain ⟨b, off, rfl, hlt, hc⟩ := h h0
  have e : ∀ j, w'.cell? ⟨b, j, none⟩ = w.cell? ⟨b, j, none⟩ := fun j => hk.cell (p := ⟨b, j, none⟩) hlt (hs b off rfl h0)
  refine ⟨b, off, rfl, Nat.lt_of_lt_of_le hlt hk.size, fun i r hr => ?_⟩
  obtain ⟨c0, c1, c2⟩ := hc i r hr
  exact ⟨(e _).trans c0, (e _).trans c1, (e _).trans c2⟩
theorem SpRow.quiet {w w' : World} {ao : Option Addr} {l : List Sp} (h : SpRow w ao l) (hk : Keeps (fun _ => False) w w') : SpRow w' ao l := h.keeps hk (fun _ _ _ _ x => x)
/-- What was there at the start still reads so. -/
theorem SpRow.old {w w' : World} {ao : Option Addr} {l : List Sp} (h : SpRow w ao l) (hk : Keeps (fun x => w.heap.size ≤ x) w w') : SpRow w' ao l := fun h0 => by
  obtain ⟨b, off, rfl, hlt, hc⟩ := h h0
  exact (h.keeps hk (fun b' off' e _ => by
    simp only [Option.some.injEq, Addr.mk.injEq, and_true] at e
    have : b' < w.heap.size := by omega
    intro hx
    have hx2 : w.heap.size ≤ b' := hx
    omega)) h0
theorem IsRow.sps {w : World} {ao : Option Addr} {n cap : Nat} {G : Nat → Nat → Value} (R : IsRow w [.int .i64, .int .i64, .int .i64] ao n cap G) {m : Nat} (hm : m ≤ n) : ∃ l : List Sp, l.length = m ∧ SpRow w ao l ∧ ∀ s, s ∈ l → SpIn s := by
  have key : ∀ i, i < n → ∃ p : Sp, (G i 0 = .int .i64 p.op ∧ G i 1 = .int .i64 p.a ∧ G i 2 = .int .i64 p.b) ∧ SpIn p := fun i hi => by
    obtain ⟨z0, h0, w0⟩ := R.ok i 0 _ hi rfl
    obtain ⟨z1, h1, w1⟩ := R.ok i 1 _ hi rfl
    obtain ⟨z2, h2, w2⟩ := R.ok i 2 _ hi rfl
    exact ⟨⟨z0, z1, z2⟩, ⟨h0, h1, h2⟩, bounds_i64 w0, bounds_i64 w1, bounds_i64 w2⟩
  haveI : Inhabited Sp := ⟨sp0⟩
  obtain ⟨f, hf⟩ := choose_lt key
  refine ⟨(List.range m).map f, by simp, fun h0 => ?_, fun s hs => ?_⟩
  · have hn : 0 < m := by simpa using h0
    obtain ⟨b, off, h1, h2, h3⟩ := R.at_ (by omega)
    refine ⟨b, off, h1, h2, fun i r hr => ?_⟩
    rw [List.getElem?_map] at hr
    have hi : i < m := by
      rcases Nat.lt_or_ge i m with h | h
      · exact h
      · rw [List.getElem?_eq_none (by simpa using h)] at hr; cases hr
    rw [List.getElem?_range hi] at hr
    simp only [Option.map_some, Option.some.injEq] at hr
    subst hr
    obtain ⟨⟨g0, g1, g2⟩, _⟩ := hf i (by omega)
    rw [← g0, ← g1, ← g2]
    exact ⟨h3 i 0 (by omega) (by decide), h3 i 1 (by omega) (by decide), h3 i 2 (by omega) (by decide)⟩
  · obtain ⟨i, hi, rfl⟩ := List.mem_map.1 hs
    exact (hf i (by have := List.mem_range.1 hi; omega)).2
def spV (s : Sp) : Value := .agg #[.int .i64 s.op, .int .i64 s.a, .int .i64 s.b]
def standsL (s : Sp) : List Int := if s.op = 2 then [s.a] else if s.op = 3 ∨ s.op = 4 ∨ s.op = 5 then [s.a, s.b] else []
theorem numRow1 {W : World} {x : Int} {b : Nat} (h : W.heap[b]? = some (.cells #[.int .i64 x] 3 (0, 0))) : NumRow W (some ⟨b, 0, none⟩) [x] := fun _ => by
  refine ⟨b, rfl, lt_of_heap h, fun i y hy => ?_⟩
  rw [cell_of_heap h]
  match i, hy with
  | 0, hy => simp at hy; subst hy; rfl
  | i + 1, hy => simp at hy
theorem numRow2 {W : World} {x z : Int} {b : Nat} (h : W.heap[b]? = some (.cells #[.int .i64 x, .int .i64 z] 3 (0, 0))) : NumRow W (some ⟨b, 0, none⟩) [x, z] := fun _ => by
  refine ⟨b, rfl, lt_of_heap h, fun i y hy => ?_⟩
  rw [cell_of_heap h]
  match i, hy with
  | 0, hy => simp at hy; subst hy; rfl
  | 1, hy => simp at hy; subst hy; rfl
  | i + 2, hy => simp at hy
set_option maxRecDepth 100000
set_option maxHeartbeats 800000
end Go.Proofs.Ytfakjhcpaiaekaa
