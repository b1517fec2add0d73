/-
  The maker's look: what follows of one fact.
-/
import Derived.Test.YtckjgefpelnkoaaDoorSemAll
import Derived.Test.YtckjgefpelnkoaaDoorSetTab
set_option linter.unusedVariables false
set_option linter.unusedSimpArgs false
set_option linter.unnecessarySimpa false
namespace Go.Proofs.YtckjgefpelnkoaaDoor
open Go.ChangeShapes Go.WideShapes Go.ChangeAt Go.RowKit Go.Deep SetPlain
/-- A maker, a fact's box beside it, and the table of trailing zeros. -/
structure LookF (W0 : World) (M : Mk) (vr : Nat → Value) (L : Nat → List Rl) (vq0 : Value) (x0 : Nat) (f : Nat × Nat) (s : St) (vq : Value) (W : World) : Prop where
  at_ : SemAt W M vr L s vq
  step : SemStep M vr vr vq0 vq W0 W
  f0 : W.cell? ⟨x0, 0, none⟩ = some (.int .i64 f.1)
  f1 : W.cell? ⟨x0, 1, none⟩ = some (.int .i64 f.2)
  nx : ¬ semFp M vr vq x0
  tab : TabIn W
  ntab : ¬ semFp M vr vq 0
def RlAt (W : World) (x : Nat) (r : Rl) : Prop :=
  W.cell? ⟨x, 0, none⟩ = some (.int .i64 r.kind) ∧ W.cell? ⟨x, 1, none⟩ = some (.int .i64 r.head) ∧ W.cell? ⟨x, 2, none⟩ = some (.int .i64 r.who) ∧ W.cell? ⟨x, 3, none⟩ = some (.int .i64 r.a) ∧ W.cell? ⟨x, 4, none⟩ = some (.int .i64 r.b) ∧ W.cell? ⟨x, 5, none⟩ = some (.int .i64 r.via)
structure LookAt (W0 : World) (M : Mk) (vr : Nat → Value) (L : Nat → List Rl) (vq0 : Value) (x0 : Nat) (f : Nat × Nat) (x1 : Nat) (r : Rl) (s : St) (vq : Value) (W : World) : Prop where
  fact : LookF W0 M vr L vq0 x0 f s vq W
  rule : RlAt W x1 r
  nx1 : ¬ semFp M vr vq x1
def ruleObj (r : Rl) : Obj := .cells #[.int .i64 r.kind, .int .i64 r.head, .int .i64 r.who, .int .i64 r.a, .int .i64 r.b, .int .i64 r.via] 25 (0, 0)
section
variable {W0 W : World} {M : Mk} {vr : Nat → Value} {L : Nat → List Rl} {s : St} {vq0 vq : Value} {x0 x1 : Nat} {f : Nat × Nat} {r : Rl}
theorem LookF.move (h : LookF W0 M vr L vq0 x0 f s vq W) {s' : St} {vq' : Value} {W' : World} (ha : SemAt W' M vr L s' vq') (hs : SemStep M vr vr vq vq' W W') : LookF W0 M vr L vq0 x0 f s' vq' W' := by
  obtain ⟨h1, h2, h3⟩ := hs.foreign h.nx (lt_of_cell h.f0)
  obtain ⟨g1, g2, g3⟩ := hs.foreign h.ntab h.tab.lt
  exact ⟨ha, h.step.trans hs, (World.cell?_of_block h1).trans h.f0, (World.cell?_of_block h1).trans h.f1, h2, fun j hj => (World.cell?_of_block g1).trans (h.tab j hj), g2⟩
theorem LookAt.move (h : LookAt W0 M vr L vq0 x0 f x1 r s vq W) {s' : St} {vq' : Value} {W' : World} (ha : SemAt W' M vr L s' vq') (hs : SemStep M vr vr vq vq' W W') : LookAt W0 M vr L vq0 x0 f x1 r s' vq' W' := by
  obtain ⟨r0, r1, r2, r3, r4, r5⟩ := h.rule
  obtain ⟨h1, h2, h3⟩ := hs.foreign h.nx1 (lt_of_cell r0)
  have hc : ∀ i, W'.cell? ⟨x1, i, none⟩ = W.cell? ⟨x1, i, none⟩ := fun i => World.cell?_of_block h1
  exact ⟨h.fact.move ha hs, ⟨(hc 0).trans r0, (hc 1).trans r1, (hc 2).trans r2, (hc 3).trans r3, (hc 4).trans r4, (hc 5).trans r5⟩, h2⟩
theorem LookF.box (h : LookF W0 M vr L vq0 x0 f s vq W) (r : Rl) : LookAt W0 M vr L vq0 x0 f W.heap.size r s vq (W.alloc (ruleObj r)) := by
  have hk : Keeps (fun _ => False) W (W.alloc (ruleObj r)) := (Keeps.refl _ _).alloc _
  refine ⟨h.move (h.at_.keeps hk) (SemStep.quiet hk), ?_, fun hx => ?_⟩
  · unfold ruleObj RlAt; refine ⟨?_, ?_, ?_, ?_, ?_, ?_⟩ <;> simp
  · have := SemMem.lt h.at_ _ hx
    omega
theorem LookAt.tick (h : LookAt W0 M vr L vq0 x0 f x1 r s vq W) : LookAt W0 M vr L vq0 x0 f x1 r s.tick vq (W.setCell ⟨M.mo, 3, none⟩ (.int .i64 (s.steps + 1 : Nat))) := h.move h.fact.at_.tick.1 h.fact.at_.tick.2
theorem LookAt.quiet (h : LookAt W0 M vr L vq0 x0 f x1 r s vq W) {W' : World} (hk : Keeps (fun _ => False) W W') : LookAt W0 M vr L vq0 x0 f x1 r s vq W' := h.move (h.fact.at_.keeps hk) (SemStep.quiet hk)
theorem LookF.quiet (h : LookF W0 M vr L vq0 x0 f s vq W) {W' : World} (hk : Keeps (fun _ => False) W W') : LookF W0 M vr L vq0 x0 f s vq W' := h.move (h.at_.keeps hk) (SemStep.quiet hk)
/-- What the regions read. -/
def LookS (M : Mk) (x0 : Nat) (f : Nat × Nat) (x1 : Nat) (r : Rl) (W : World) : Prop :=
  (W.cell? ⟨M.mb, 0, none⟩ = some (.pointer (some ⟨M.mo, 0, none⟩)) ∧ W.cell? ⟨M.mo, 0, none⟩ = some (.pointer (some ⟨M.fb, 0, none⟩)) ∧ W.cell? ⟨M.mo, 2, none⟩ = some (.int .i64 M.K)) ∧ (W.cell? ⟨x0, 0, none⟩ = some (.int .i64 f.1) ∧ W.cell? ⟨x0, 1, none⟩ = some (.int .i64 f.2)) ∧ RlAt W x1 r
theorem LookAt.rd (h : Hid (LookAt W0 M vr L vq0 x0 f x1 r s vq W)) : LookS M x0 f x1 r W := ⟨⟨h.out.fact.at_.mcells.1, h.out.fact.at_.ocells.1, h.out.fact.at_.ocells.2.2.1⟩, ⟨h.out.fact.f0, h.out.fact.f1⟩, h.out.rule⟩
theorem LookAt.add (h : Hid (LookAt W0 M vr L vq0 x0 f x1 r s vq W)) (role who : Nat) (hr : role ≤ 1000000000) (hw : who ≤ 1000000000) (hf : Few (s.add M.N M.P role who)) :
    Calls Tryd.prog 30 #[.pointer (some ⟨M.mb, 0, none⟩), .int .i64 role, .int .i64 who] W fun e W' => e = .returned (.tuple #[]) ∧ ∃ vq', Hid (LookAt W0 M vr L vq0 x0 f x1 r (s.add M.N M.P role who) vq' W') :=
  (sadd_spec h.out.fact.at_ role who hr hw hf).mono fun e W' ⟨he, vq', ha, hs⟩ => ⟨he, vq', h.out.move ha hs⟩
theorem LookAt.all (h : Hid (LookAt W0 M vr L vq0 x0 f x1 r s vq W)) (src dst : Nat) (hs : src < M.N) (hd : dst ≤ 1000000000) (hf : Few (s.all M.N M.P src dst)) :
    Calls Tryd.prog 31 #[.pointer (some ⟨M.mb, 0, none⟩), .int .i64 src, .int .i64 dst] W fun e W' => e = .returned (.tuple #[]) ∧ ∃ vq', Hid (LookAt W0 M vr L vq0 x0 f x1 r (s.all M.N M.P src dst) vq' W') :=
  (sall_spec h.out.fact.at_ h.out.fact.tab src dst hs hd hf).mono fun e W' ⟨he, vq', ha, hs⟩ => ⟨he, vq', h.out.move ha hs⟩
theorem LookAt.has (h : Hid (LookAt W0 M vr L vq0 x0 f x1 r s vq W)) (i : Int) (c : Nat) (hi0 : 0 ≤ i) (hi : i < M.N) (hc : c < M.P) :
    Calls Tryd.prog 25 #[.pointer (some ⟨M.fb, 0, none⟩), .int .i64 i, .int .i64 c] W fun e W' => e = .returned (.bool (s.In i.toNat c)) ∧ Hid (LookAt W0 M vr L vq0 x0 f x1 r s vq W') := by
  have hP := h.out.fact.at_.hP
  refine (fhas_spec h.out.fact.at_.fam i c (by omega) (by omega)).mono ?_
  rintro e W' ⟨rfl, rfl⟩
  refine ⟨?_, h⟩
  have : hasB M.N M.P s.In i c = s.In i.toNat c := by
    unfold hasB rowP
    rw [if_pos ⟨hi0, hi⟩]
    have : (0 : Int) ≤ c ∧ (c : Int) < M.P := by omega
    simp [this]
  rw [this]
/-- A rule in a row. -/
theorem SemAt.rule (h : SemAt W M vr L s vq) {i : Nat} (hi : i < M.N + M.K) {ao : Option Addr} {n cap : Nat} (hv : vr i = .slice ao n cap) {j : Nat} {r : Rl} (hr : (L i)[j]? = some r) :
    ∃ g k, ao = some ⟨g, k, none⟩ ∧ W.cell? ⟨g, k + j * 6, none⟩ = some (.int .i64 r.kind) ∧ W.cell? ⟨g, k + j * 6 + 1, none⟩ = some (.int .i64 r.head) ∧ W.cell? ⟨g, k + j * 6 + 2, none⟩ = some (.int .i64 r.who) ∧ W.cell? ⟨g, k + j * 6 + 3, none⟩ = some (.int .i64 r.a) ∧ W.cell? ⟨g, k + j * 6 + 4, none⟩ = some (.int .i64 r.b) ∧ W.cell? ⟨g, k + j * 6 + 5, none⟩ = some (.int .i64 r.via) := by
  obtain ⟨ao', cap', hv', _, _, _, hc⟩ := (h.rows i hi).form
  rw [hv] at hv'
  cases hv'
  have hl : 0 < (L i).length := by
    rcases Nat.eq_zero_or_pos (L i).length with h0 | h0
    · rw [List.getElem?_eq_none (by omega)] at hr; cases hr
    · exact h0
  obtain ⟨g, k, rfl, _, hcc⟩ := hc hl
  have hg : ∀ (t : Nat) (u : Value), r.cells[t]? = some u → W.cell? ⟨g, k + j * 6 + t, none⟩ = some u := fun t u hu => by
    have := hcc _ u (rlCells_get (L i) j r hr t u hu)
    rw [show k + (j * 6 + t) = k + j * 6 + t from by omega] at this
    exact this
  exact ⟨g, k, rfl, hg 0 _ rfl, hg 1 _ rfl, hg 2 _ rfl, hg 3 _ rfl, hg 4 _ rfl, hg 5 _ rfl⟩
theorem SemAt.rowV (h : SemAt W M vr L s vq) {i : Nat} (hi : i < M.N + M.K) : ∃ ao cap, vr i = .slice ao (L i).length cap ∧ (L i).length ≤ cap ∧ cap ≤ maxLen := by
  obtain ⟨ao, cap, hv, h1, h2, _⟩ := (h.rows i hi).form
  exact ⟨ao, cap, hv, h1, h2⟩
theorem SemAt.byCell (h : SemAt W M vr L s vq) {i : Nat} (hi : i < M.N) : W.cell? ⟨M.bb, i, none⟩ = some (vr i) := by rw [cell_of_heap h.byo]; exact fnRow_get _ _ _ hi
theorem SemAt.viaCell (h : SemAt W M vr L s vq) {v : Nat} (hv : v < M.K) : W.cell? ⟨M.vb, v, none⟩ = some (vr (M.N + v)) := by rw [cell_of_heap h.vio]; exact fnRow_get _ _ _ hv
end
end Go.Proofs.YtckjgefpelnkoaaDoor
