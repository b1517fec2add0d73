/-
  The document's model in memory: rows of Booleans; one look at a rule, in plain steps.
-/
import Derived.Test.YtaabmkebbnkonaaDoorMD
import Derived.Test.YtaabmkebbnkonaaDoorRefRight
set_option linter.unusedVariables false
set_option linter.unusedSimpArgs false
set_option linter.unnecessarySimpa false
namespace Go.Proofs.YtaabmkebbnkonaaDoor
open Go.ChangeShapes Go.WideShapes Go.ChangeAt Go.RowKit Go.Deep SetPlain
def boolRow (p : Nat → Bool) (P : Nat) : Array Value := fnRow (fun c => .bool (p c)) P
def setIn (In : Nat → Nat → Bool) (i c : Nat) : Nat → Nat → Bool := fun i' c' => (decide (i' = i) && decide (c' = c)) || In i' c'
/-- Where rows lie: block, offset, capacity. -/
structure Rows where
  blk : Nat → Nat
  off : Nat → Nat
  cp : Nat → Nat
def refRows (rb : Rows) (N : Nat) : Nat → Prop := fun k => ∃ i, i < N ∧ k = rb.blk i
/-- The document's model. -/
structure RefM (W : World) (b : Nat) (ao : Option Addr) (cap : Nat) (rb : Rows) (P K N : Nat) (In : Nat → Nat → Bool) : Prop where
  obj : W.heap[b]? = some (.cells #[.int .i64 P, .int .i64 K, .slice ao N cap] 42 (0, 0))
  ptr : 0 < N → ∃ g k cur, ao = some ⟨g, k, none⟩ ∧ W.heap[g]? = some (.cells cur 67 (0, 0)) ∧ ∀ i, i < N → cur[k + i]? = some (.slice (some ⟨rb.blk i, rb.off i, none⟩) P (rb.cp i))
  row : ∀ i, i < N → ∃ cur, W.heap[rb.blk i]? = some (.cells cur 4 (0, 0)) ∧ ∀ c, c < P → cur[rb.off i + c]? = some (.bool (In i c))
  inj : ∀ i j, i < N → j < N → rb.blk i = rb.blk j → i = j
  le : N ≤ cap
  max : cap ≤ maxLen
section
variable {W W' : World} {b : Nat} {ao : Option Addr} {cap : Nat} {rb : Rows} {P K N : Nat} {In : Nat → Nat → Bool}
theorem RefM.keeps (h : RefM W b ao cap rb P K N In) (hk : Keeps (fun _ => False) W W') : RefM W' b ao cap rb P K N In :=
  ⟨(hk.block _ (lt_of_heap h.obj) (fun x => x)).trans h.obj, fun h0 => by
    obtain ⟨g, k, cur, e, hg, hc⟩ := h.ptr h0
    exact ⟨g, k, cur, e, (hk.block _ (lt_of_heap hg) (fun x => x)).trans hg, hc⟩, fun i hi => by
    obtain ⟨cur, hg, hc⟩ := h.row i hi
    exact ⟨cur, (hk.block _ (lt_of_heap hg) (fun x => x)).trans hg, hc⟩, h.inj, h.le, h.max⟩
theorem RefM.cells (h : RefM W b ao cap rb P K N In) : W.cell? ⟨b, 0, none⟩ = some (.int .i64 P) ∧ W.cell? ⟨b, 1, none⟩ = some (.int .i64 K) ∧ W.cell? ⟨b, 2, none⟩ = some (.slice ao N cap) :=
  ⟨by rw [cell_of_heap h.obj]; rfl, by rw [cell_of_heap h.obj]; rfl, by rw [cell_of_heap h.obj]; rfl⟩
theorem RefM.bit (h : RefM W b ao cap rb P K N In) {i c : Nat} (hi : i < N) (hc : c < P) : W.cell? ⟨rb.blk i, rb.off i + c, none⟩ = some (.bool (In i c)) := by
  obtain ⟨cur, hg, hcu⟩ := h.row i hi
  rw [cell_of_heap hg]; exact hcu c hc
theorem RefM.lt (h : RefM W b ao cap rb P K N In) {i : Nat} (hi : i < N) : rb.blk i < W.heap.size := by
  obtain ⟨cur, hg, hcu⟩ := h.row i hi
  exact lt_of_heap hg
theorem RefM.set (h : RefM W b ao cap rb P K N In) {i c : Nat} (hi : i < N) (hc : c < P) : RefM (W.setCell ⟨rb.blk i, rb.off i + c, none⟩ (.bool true)) b ao cap rb P K N (setIn In i c) := by
  obtain ⟨curi, hri, hci⟩ := h.row i hi
  have hk : Keeps (fun k => k = rb.blk i) W (W.setCell ⟨rb.blk i, rb.off i + c, none⟩ (.bool true)) := Keeps.setCell (S := fun k => k = rb.blk i) (Keeps.refl _ W) (p := ⟨rb.blk i, rb.off i + c, none⟩) (fun _ => rfl) _
  refine ⟨(hk.block _ (lt_of_heap h.obj) (ne_of_type h.obj hri (by decide))).trans h.obj, fun h0 => ?_, fun j hj => ?_, h.inj, h.le, h.max⟩
  · obtain ⟨g, k, cur, e, hg, hcu⟩ := h.ptr h0
    exact ⟨g, k, cur, e, (hk.block _ (lt_of_heap hg) (ne_of_type hg hri (by decide))).trans hg, hcu⟩
  · by_cases e : j = i
    · subst e
      refine ⟨_, heap_set hri (rb.off j + c) (.bool true), fun d hd => ?_⟩
      unfold setIn
      by_cases hdc : d = c
      · subst hdc
        have hsz : rb.off j + d < curi.size := by
          rcases Nat.lt_or_ge (rb.off j + d) curi.size with h | h
          · exact h
          · have := hci d hd
            rw [Array.getElem?_eq_none h] at this; cases this
        rw [Array.getElem?_setIfInBounds_self_of_lt hsz]
        simp
      · rw [Array.getElem?_setIfInBounds_ne (by omega), hci d hd]
        simp [hdc]
    · obtain ⟨curj, hrj, hcj⟩ := h.row j hj
      refine ⟨curj, (hk.block _ (lt_of_heap hrj) (fun x => e (h.inj j i hj hi x))).trans hrj, fun d hd => ?_⟩
      rw [hcj d hd]
      unfold setIn
      simp [e]
end
/-- What one rule tells of one principal. -/
def prem (P K : Nat) (r : Rl) (In : Nat → Nat → Bool) (n : Nat) : Bool :=
  if r.kind = 1 then decide ((n : Int) = r.who) else if r.kind = 2 then In r.a.toNat n
  else if r.kind = 3 then anyIn (fun x => In r.a.toNat x) (fun x => In (x * K + r.via.toNat) n) P else In r.a.toNat n && In r.b.toNat n
/-- One look at a rule: the first n principals. -/
def onceTo (P K : Nat) (r : Rl) (In : Nat → Nat → Bool) : Nat → (Nat → Nat → Bool) × Bool
  | 0 => (In, false)
  | n + 1 => if prem P K r (onceTo P K r In n).1 n && !(onceTo P K r In n).1 r.head.toNat n then (setIn (onceTo P K r In n).1 r.head.toNat n, true) else onceTo P K r In n
theorem onceTo_stay {P K : Nat} {r : Rl} {In : Nat → Nat → Bool} {n : Nat} (h : (prem P K r (onceTo P K r In n).1 n && !(onceTo P K r In n).1 r.head.toNat n) = false) : onceTo P K r In (n + 1) = onceTo P K r In n := by
  rw [onceTo, h]; rfl
theorem onceTo_set {P K : Nat} {r : Rl} {In : Nat → Nat → Bool} {n : Nat} (h : (prem P K r (onceTo P K r In n).1 n && !(onceTo P K r In n).1 r.head.toNat n) = true) : onceTo P K r In (n + 1) = (setIn (onceTo P K r In n).1 r.head.toNat n, true) := by
  rw [onceTo, h]; rfl
def OnceC (b : Nat) (ao : Option Addr) (cap P K N x : Nat) (r : Rl) (W : World) : Prop :=
  W.cell? ⟨b, 0, none⟩ = some (.int .i64 P) ∧ W.cell? ⟨b, 1, none⟩ = some (.int .i64 K) ∧ W.cell? ⟨b, 2, none⟩ = some (.slice ao N cap) ∧ RlAt W x r
/-- A model and a rule's box, on the way. -/
structure OnceM (b : Nat) (ao : Option Addr) (cap : Nat) (rb : Rows) (P K N x : Nat) (r : Rl) (W0 : World) (In : Nat → Nat → Bool) (W : World) : Prop where
  mem : RefM W b ao cap rb P K N In
  rule : RlAt W x r
  keep : Keeps (refRows rb N) W0 W
  nx : ∀ i, i < N → x ≠ rb.blk i
section
variable {W W0 : World} {b : Nat} {ao : Option Addr} {cap : Nat} {rb : Rows} {P K N x : Nat} {r : Rl} {In : Nat → Nat → Bool}
theorem OnceM.quiet (h : OnceM b ao cap rb P K N x r W0 In W) {W' : World} (hk : Keeps (fun _ => False) W W') : OnceM b ao cap rb P K N x r W0 In W' := by
  obtain ⟨r0, r1, r2, r3, r4, r5⟩ := h.rule
  have hx := lt_of_cell r0
  have hc : ∀ i, W'.cell? ⟨x, i, none⟩ = W.cell? ⟨x, i, none⟩ := fun i => hk.cell (p := ⟨x, i, none⟩) hx (fun x => x)
  exact ⟨h.mem.keeps hk, ⟨(hc 0).trans r0, (hc 1).trans r1, (hc 2).trans r2, (hc 3).trans r3, (hc 4).trans r4, (hc 5).trans r5⟩, h.keep.trans (hk.mono (fun _ _ x => x.elim)), h.nx⟩
theorem OnceM.set (h : OnceM b ao cap rb P K N x r W0 In W) {i c : Nat} (hi : i < N) (hc : c < P) : OnceM b ao cap rb P K N x r W0 (setIn In i c) (W.setCell ⟨rb.blk i, rb.off i + c, none⟩ (.bool true)) := by
  obtain ⟨r0, r1, r2, r3, r4, r5⟩ := h.rule
  have hx := lt_of_cell r0
  have hk : Keeps (fun k => k = rb.blk i) W (W.setCell ⟨rb.blk i, rb.off i + c, none⟩ (.bool true)) := Keeps.setCell (S := fun k => k = rb.blk i) (Keeps.refl _ W) (p := ⟨rb.blk i, rb.off i + c, none⟩) (fun _ => rfl) _
  have hcc : ∀ j, (W.setCell ⟨rb.blk i, rb.off i + c, none⟩ (.bool true)).cell? ⟨x, j, none⟩ = W.cell? ⟨x, j, none⟩ := fun j => hk.cell (p := ⟨x, j, none⟩) hx (h.nx i hi)
  exact ⟨h.mem.set hi hc, ⟨(hcc 0).trans r0, (hcc 1).trans r1, (hcc 2).trans r2, (hcc 3).trans r3, (hcc 4).trans r4, (hcc 5).trans r5⟩, h.keep.trans (hk.mono (fun k _ hk => ⟨i, hi, hk⟩)), h.nx⟩
theorem OnceM.start (h : RefM W b ao cap rb P K N In) (r : Rl) : OnceM b ao cap rb P K N W.heap.size r W In (W.alloc (ruleObj r)) := by
  have hk : Keeps (fun _ => False) W (W.alloc (ruleObj r)) := (Keeps.refl _ _).alloc _
  refine ⟨h.keeps hk, ?_, hk.mono (fun _ _ x => x.elim), fun i hi e => ?_⟩
  · unfold ruleObj RlAt; refine ⟨?_, ?_, ?_, ?_, ?_, ?_⟩ <;> simp
  · have := h.lt hi
    omega
theorem OnceM.rd (h : OnceM b ao cap rb P K N x r W0 In W) : OnceC b ao cap P K N x r W := ⟨h.mem.cells.1, h.mem.cells.2.1, h.mem.cells.2.2, h.rule⟩
theorem OnceM.ptr (h : OnceM b ao cap rb P K N x r W0 In W) {g k : Nat} (hao : ao = some ⟨g, k, none⟩) {i : Nat} (hi : i < N) : W.cell? ⟨g, k + i, none⟩ = some (.slice (some ⟨rb.blk i, rb.off i, none⟩) P (rb.cp i)) := by
  obtain ⟨g', k', cur, e, hg, hc⟩ := h.mem.ptr (by omega)
  rw [hao] at e
  cases e
  rw [cell_of_heap hg]
  exact hc i hi
theorem OnceM.free (h : OnceM b ao cap rb P K N x r W0 In W) {i : Nat} (hi : i < N) (c : Nat) : W.frozen? ⟨rb.blk i, rb.off i + c, none⟩ = false := by
  obtain ⟨cur, hg, _⟩ := h.mem.row i hi
  exact free_of_heap hg _
end
end Go.Proofs.YtaabmkebbnkonaaDoor
