/-
  append of a slice of rules, as one step; a row of rules of the program's own is a slice of rules.
-/
import Derived.Test.YtckjgefpelnkoaaDoorSemRules
import Derived.Test.YtckjgefpelnkoaaDoorSemPutMem
import Derived.Deep.Upon
set_option linter.unusedVariables false
set_option linter.unusedSimpArgs false
namespace Go.Proofs.YtckjgefpelnkoaaDoor
open Go.ChangeShapes Go.WideShapes Go.ChangeAt Go.RowKit Go.Deep SetPlain
theorem rlCells_at : ∀ (l : List Rl) (j : Nat) (u : Value), (rlCells l)[j]? = some u → ∃ i t r, l[i]? = some r ∧ r.cells[t]? = some u ∧ j = i * 6 + t
  | [], j, u, h => by cases h
  | x :: l, j, u, h => by
    rw [rlCells] at h
    rcases Nat.lt_or_ge j 6 with hj | hj
    · rw [List.getElem?_append_left (by exact hj)] at h
      exact ⟨0, j, x, rfl, h, by omega⟩
    · rw [List.getElem?_append_right (by exact hj)] at h
      obtain ⟨i, t, r, h1, h2, h3⟩ := rlCells_at l _ u h
      refine ⟨i + 1, t, r, h1, h2, ?_⟩
      have : x.cells.length = 6 := rfl
      omega
theorem rl_cell (r : Rl) : ∀ (t : Nat) (u : Value), r.cells[t]? = some u → (t = 0 ∧ u = .int .i64 r.kind) ∨ (t = 1 ∧ u = .int .i64 r.head) ∨ (t = 2 ∧ u = .int .i64 r.who) ∨ (t = 3 ∧ u = .int .i64 r.a) ∨ (t = 4 ∧ u = .int .i64 r.b) ∨ (t = 5 ∧ u = .int .i64 r.via) := fun t u h => by
  match t, h with
  | 0, h => exact .inl ⟨rfl, (Option.some.inj h).symm⟩
  | 1, h => exact .inr (.inl ⟨rfl, (Option.some.inj h).symm⟩)
  | 2, h => exact .inr (.inr (.inl ⟨rfl, (Option.some.inj h).symm⟩))
  | 3, h => exact .inr (.inr (.inr (.inl ⟨rfl, (Option.some.inj h).symm⟩)))
  | 4, h => exact .inr (.inr (.inr (.inr (.inl ⟨rfl, (Option.some.inj h).symm⟩))))
  | 5, h => exact .inr (.inr (.inr (.inr (.inr ⟨rfl, (Option.some.inj h).symm⟩))))
  | n + 6, h => cases h
theorem rl_one (l : List Rl) : ∀ u ∈ rlCells l, u.oneCell' = true := fun u hu => by
  obtain ⟨j, hj⟩ := List.getElem?_of_mem hu
  obtain ⟨i, t, r, _, h2, _⟩ := rlCells_at l j u hj
  rcases rl_cell r t u h2 with ⟨_, rfl⟩ | ⟨_, rfl⟩ | ⟨_, rfl⟩ | ⟨_, rfl⟩ | ⟨_, rfl⟩ | ⟨_, rfl⟩ <;> rfl
theorem RuleRow.news {w : World} {ms : List Rl} {b off : Nat} (h : ∀ (i : Nat) (r : Rl), ms[i]? = some r →
    w.cell? ⟨b, off + i * 6, none⟩ = some (.int .i64 r.kind) ∧ w.cell? ⟨b, off + i * 6 + 1, none⟩ = some (.int .i64 r.head) ∧ w.cell? ⟨b, off + i * 6 + 2, none⟩ = some (.int .i64 r.who) ∧ w.cell? ⟨b, off + i * 6 + 3, none⟩ = some (.int .i64 r.a) ∧ w.cell? ⟨b, off + i * 6 + 4, none⟩ = some (.int .i64 r.b) ∧ w.cell? ⟨b, off + i * 6 + 5, none⟩ = some (.int .i64 r.via)) :
    ∀ j u, (rlCells ms)[j]? = some u → w.cell? ((⟨b, off, none⟩ : Addr).add j) = some u := fun j u hu => by
  obtain ⟨i, t, r, h1, h2, rfl⟩ := rlCells_at ms j u hu
  rw [add_plain, ← Nat.add_assoc]
  obtain ⟨c0, c1, c2, c3, c4, c5⟩ := h i r h1
  rcases rl_cell r t u h2 with ⟨rfl, rfl⟩ | ⟨rfl, rfl⟩ | ⟨rfl, rfl⟩ | ⟨rfl, rfl⟩ | ⟨rfl, rfl⟩ | ⟨rfl, rfl⟩
  · exact c0
  · exact c1
  · exact c2
  · exact c3
  · exact c4
  · exact c5
/-- A row of the program's own as a slice of rules. -/
theorem TailRow.rules {w : World} {v : Value} {rs : List Rl} (h : TailRow w 25 6 v rs.length (rlCells rs)) : ∃ ao cap, v = .slice ao rs.length cap ∧ rs.length ≤ cap ∧ cap ≤ maxLen ∧ RuleRow w ao rs := by
  obtain ⟨ao, cap, hv, hle, hm, _, hc⟩ := h.form
  refine ⟨ao, cap, hv, hle, hm, fun h0 => ?_⟩
  obtain ⟨g, k, rfl, hg, hcells⟩ := hc h0
  refine ⟨g, k, rfl, hg, fun i r hr => ?_⟩
  have hx : ∀ (t : Nat) (u : Value), r.cells[t]? = some u → w.cell? ⟨g, k + i * 6 + t, none⟩ = some u := fun t u hu => by
    have := hcells _ u (rlCells_get rs i r hr t u hu)
    rw [← Nat.add_assoc] at this
    exact this
  exact ⟨hx 0 _ rfl, hx 1 _ rfl, hx 2 _ rfl, hx 3 _ rfl, hx 4 _ rfl, hx 5 _ rfl⟩
theorem run_append_rules (w : World) (ty : TypeId) (v : Value) (rs : List Rl) (hown : TailRow w 25 6 v rs.length (rlCells rs)) (xo : Option Addr) (c : Nat) (ms : List Rl) (hx : RuleRow w xo ms) (h63 : rs.length + ms.length ≤ 100000) :
    ∃ ao' cap' w', (Builtin.append_ #[23, 23] ty #[v, .slice xo ms.length c]).run Tryd.prog w = .ok (.slice ao' (rs.length + ms.length) cap') w' ∧ TailRow w' 25 6 (.slice ao' (rs.length + ms.length) cap') (rs.length + ms.length) (rlCells rs ++ rlCells ms) ∧ w.grownBy w' v.ownBlock ∧
      (∀ k, (Value.slice ao' (rs.length + ms.length) cap').ownBlock = some k → v.ownBlock = some k ∨ w.heap.size ≤ k) := by
  obtain ⟨i0, hi0, hz0, hz1, hz2⟩ := info_parts rlInfo
  rcases Nat.eq_zero_or_pos ms.length with h0 | h0
  · obtain rfl : ms = [] := List.eq_nil_of_length_eq_zero h0
    obtain ⟨ao, cap, rfl, hle, hm, _, _⟩ := hown.form
    refine ⟨ao, cap, w, ?_, by simpa [rlCells] using hown, ⟨rfl, rfl, rfl, Nat.le_refl _, fun _ _ _ => rfl⟩, fun k hk => .inl (by simpa using hk)⟩
    refine run_append_nothing w _ _ ty 25 i0 Tryd.underlying23 hi0 ao rs.length cap hle _ ?_
    cases xo with
    | none => exact Src.ofNil w Tryd.underlying23 c
    | some a => exact Src.ofSlice w Tryd.underlying23 a 0 c [] (by simp) (fun j u hu => (by cases hu)) (fun u hu => (by cases hu))
  · obtain ⟨b, off, rfl, _, hc⟩ := hx h0
    exact run_append_tail w _ ty 25 i0 _ 6 48 Tryd.underlying23 hi0 hz0 hz1 hz2 rfl (by decide) v rs.length (rlCells rs) hown ⟨b, off, none⟩ ms.length c (rlCells ms) (rlCells_length ms) (RuleRow.news hc) (rl_one ms) h0 (by unfold maxLen; omega) (by omega)
theorem step_append_rules {ops : Array Oper} {o : Oper} {a : Act} {w : World} {K : Act → World → Prop} {Q : Exit → Act → World → Prop} {E : Prop}
    (hg : o.guard = none) (s x : Operand) (hop : o.op = Op.call { callee := Callee.builtin Builtin.append, args := #[s, x], argTypes := #[23, 23] })
    (v : Value) (rs : List Rl) (hs : a.eval s = v) (hown : TailRow w 25 6 v rs.length (rlCells rs)) (xo : Option Addr) (c m : Nat) (ms : List Rl) (hm : ms.length = m) (hx : a.eval x = .slice xo m c) (hr : RuleRow w xo ms) (k : Nat) (hk : (rs ++ ms).length = k) (h63 : k ≤ 100000)
    (hK : ∀ ao' cap' w', TailRow w' 25 6 (.slice ao' k cap') (rs ++ ms).length (rlCells (rs ++ ms)) → w.grownBy w' v.ownBlock → (∀ j, (Value.slice ao' k cap').ownBlock = some j → v.ownBlock = some j ∨ w.heap.size ≤ j) → K (a.put o.dst (.slice ao' k cap')) w') :
    if Region.wanted o (yielded ops a.tmps) = true then Oper.wp Tryd.prog o a w K Q else E := by
  subst hm
  subst hk
  have hw : Region.wanted o (yielded ops a.tmps) = true := by simp [Region.wanted, hg]
  rw [if_pos hw]
  rw [List.length_append] at h63
  obtain ⟨ao', cap', w', hrun, r1, r2, r3⟩ := run_append_rules w o.type v rs hown xo c ms hr h63
  unfold Oper.wp
  simp [execOp, hop, resolve, invoke, builtin, hs, hx, hrun, Result.andThen]
  have := hK ao' cap' w'
  rw [List.length_append, rlCells_append] at this
  exact this r1 r2 r3
end Go.Proofs.YtckjgefpelnkoaaDoor
