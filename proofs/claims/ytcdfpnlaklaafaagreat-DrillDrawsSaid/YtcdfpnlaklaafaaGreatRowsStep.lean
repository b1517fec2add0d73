/-
  Appends of rows of elements of several cells, as steps of a region that draws its order.
-/
import Derived.Test.YtcdfpnlaklaafaaGreatRowsK
import Derived.Test.YtcdfpnlaklaafaaGreatKit3
import Derived.Deep.RegionLawGrows
set_option linter.unusedVariables false
set_option linter.unusedSimpArgs false
set_option linter.unnecessarySimpa false
namespace Go.Proofs.YtcdfpnlaklaafaaGreat
open Go.ChangeShapes Go.WideShapes Go.ChangeAt Go.RowKit Go.Deep
section
variable {α : Type} {E : Elt α}
theorem flat_news {w : World} {v : Value} {m : List α} (h : RdK E w v m) (hm : 0 < m.length) : ∃ g off cap, v = .slice (some ⟨g, off, none⟩) m.length cap ∧ ∀ (j : Nat) (u : Value), (flat E m)[j]? = some u → w.cell? ((⟨g, off, none⟩ : Addr).add j) = some u := by
  obtain ⟨ao, cap, rfl, hle, hc⟩ := h
  obtain ⟨g, off, rfl, _, hcc⟩ := hc hm
  refine ⟨g, off, cap, rfl, fun j u hj => ?_⟩
  obtain ⟨j1, i1, y, hy, hu, rfl⟩ := flat_at E m j u hj
  rw [add_plain, ← Nat.add_assoc]
  exact hcc j1 y hy i1 u hu
/-- An append to a slice that has no room: a new row. -/
theorem step_full_k {ops : Array Oper} {o : Oper} {a : Act} {w : World} {K : Act → World → Prop} {Q : Exit → Act → World → Prop} {EE : Prop} (hgd : o.guard = none) (s x : Operand)
    (ho : o.op = .call { callee := .builtin .append, args := #[s, x], argTypes := #[E.S, E.S] })
    (l : List α) (n : Nat) (hn : l.length = n) (ao : Option Addr) (hs : a.eval s = .slice ao n n) (hrd : RdK E w (.slice ao n n) l) (xv : Value) (m : List α) (hx : a.eval x = xv) (hr : RdK E w xv m) (hm : 0 < m.length) (hlen : l.length + m.length ≤ 100000)
    (hK : ∀ v' w', OwnK E w.heap.size w' v' (l ++ m) → Keeps (fun _ => False) w w' → K (a.put o.dst v') w') :
    if Region.wanted o (yielded ops a.tmps) = true then Oper.wp Tryz.prog o a w K Q else EE := by
  subst hn
  obtain ⟨i0, hi0, hz0, hz1, hz2⟩ := info_parts E.hT
  have hbb := Nat.mul_le_mul hlen E.hb
  obtain ⟨g, off, cap, rfl, hnews⟩ := flat_news hr hm
  have holds : ∀ b, ao = some b → ∀ j u, (flat E l)[j]? = some u → w.cell? (b.add j) = some u := fun b hb j u hu => by
    subst hb
    have h0 : 0 < l.length := by
      rcases Nat.eq_zero_or_pos l.length with h0 | h0
      · rw [List.eq_nil_of_length_eq_zero h0] at hu; simp [flat] at hu
      · exact h0
    obtain ⟨g2, off2, cap2, e, hn2⟩ := flat_news hrd h0
    simp only [Value.slice.injEq, Option.some.injEq] at e
    obtain ⟨rfl, _, _⟩ := e
    exact hn2 j u hu
  have hnone : ao = none → l.length = 0 ∧ l.length = 0 := fun h => by
    subst h
    rcases Nat.eq_zero_or_pos l.length with h0 | h0
    · exact ⟨h0, h0⟩
    · obtain ⟨g2, off2, cap2, e, hn2⟩ := flat_news hrd h0
      simp at e
  refine step_append_grows hgd s x E.S ho E.T i0 E.z E.k E.bytes E.hS hi0 hz0 hz1 hz2 E.hz E.pos ao l.length l.length (flat E l) hs hnone (flat_len E l) holds ⟨g, off, none⟩ m.length cap (flat E m) hx (flat_len E m) hnews (flat_one E m) (by omega) (by unfold maxLen; omega) (by omega) (fun v' w' h1 h2 => hK v' w' ?_ ?_)
  · show w'.ownsRow w.heap.size E.T E.k v' (l ++ m).length (flat E (l ++ m))
    rw [List.length_append, flat_app]
    exact h1
  · exact (keeps_grown h2).mono (fun q _ e => by cases e)
/-- An append to a row of the program's own. -/
theorem step_app_k {ops : Array Oper} {o : Oper} {a : Act} {w : World} {K : Act → World → Prop} {Q : Exit → Act → World → Prop} {EE : Prop} (hgd : o.guard = none) (s x : Operand)
    (ho : o.op = .call { callee := .builtin .append, args := #[s, x], argTypes := #[E.S, E.S] })
    (base : Nat) (v : Value) (l : List α) (hs : a.eval s = v) (hown : OwnK E base w v l) (xv : Value) (m : List α) (hx : a.eval x = xv) (hr : SrcK E w xv m) (hlen : l.length + m.length ≤ 100000) (hbase : base ≤ w.heap.size)
    (hK : ∀ v' w', OwnK E base w' v' (l ++ m) → Keeps (fun q => v.ownBlock = some q) w w' → K (a.put o.dst v') w') :
    if Region.wanted o (yielded ops a.tmps) = true then Oper.wp Tryz.prog o a w K Q else EE := by
  have hw : Region.wanted o (yielded ops a.tmps) = true := by simp [Region.wanted, hgd]
  rw [if_pos hw]
  obtain ⟨i0, hi0, hz0, hz1, hz2⟩ := info_parts E.hT
  obtain ⟨⟨ao, cap, rfl, hle, hc⟩, hnil⟩ := hr
  have hown' : w.ownsRow base E.T E.k v l.length (flat E l) := hown
  have hbb := Nat.mul_le_mul hlen E.hb
  have key : ∀ ad, ao = some ad → Oper.wp Tryz.prog o a w K Q := fun ad had => by
    subst had
    have hcell : ∀ (j : Nat) (u : Value), (flat E m)[j]? = some u → w.cell? (ad.add j) = some u := fun j u hj => by
      obtain ⟨j1, i1, y, hy, hu, rfl⟩ := flat_at E m j u hj
      have hm0 : 0 < m.length := by
        rcases Nat.eq_zero_or_pos m.length with h0 | h0
        · rw [List.eq_nil_of_length_eq_zero h0] at hy; cases hy
        · exact h0
      obtain ⟨g, off, e, _, hcc⟩ := hc hm0
      simp only [Option.some.injEq] at e
      subst e
      rw [add_plain, ← Nat.add_assoc]
      exact hcc j1 y hy i1 u hu
    refine wp_append_own w s x E.S ho base E.T i0 E.z E.k E.bytes E.hS hi0 hz0 hz1 hz2 E.hz E.pos v l.length (flat E l) hs hown' ad m.length cap (flat E m) hx (flat_len E m) hcell (flat_one E m) (by unfold maxLen; omega) (by omega) hbase (fun v' w' h1 h2 _ => hK v' w' ?_ (keeps_grown h2))
    show w'.ownsRow base E.T E.k v' (l ++ m).length (flat E (l ++ m))
    rw [List.length_append, flat_app]
    exact h1
  cases hao : ao with
  | some ad => exact key ad hao
  | none =>
    subst hao
    have hcap := hnil _ _ rfl
    subst hcap
    have hm0 : m = [] := List.eq_nil_of_length_eq_zero (by omega)
    subst hm0
    have hrun := run_append_owned_none (P := Tryz.prog) (w := w) base E.S o.type E.T i0 E.k E.hS hi0 v l.length (flat E l) hown'
    have hx' : a.eval x = .slice none 0 0 := hx
    unfold Oper.wp
    simp [execOp, ho, resolve, invoke, builtin, hs, hx', hrun, Result.andThen]
    refine hK v w ?_ (Keeps.refl _ _)
    rw [List.append_nil]
    exact hown
end
end Go.Proofs.YtcdfpnlaklaafaaGreat
