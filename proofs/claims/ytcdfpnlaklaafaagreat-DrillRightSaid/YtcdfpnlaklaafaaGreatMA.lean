/-
  More small laws of my own, over any program: an append that tells whether the row stayed or is new.
-/
import Derived.Test.YtcdfpnlaklaafaaGreatKit
import Derived.Sort.Grow
import Derived.Deep.RegionHeld3
set_option linter.unusedVariables false
set_option linter.unusedSimpArgs false
namespace Go.Proofs.YtcdfpnlaklaafaaGreat
open Go.ChangeShapes Go.WideShapes Go.ChangeAt Go.RowKit Go.Deep

theorem ownsRow_base {w : World} {base base' e size : Nat} {v : Value} {n : Nat} {xs : List Value} (h : w.ownsRow base e size v n xs) (hb : base' ≤ base) : w.ownsRow base' e size v n xs := by
  obtain ⟨h1, h2 | ⟨g, cap, cur, hv, hg, r⟩⟩ := h
  · exact ⟨h1, .inl h2⟩
  · exact ⟨h1, .inr ⟨g, cap, cur, hv, by omega, r⟩⟩
theorem ownsRow_keeps' {w w' : World} {base e size : Nat} {v : Value} {n : Nat} {xs : List Value} {S : Nat → Prop} (h : w.ownsRow base e size v n xs) (hk : Keeps S w w') (hs : ∀ k, v.ownBlock = some k → ¬ S k) : w'.ownsRow base e size v n xs := by
  obtain ⟨h1, h2 | ⟨g, cap, cur, hv, hg, hh, r⟩⟩ := h
  · exact ⟨h1, .inl h2⟩
  · exact ⟨h1, .inr ⟨g, cap, cur, hv, hg, (hk.block g (lt_of_heap hh) (hs g (by rw [hv]; rfl))).trans hh, r⟩⟩
theorem own_lt {w : World} {base e size : Nat} {v : Value} {n : Nat} {xs : List Value} (h : w.ownsRow base e size v n xs) : ∀ k, v.ownBlock = some k → k < w.heap.size := by
  intro k hk
  obtain ⟨_, ⟨rfl, _⟩ | ⟨g, cap, cur, rfl, _, hh, _⟩⟩ := h
  · cases hk
  · simp only [Value.ownBlock, Option.some.injEq] at hk; subst hk; exact lt_of_heap hh
theorem own_type {w : World} {base e size : Nat} {v : Value} {n : Nat} {xs : List Value} (h : w.ownsRow base e size v n xs) {k : Nat} (hk : v.ownBlock = some k) {c : Array Value} {t : TypeId} {fr : Nat × Nat} (ht : w.heap[k]? = some (.cells c t fr)) : t = e := by
  obtain ⟨_, ⟨rfl, _⟩ | ⟨g, cap, cur, rfl, _, hh, _⟩⟩ := h
  · cases hk
  · simp only [Value.ownBlock, Option.some.injEq] at hk; subst hk
    rw [hh] at ht
    simp only [Option.some.injEq, Obj.cells.injEq] at ht
    exact ht.2.1.symm

/-- An owned row's value, and its cells. -/
theorem own_form {w : World} {base e size : Nat} {v : Value} {n : Nat} {xs : List Value} (h : w.ownsRow base e size v n xs) :
    ∃ ao cap, v = .slice ao n cap ∧ n ≤ cap ∧ cap ≤ maxLen ∧ (ao = none → n = 0 ∧ cap = 0) ∧ (∀ b, ao = some b → b.off = 0 ∧ b.spot = none ∧ b.block < w.heap.size ∧ base ≤ b.block ∧ ∀ (j : Nat) (u : Value), xs[j]? = some u → w.cell? ⟨b.block, j, none⟩ = some u) := by
  obtain ⟨hl, ⟨rfl, rfl⟩ | ⟨g, cap, cur, rfl, hg, hh, hle, hm, hs, ht⟩⟩ := h
  · exact ⟨none, 0, rfl, Nat.le_refl _, by unfold maxLen; omega, fun _ => ⟨rfl, rfl⟩, fun b hb => by cases hb⟩
  · refine ⟨_, cap, rfl, hle, hm, fun h => (by cases h), fun b hb => ?_⟩
    simp only [Option.some.injEq] at hb
    subst hb
    refine ⟨rfl, rfl, lt_of_heap hh, hg, fun j u hu => ?_⟩
    rw [cell_of_heap hh, ← hu, ← ht, List.getElem?_take_of_lt, Array.getElem?_toList]
    rcases Nat.lt_or_ge j (n * size) with h | h
    · exact h
    · rw [List.getElem?_eq_none (by omega)] at hu; cases hu

/-- AN APPEND TO A ROW OF THE PROGRAM's OWN, that says whose block it then is: the old one, or a new one. -/
theorem wpList_append_fp {P : Program} (w : World) {ops : Array Oper} {rest : List Oper} {o : Oper} {a : Act} {Q : Exit → Act → World → Prop} (hgd : o.guard = none) (s x : Operand) (t : TypeId)
    (ho : o.op = .call { callee := .builtin .append, args := #[s, x], argTypes := #[t, t] })
    (e : TypeId) (i : TypeInfo) (z : Value) (size bytes : Nat) (ht : P.underlying t = some (.slice e)) (hi : P.info? e = some i) (hz : i.zero = some z)
    (hsize : i.size = size) (hby : i.bytes = bytes) (hzs : z.cells.size = size) (hsz : 0 < size)
    (v : Value) (n : Nat) (xs : List Value) (hs : a.eval s = v) (hown : w.ownsRow 0 e size v n xs)
    (ad : Addr) (m c : Nat) (news : List Value) (hx : a.eval x = .slice (some ad) m c) (hl : news.length = m * size) (hnews : ∀ j u, news[j]? = some u → w.cell? (ad.add j) = some u) (h1 : ∀ u ∈ news, u.oneCell' = true)
    (hm : 0 < m) (h63 : n + m ≤ maxLen) (hbytes : (n + m) * bytes ≤ 140737488355328)
    (h : ∀ v' w', w'.ownsRow 0 e size v' (n + m) (xs ++ news) → w.grownBy w' v.ownBlock → (∀ k, v'.ownBlock = some k → v.ownBlock = some k ∨ w.heap.size ≤ k) → wpList P ops Q rest (a.put o.dst v') w') : wpList P ops Q (o :: rest) a w := by
  have hgrow : ∀ (ao : Option Addr) (cap : Nat), v = .slice ao n cap → (ao = none → n = 0 ∧ cap = 0) → (∀ b, ao = some b → b.off = 0 ∧ b.spot = none ∧ b.block < w.heap.size ∧ 0 ≤ b.block ∧ ∀ (j : Nat) (u : Value), xs[j]? = some u → w.cell? ⟨b.block, j, none⟩ = some u) → cap < n + m → wpList P ops Q (o :: rest) a w := by
    intro ao cap hv hnone hold hfull
    refine wpList_append_grows w hgd s x t ho e i z size bytes ht hi hz hsize hby hzs hsz ao n cap xs (hs.trans hv) hnone hown.1 (fun b hb j u hu => ?_) ad m c news hx hl hnews h1 hfull h63 hbytes (fun v' w' h2 h3 => ?_)
    · obtain ⟨h4, h5, _, _, h6⟩ := hold b hb
      obtain ⟨bb, off, sp⟩ := b
      simp only at h4 h5
      subst h4; subst h5
      rw [add_plain, Nat.zero_add]
      exact h6 j u hu
    · exact h v' w' (ownsRow_base h2 (Nat.zero_le _)) ⟨h3.os, h3.tape, h3.output, h3.size, fun k hk _ => h3.block k hk (by simp)⟩ (fun k hk => .inr (own_block h2 k hk))
  obtain ⟨ao, cap, hv, hle, hmx, hnone, hold⟩ := own_form hown
  by_cases hfit : n + m ≤ cap
  · cases ao with
    | none => have := hnone rfl; omega
    | some b =>
      obtain ⟨h4, h5, _, _, _⟩ := hold b rfl
      obtain ⟨bb, off, sp⟩ := b
      simp only at h4 h5
      subst h4; subst h5
      subst hv
      refine wpList_append_fits w hgd s x t ho 0 e i size ht hi hsize bb n cap xs hs hown ad m c news hx hl hnews h1 hfit (fun w' h2 h3 => ?_)
      exact h _ w' h2 h3 (fun k hk => .inl hk)
  · exact hgrow ao cap hv hnone hold (by omega)
/-- The same, of the run. -/
theorem run_append_fp {P : Program} (w : World) (t ty e : TypeId) (i : TypeInfo) (z : Value) (size bytes : Nat) (ht : P.underlying t = some (.slice e)) (hi : P.info? e = some i) (hz : i.zero = some z)
    (hsize : i.size = size) (hby : i.bytes = bytes) (hzs : z.cells.size = size) (hsz : 0 < size)
    (v : Value) (n : Nat) (xs : List Value) (hown : w.ownsRow 0 e size v n xs)
    (ad : Addr) (m c : Nat) (news : List Value) (hl : news.length = m * size) (hnews : ∀ j u, news[j]? = some u → w.cell? (ad.add j) = some u) (h1 : ∀ u ∈ news, u.oneCell' = true)
    (hm : 0 < m) (h63 : n + m ≤ maxLen) (hbytes : (n + m) * bytes ≤ 140737488355328) :
    ∃ ao' cap' w', (Builtin.append_ #[t, t] ty #[v, .slice (some ad) m c]).run P w = .ok (.slice ao' (n + m) cap') w' ∧ w'.ownsRow 0 e size (.slice ao' (n + m) cap') (n + m) (xs ++ news) ∧ w.grownBy w' v.ownBlock ∧
      (∀ k, (Value.slice ao' (n + m) cap').ownBlock = some k → v.ownBlock = some k ∨ w.heap.size ≤ k) := by
  have fin : ∀ v' w', (Builtin.append_ #[t, t] ty #[v, .slice (some ad) m c]).run P w = .ok v' w' → w'.ownsRow w.heap.size e size v' (n + m) (xs ++ news) → w.grownBy w' none → ∃ ao' cap' w', (Builtin.append_ #[t, t] ty #[v, .slice (some ad) m c]).run P w = .ok (.slice ao' (n + m) cap') w' ∧ w'.ownsRow 0 e size (.slice ao' (n + m) cap') (n + m) (xs ++ news) ∧ w.grownBy w' v.ownBlock ∧
      (∀ k, (Value.slice ao' (n + m) cap').ownBlock = some k → v.ownBlock = some k ∨ w.heap.size ≤ k) := by
    intro v' w' hr h2 h3
    obtain ⟨ao', cap', rfl, _⟩ := own_form h2
    exact ⟨ao', cap', w', hr, ownsRow_base h2 (Nat.zero_le _), ⟨h3.os, h3.tape, h3.output, h3.size, fun k hk _ => h3.block k hk (by simp)⟩, fun k hk => .inr (own_block h2 k hk)⟩
  obtain ⟨ao, cap, rfl, hle, hmx, hnone, hold⟩ := own_form hown
  cases ao with
  | none =>
    obtain ⟨rfl, rfl⟩ := hnone rfl
    obtain rfl : xs = [] := List.eq_nil_of_length_eq_zero (by simpa using hown.1)
    obtain ⟨v', w', hr, r1, r2, _⟩ := run_append_own (P := P) w w.heap.size t ty e i z size bytes ht hi hz hsize hby hzs hsz (.slice none 0 0) 0 [] (World.ownsRow_nil w _ e size) ad m c news hl hnews h1 h63 hbytes (Nat.le_refl _)
    exact fin v' w' hr r1 r2
  | some b =>
    obtain ⟨h4, h5, _, _, h6⟩ := hold b rfl
    obtain ⟨bb, off, sp⟩ := b
    simp only at h4 h5
    subst h4; subst h5
    by_cases hfit : n + m ≤ cap
    · obtain ⟨w', hr, r1, r2⟩ := run_append_fits (P := P) w 0 t ty e i size ht hi hsize bb n cap xs hown ad m c news hl hnews h1 hfit
      exact ⟨_, cap, w', hr, r1, r2, fun k hk => .inl hk⟩
    · obtain ⟨v', w', hr, r1, r2⟩ := run_append_arg_grows (P := P) w t ty e i z size bytes ht hi hz hsize hby hzs hsz ⟨bb, 0, none⟩ n cap xs hown.1 (fun j u hu => by rw [add_plain, Nat.zero_add]; exact h6 j u hu) ad m c news hl hnews (by omega) h63 hbytes
      exact fin v' w' hr r1 r2

/-- .. and of one step of a region that draws its order. -/
theorem step_append_fp {P : Program} {ops : Array Oper} {o : Oper} {a : Act} {w : World} {K : Act → World → Prop} {Q : Exit → Act → World → Prop} {E : Prop}
    (hg : o.guard = none) (s x : Operand) (t : TypeId) (hop : o.op = Op.call { callee := Callee.builtin Builtin.append, args := #[s, x], argTypes := #[t, t] })
    (e : TypeId) (i : TypeInfo) (z : Value) (size bytes : Nat) (ht : P.underlying t = some (.slice e)) (hi : P.info? e = some i) (hz : i.zero = some z)
    (hsize : i.size = size) (hby : i.bytes = bytes) (hzs : z.cells.size = size) (hsz : 0 < size)
    (v : Value) (n : Nat) (xs : List Value) (hs : a.eval s = v) (hown : w.ownsRow 0 e size v n xs)
    (ad : Addr) (m c : Nat) (news : List Value) (hx : a.eval x = .slice (some ad) m c) (hl : news.length = m * size) (hnews : ∀ j u, news[j]? = some u → w.cell? (ad.add j) = some u) (h1 : ∀ u ∈ news, u.oneCell' = true)
    (hm : 0 < m) (h63 : n + m ≤ maxLen) (hbytes : (n + m) * bytes ≤ 140737488355328)
    (hK : ∀ ao' cap' w', w'.ownsRow 0 e size (.slice ao' (n + m) cap') (n + m) (xs ++ news) → w.grownBy w' v.ownBlock → (∀ k, (Value.slice ao' (n + m) cap').ownBlock = some k → v.ownBlock = some k ∨ w.heap.size ≤ k) → K (a.put o.dst (.slice ao' (n + m) cap')) w') :
    if Region.wanted o (yielded ops a.tmps) = true then Oper.wp P o a w K Q else E := by
  have hw : Region.wanted o (yielded ops a.tmps) = true := by simp [Region.wanted, hg]
  rw [if_pos hw]
  obtain ⟨ao', cap', w', hr, r1, r2, r3⟩ := run_append_fp (P := P) w t o.type e i z size bytes ht hi hz hsize hby hzs hsz v n xs hown ad m c news hl hnews h1 hm h63 hbytes
  unfold Oper.wp
  simp [execOp, hop, resolve, invoke, builtin, hs, hx, hr, Result.andThen]
  exact hK ao' cap' w' r1 r2 r3
end Go.Proofs.YtcdfpnlaklaafaaGreat
/-
  What is left behind a call that only made memory and drew: the old world, some draws, new blocks behind it.
-/
set_option linter.unusedVariables false
set_option linter.unusedSimpArgs false
set_option linter.unnecessarySimpa false
namespace Go.Proofs.YtcdfpnlaklaafaaGreat
open Go.ChangeShapes Go.WideShapes Go.ChangeAt Go.RowKit Go.Deep
/-- A slice whose block is new. -/
def NewIn (W : World) (v : Value) : Prop := ∀ k, v.ownBlock = some k → W.heap.size ≤ k
/-- A slice whose block is new, between two worlds. -/
def NewAt (W W' : World) (v : Value) : Prop := ∀ k, v.ownBlock = some k → W.heap.size ≤ k ∧ k < W'.heap.size
structure Grw (W W' : World) : Prop extends Keeps (fun _ => False) W W' where
  drawn : W.drawn ≤ W'.drawn
namespace Grw
variable {a w w' : World}
theorem refl (w : World) : Grw w w := ⟨Keeps.refl _ w, Nat.le_refl _⟩
theorem trans (h : Grw a w) (k : Grw w w') : Grw a w' := ⟨h.toKeeps.trans k.toKeeps, Nat.le_trans h.drawn k.drawn⟩
theorem alloc (h : Grw a w) (o : Obj) : Grw a (w.alloc o) := ⟨h.toKeeps.alloc o, h.drawn⟩
theorem drew (h : Grw a w) : Grw a w.drew := ⟨h.toKeeps.drew, Nat.le_trans h.drawn (Nat.le_succ _)⟩
theorem drewN (h : Grw a w) (n : Nat) : Grw a (w.drewN n) := ⟨h.toKeeps.drewN n, Nat.le_trans h.drawn (Nat.le_add_right _ _)⟩
theorem grown (h : Grw w w') : ∃ q os', w' = Go.Sort.grow (w.drewN q) os' := by
  have hh : w'.heap = w.heap ++ w'.heap.extract w.heap.size w'.heap.size := by
    apply Array.ext_getElem?
    intro i
    rw [Array.getElem?_append]
    split
    · rename_i hi
      exact h.block i hi (fun x => x)
    · rename_i hi
      have := h.size
      rw [Array.getElem?_extract]
      by_cases h2 : i < w'.heap.size
      · rw [if_pos (by omega)]
        congr 1
        omega
      · rw [if_neg (by omega), Array.getElem?_eq_none (by omega)]
  refine ⟨w'.drawn - w.drawn, w'.heap.extract w.heap.size w'.heap.size, ?_⟩
  have hd := h.drawn
  have h1 := h.os; have h2 := h.tape; have h3 := h.output
  obtain ⟨hp', tp', dr', os', ou'⟩ := w'
  obtain ⟨hp, tp, dr, os, ou⟩ := w
  simp only at hh hd h1 h2 h3
  unfold Go.Sort.grow World.drewN
  simp only [World.mk.injEq]
  exact ⟨hh, h2, by omega, h1, h3⟩
end Grw
end Go.Proofs.YtcdfpnlaklaafaaGreat
/-
  A region that draws its order: the condition that is held may be changed on the way.
-/
set_option linter.unusedVariables false
namespace Go.Proofs.YtcdfpnlaklaafaaGreat
open Go
theorem wpAnyH_change {P : Program} {md : Region.Mode} {ops : Array Oper} {Q : Exit → Act → World → Prop} {S S' : World → Prop} (hs : ∀ w, S' w → S w) :
    ∀ (fuel : Nat) (listed : Array Bool) (a : Act) (w : World), wpAnyH P md ops Q S' fuel listed a w → wpAnyH P md ops Q S fuel listed a w
  | 0, _, _, _, h => h
  | fuel + 1, _, _, _, h => ⟨h.1, fun i hi => wpOp_mono (fun a' w' h' => ⟨hs _ h'.1, wpAnyH_change hs fuel _ a' w' h'.2⟩) (h.2 i hi)⟩
theorem get_at {ops : Array Oper} {i : Nat} {oi : Oper} {rest : List Oper} (h : ops.toList.drop i = oi :: rest) : ops[i]? = some oi := by
  have := congrArg (fun l => l[0]?) h
  simpa using this
/-- As 'wpAnyH_take': the operation comes written out of the list's rest. -/
theorem wpAnyH_take_at {P : Program} {md : Region.Mode} {ops : Array Oper} {Q : Exit → Act → World → Prop} {S : World → Prop} {i : Nat} {oi : Oper} {rest : List Oper} {v : Value} {fuel : Nat} {listed : Array Bool} {a : Act} {w : World} (hi : ops.toList.drop i = oi :: rest)
    (hs : Region.noSelect ops = true) (hf : Region.free md ops listed i = true) (hr : (Region.ready md ops listed).contains i = true)
    (hQ : ∀ c a w, Q (.panic c) (a.put oi.dst v) w → Q (.panic c) a w) (hy : YieldsIf P ops S oi v a) (hS : S w)
    (h : wpAnyH P md ops Q S fuel (listed.setIfInBounds i true) (a.put oi.dst v) w) : wpAnyH P md ops Q S (fuel + 1) listed a w :=
  wpAnyH_take (get_at hi) hs hf hr hQ hy hS h
/-- As 'AllReadyH.cons', for one operation alone. -/
theorem wpAnyH_one {P : Program} {md : Region.Mode} {ops : Array Oper} {Q : Exit → Act → World → Prop} {S : World → Prop} {i : Nat} {o : Oper} {rest : List Oper} {fuel : Nat} {listed : Array Bool} {a : Act} {w : World} (hr : Region.ready md ops listed = [i]) (hi : ops.toList.drop i = o :: rest)
    (h : ∀ K' : Act → World → Prop, Shut (∀ a w, S w → (S w → wpAnyH P md ops Q S fuel (listed.setIfInBounds i true) a w) → K' a w) → if Region.wanted o (yielded ops a.tmps) = true then Oper.wp P o a w K' Q else K' (a.put o.dst undef) w) :
    wpAnyH P md ops Q S (fuel + 1) listed a w :=
  wpAnyH_ready hr (by simp) (AllReadyH.cons (get_at hi) h AllReadyH.nil)
theorem nm1 {α : Type} (l : List α) (i : Nat) (a : α) : l.toArray.setIfInBounds i a = (l.set i a).toArray := List.setIfInBounds_toArray ..
theorem nm2 {α : Type} (a b : α) (l : List α) : (a :: l).set 0 b = b :: l := rfl
theorem nm3 {α : Type} (a b : α) (l : List α) (n : Nat) : (a :: l).set (n + 1) b = a :: l.set n b := rfl
end Go.Proofs.YtcdfpnlaklaafaaGreat
