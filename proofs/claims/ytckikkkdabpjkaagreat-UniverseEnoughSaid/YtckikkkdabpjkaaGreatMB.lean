/-
 More small laws of my own, over any program: an append that tells whether the row stayed or is new.
-/
import Derived.Test.YtckikkkdabpjkaaGreatKit
import Derived.Sort.Grow
import Derived.Test.YtckikkkdabpjkaaGreatProg
import Derived.Laws.AppendOwnNone
import Derived.Shelf.GgSortFunc.RowK
import Derived.Test.YtckikkkdabpjkaaGreatKit3
import Derived.Deep.RegionLawGrows
set_option linter.unusedVariables false
set_option linter.unusedSimpArgs false
namespace Go.Proofs.YtckikkkdabpjkaaGreat
open Go.ChangeShapes Go.WideShapes Go.ChangeAt Go.RowKit Go.Deep

theorem ownsRow_base {w : World} {base base' e size : Nat} {v : Value} {n : Nat} {xs : List Value} (h : w.ownsRow base e size v n xs) (hb : base' ≤ base) : w.ownsRow base' e size v n xs := by
 obtain ⟨h1, h2 | ⟨g, cap, cur, hv, hg, r⟩⟩ := h
 ·exact ⟨h1, .inl h2⟩
 ·exact ⟨h1, .inr ⟨g, cap, cur, hv, by omega, r⟩⟩
theorem ownsRow_keeps' {w w' : World} {base e size : Nat} {v : Value} {n : Nat} {xs : List Value} {S : Nat → Prop} (h : w.ownsRow base e size v n xs) (hk : Keeps S w w') (hs : ∀ k, v.ownBlock = some k → ¬ S k) : w'.ownsRow base e size v n xs := by
 obtain ⟨h1, h2 | ⟨g, cap, cur, hv, hg, hh, r⟩⟩ := h
 ·exact ⟨h1, .inl h2⟩
 ·exact ⟨h1, .inr ⟨g, cap, cur, hv, hg, (hk.block g (lt_of_heap hh) (hs g (by rw [hv]; rfl))).trans hh, r⟩⟩
theorem own_lt {w : World} {base e size : Nat} {v : Value} {n : Nat} {xs : List Value} (h : w.ownsRow base e size v n xs) : ∀ k, v.ownBlock = some k → k < w.heap.size := by
 intro k hk
 obtain ⟨_, ⟨rfl, _⟩ | ⟨g, cap, cur, rfl, _, hh, _⟩⟩ := h
 ·cases hk
 ·simp only [Value.ownBlock, Option.some.injEq] at hk; subst hk; exact lt_of_heap hh
/-- An owned row's value, and its cells. -/
theorem own_form {w : World} {base e size : Nat} {v : Value} {n : Nat} {xs : List Value} (h : w.ownsRow base e size v n xs) :
 ∃ ao cap, v = .slice ao n cap ∧ n ≤ cap ∧ cap ≤ maxLen ∧ (ao = none → n = 0 ∧ cap = 0) ∧ (∀ b, ao = some b → b.off = 0 ∧ b.spot = none ∧ b.block < w.heap.size ∧ base ≤ b.block ∧ ∀ (j : Nat) (u : Value), xs[j]? = some u → w.cell? ⟨b.block, j, none⟩ = some u) := by
 obtain ⟨hl, ⟨rfl, rfl⟩ | ⟨g, cap, cur, rfl, hg, hh, hle, hm, hs, ht⟩⟩ := h
 ·exact ⟨none, 0, rfl, Nat.le_refl _, by unfold maxLen; omega, fun _ => ⟨rfl, rfl⟩, fun b hb => by cases hb⟩
 ·refine ⟨_, cap, rfl, hle, hm, fun h => (by cases h), fun b hb => ?_⟩
  simp only [Option.some.injEq] at hb
  subst hb
  refine ⟨rfl, rfl, lt_of_heap hh, hg, fun j u hu => ?_⟩
  rw [cell_of_heap hh, ← hu, ← ht, List.getElem?_take_of_lt, Array.getElem?_toList]
  rcases Nat.lt_or_ge j (n * size) with h | h
  ·exact h
  ·rw [List.getElem?_eq_none (by omega)] at hu; cases hu

/-- The same, of the run. -/
theorem run_append_fp {P : Program} (w : World) (t ty e : TypeId) (i : TypeInfo) (z : Value) (size bytes : Nat) (ht : P.underlying t = some (.slice e)) (hi : P.info? e = some i) (hz : i.zero = some z)
 (hsize : i.size = size) (hby : i.bytes = bytes) (hzs : z.cells.size = size) (hsz : 0 < size)
 (v : Value) (n : Nat) (xs : List Value) (hown : w.ownsRow 0 e size v n xs)
 (ad : Addr) (m c : Nat) (news : List Value) (hl : news.length = m * size) (hnews : ∀ j u, news[j]? = some u → w.cell? (ad.add j) = some u) (h1 : ∀ u ∈ news, u.oneCell' = true)
 (hm : 0 < m) (h63 : n + m ≤ maxLen) (hbytes : (n + m) * bytes ≤ 140737488355328) :
 ∃ ao' cap' w', (Builtin.append_ #[t, t] ty #[v, .slice (some ad) m c]).run P w = .ok (.slice ao' (n + m) cap') w' ∧ w'.ownsRow 0 e size (.slice ao' (n + m) cap') (n + m) (xs ++ news) ∧ w.grownBy w' v.ownBlock ∧
  (∀ k, (Value.slice ao' (n + m) cap').ownBlock = some k → v.ownBlock = some k ∨ w.heap.size ≤ k) := by
 have fin : ∀ v' w', (Builtin.append_ #[t, t] ty #[v, .slice (some ad) m c]).run P w = .ok v' w' → w'.ownsRow w.heap.size e size v' (n + m) (xs ++ news) → w.grownBy w' none → ∃ ao' cap' w', (Builtin.append_ #[t, t] ty #[v, .slice (some ad) m c]).run P w = .ok (.slice ao' (n + m) cap') w' ∧ w'.ownsRow 0 e size (.slice ao' (n + m) cap') (n + m) (xs ++ news) ∧ w.grownBy w' v.ownBlock ∧
  (∀ k, (Value.slice ao' (n + m) cap').ownBlock = some k → v.ownBlock = some k ∨ w.heap.size ≤ k) := by
  intro v' w' hr h2 h3
  obtain ⟨ao', cap', rfl, _⟩ := own_form h2
  exact ⟨ao', cap', w', hr, ownsRow_base h2 (Nat.zero_le _), ⟨h3.os, h3.tape, h3.output, h3.size, fun k hk _ => h3.block k hk (by simp)⟩, fun k hk => .inr (own_block h2 k hk)⟩
 obtain ⟨ao, cap, rfl, hle, hmx, hnone, hold⟩ := own_form hown
 cases ao with
 | none =>
  obtain ⟨rfl, rfl⟩ := hnone rfl
  obtain rfl : xs = [] := List.eq_nil_of_length_eq_zero (by simpa using hown.1)
  obtain ⟨v', w', hr, r1, r2, _⟩ := run_append_own (P := P) w w.heap.size t ty e i z size bytes ht hi hz hsize hby hzs hsz (.slice none 0 0) 0 [] (World.ownsRow_nil w _ e size) ad m c news hl hnews h1 h63 hbytes (Nat.le_refl _)
  exact fin v' w' hr r1 r2
 | some b =>
  obtain ⟨h4, h5, _, _, h6⟩ := hold b rfl
  obtain ⟨bb, off, sp⟩ := b
  simp only at h4 h5
  subst h4; subst h5
  by_cases hfit : n + m ≤ cap
  ·obtain ⟨w', hr, r1, r2⟩ := run_append_fits (P := P) w 0 t ty e i size ht hi hsize bb n cap xs hown ad m c news hl hnews h1 hfit
   exact ⟨_, cap, w', hr, r1, r2, fun k hk => .inl hk⟩
  ·obtain ⟨v', w', hr, r1, r2⟩ := run_append_arg_grows (P := P) w t ty e i z size bytes ht hi hz hsize hby hzs hsz ⟨bb, 0, none⟩ n cap xs hown.1 (fun j u hu => by rw [add_plain, Nat.zero_add]; exact h6 j u hu) ad m c news hl hnews (by omega) h63 hbytes
   exact fin v' w' hr r1 r2

/-- .. and of one step of a region that draws its order. -/
theorem step_append_fp {P : Program} {ops : Array Oper} {o : Oper} {a : Act} {w : World} {K : Act → World → Prop} {Q : Exit → Act → World → Prop} {E : Prop}
 (hg : o.guard = none) (s x : Operand) (t : TypeId) (hop : o.op = Op.call { callee := Callee.builtin Builtin.append, args := #[s, x], argTypes := #[t, t] })
 (e : TypeId) (i : TypeInfo) (z : Value) (size bytes : Nat) (ht : P.underlying t = some (.slice e)) (hi : P.info? e = some i) (hz : i.zero = some z)
 (hsize : i.size = size) (hby : i.bytes = bytes) (hzs : z.cells.size = size) (hsz : 0 < size)
 (v : Value) (n : Nat) (xs : List Value) (hs : a.eval s = v) (hown : w.ownsRow 0 e size v n xs)
 (ad : Addr) (m c : Nat) (news : List Value) (hx : a.eval x = .slice (some ad) m c) (hl : news.length = m * size) (hnews : ∀ j u, news[j]? = some u → w.cell? (ad.add j) = some u) (h1 : ∀ u ∈ news, u.oneCell' = true)
 (hm : 0 < m) (h63 : n + m ≤ maxLen) (hbytes : (n + m) * bytes ≤ 140737488355328)
 (hK : ∀ ao' cap' w', w'.ownsRow 0 e size (.slice ao' (n + m) cap') (n + m) (xs ++ news) → w.grownBy w' v.ownBlock → (∀ k, (Value.slice ao' (n + m) cap').ownBlock = some k → v.ownBlock = some k ∨ w.heap.size ≤ k) → K (a.put o.dst (.slice ao' (n + m) cap')) w') :
 if Region.wanted o (yielded ops a.tmps) = true then Oper.wp P o a w K Q else E := by
 have hw : Region.wanted o (yielded ops a.tmps) = true := by simp [Region.wanted, hg]
 rw [if_pos hw]
 obtain ⟨ao', cap', w', hr, r1, r2, r3⟩ := run_append_fp (P := P) w t o.type e i z size bytes ht hi hz hsize hby hzs hsz v n xs hown ad m c news hl hnews h1 hm h63 hbytes
 unfold Oper.wp
 simp [execOp, hop, resolve, invoke, builtin, hs, hx, hr, Result.andThen]
 exact hK ao' cap' w' r1 r2 r3
end Go.Proofs.YtckikkkdabpjkaaGreat
/-
 What is left behind a call that only made memory and drew: the old world, some draws, new blocks behind it.
-/
set_option linter.unusedVariables false
set_option linter.unusedSimpArgs false
set_option linter.unnecessarySimpa false
namespace Go.Proofs.YtckikkkdabpjkaaGreat
open Go.ChangeShapes Go.WideShapes Go.ChangeAt Go.RowKit Go.Deep
structure Grw (W W' : World) : Prop extends Keeps (fun _ => False) W W' where
 drawn : W.drawn ≤ W'.drawn
namespace Grw
variable {a w w' : World}
theorem refl (w : World) : Grw w w := ⟨Keeps.refl _ w, Nat.le_refl _⟩
theorem trans (h : Grw a w) (k : Grw w w') : Grw a w' := ⟨h.toKeeps.trans k.toKeeps, Nat.le_trans h.drawn k.drawn⟩
theorem alloc (h : Grw a w) (o : Obj) : Grw a (w.alloc o) := ⟨h.toKeeps.alloc o, h.drawn⟩
theorem drew (h : Grw a w) : Grw a w.drew := ⟨h.toKeeps.drew, Nat.le_trans h.drawn (Nat.le_succ _)⟩
theorem drewN (h : Grw a w) (n : Nat) : Grw a (w.drewN n) := ⟨h.toKeeps.drewN n, Nat.le_trans h.drawn (Nat.le_add_right _ _)⟩
theorem grown (h : Grw w w') : ∃ q os', w' = Go.Sort.grow (w.drewN q) os' := by
 have hh : w'.heap = w.heap ++ w'.heap.extract w.heap.size w'.heap.size := by
  apply Array.ext_getElem?
  intro i
  rw [Array.getElem?_append]
  split
  ·rename_i hi
   exact h.block i hi (fun x => x)
  ·rename_i hi
   have := h.size
   rw [Array.getElem?_extract]
   by_cases h2 : i < w'.heap.size
   ·rw [if_pos (by omega)]
    congr 1
    omega
   ·rw [if_neg (by omega), Array.getElem?_eq_none (by omega)]
 refine ⟨w'.drawn - w.drawn, w'.heap.extract w.heap.size w'.heap.size, ?_⟩
 have hd := h.drawn
 have h1 := h.os; have h2 := h.tape; have h3 := h.output
 obtain ⟨hp', tp', dr', os', ou'⟩ := w'
 obtain ⟨hp, tp, dr, os, ou⟩ := w
 simp only at hh hd h1 h2 h3
 unfold Go.Sort.grow World.drewN
 simp only [World.mk.injEq]
 exact ⟨hh, h2, by omega, h1, h3⟩
end Grw
end Go.Proofs.YtckikkkdabpjkaaGreat
/-
 Rows of elements of several cells: read, own, appended, held in a block.
-/
set_option linter.unusedVariables false
set_option linter.unusedSimpArgs false
set_option linter.unnecessarySimpa false
namespace Go.Proofs.YtckikkkdabpjkaaGreat
open Go.ChangeShapes Go.WideShapes Go.ChangeAt Go.RowKit Go.Deep
/-- What an element is in memory. -/
structure Elt (α : Type) where
 enc : α → List Value
 k : Nat
 pos : 0 < k
 len : ∀ x, (enc x).length = k
 one : ∀ x, ∀ v ∈ enc x, v.oneCell' = true
 T : TypeId
 S : TypeId
 z : Value
 bytes : Nat
 hS : Tryz.prog.underlying S = some (.slice T)
 hT : (Tryz.prog.info? T).map (fun i => (i.zero, i.size, i.bytes)) = some (some z, k, bytes)
 hz : z.cells.size = k
 hb : bytes ≤ 1000
section
variable {α : Type} (E : Elt α)
def flat (l : List α) : List Value := (l.map E.enc).flatten
theorem flat_cons (x : α) (l : List α) : flat E (x :: l) = E.enc x ++ flat E l := rfl
theorem flat_app (l m : List α) : flat E (l ++ m) = flat E l ++ flat E m := by unfold flat; rw [List.map_append, List.flatten_append]
theorem flat_len : ∀ l : List α, (flat E l).length = l.length * E.k
 | [] => by simp [flat]
 | x :: l => by rw [flat_cons, List.length_append, E.len, flat_len l, List.length_cons, Nat.add_mul, Nat.one_mul, Nat.add_comm]
theorem flat_one (l : List α) : ∀ u ∈ flat E l, u.oneCell' = true := fun u hu => by
 unfold flat at hu
 obtain ⟨s, hs, hu⟩ := List.mem_flatten.1 hu
 obtain ⟨x, _, rfl⟩ := List.mem_map.1 hs
 exact E.one x u hu
theorem flat_get : ∀ (l : List α) (j : Nat) (x : α) (i : Nat) (u : Value), l[j]? = some x → (E.enc x)[i]? = some u → (flat E l)[j * E.k + i]? = some u
 | [], j, x, i, u, h, _ => by cases h
 | y :: l, 0, x, i, u, h, hu => by
  obtain rfl : y = x := by simpa using h
  rw [flat_cons, Nat.zero_mul, Nat.zero_add, List.getElem?_append_left (by
   rcases Nat.lt_or_ge i (E.enc y).length with q | q
   ·exact q
   ·rw [List.getElem?_eq_none q] at hu; cases hu)]
  exact hu
 | y :: l, j + 1, x, i, u, h, hu => by
  have h' : l[j]? = some x := by simpa using h
  have e : (j + 1) * E.k + i = (E.enc y).length + (j * E.k + i) := by rw [E.len, Nat.add_mul, Nat.one_mul]; omega
  rw [flat_cons, e, List.getElem?_append_right (by omega)]
  rw [Nat.add_sub_cancel_left]
  exact flat_get l j x i u h' hu
theorem flat_at : ∀ (l : List α) (t : Nat) (u : Value), (flat E l)[t]? = some u → ∃ (j : Nat) (i : Nat) (x : α), l[j]? = some x ∧ (E.enc x)[i]? = some u ∧ t = j * E.k + i
 | [], t, u, h => by simp [flat] at h
 | y :: l, t, u, h => by
  rw [flat_cons] at h
  rcases Nat.lt_or_ge t (E.enc y).length with hj | hj
  ·rw [List.getElem?_append_left hj] at h
   exact ⟨0, t, y, rfl, h, by omega⟩
  ·rw [List.getElem?_append_right hj] at h
   obtain ⟨j, i, x, h1, h2, h3⟩ := flat_at l _ u h
   refine ⟨j + 1, i, x, h1, h2, ?_⟩
   rw [E.len] at h3 hj
   rw [Nat.add_mul, Nat.one_mul]
   omega
/-- A slice that reads as such a row. -/
def RdK (w : World) (v : Value) (l : List α) : Prop :=
 ∃ ao cap, v = .slice ao l.length cap ∧ l.length ≤ cap ∧ (0 < l.length → ∃ g off, ao = some ⟨g, off, none⟩ ∧ g < w.heap.size ∧ ∀ (j : Nat) (x : α), l[j]? = some x → ∀ (i : Nat) (u : Value), (E.enc x)[i]? = some u → w.cell? ⟨g, off + j * E.k + i, none⟩ = some u)
variable {E}
theorem RdK.keeps {w w' : World} {v : Value} {l : List α} (h : RdK E w v l) (hk : Keeps (fun _ => False) w w') : RdK E w' v l := by
 obtain ⟨ao, cap, hv, hle, hr⟩ := h
 refine ⟨ao, cap, hv, hle, fun h0 => ?_⟩
 obtain ⟨g, off, h1, h2, h3⟩ := hr h0
 exact ⟨g, off, h1, Nat.lt_of_lt_of_le h2 hk.size, fun j x hj i u hu => (hk.cell (p := ⟨g, off + j * E.k + i, none⟩) h2 (fun x => x)).trans (h3 j x hj i u hu)⟩
variable (E) in
/-- A row of the program's own. -/
def OwnK (base : Nat) (W : World) (v : Value) (l : List α) : Prop := W.ownsRow base E.T E.k v l.length (flat E l)
theorem OwnK.keeps {base : Nat} {W W' : World} {v : Value} {l : List α} (h : OwnK E base W v l) {S : Nat → Prop} (hk : Keeps S W W') (hs : ∀ q, base ≤ q → ¬ S q) : OwnK E base W' v l := ownsRow_keeps' h hk (fun q hq => hs q (own_block h q hq))
theorem OwnK.base {base base' : Nat} {W : World} {v : Value} {l : List α} (h : OwnK E base W v l) (hb : base' ≤ base) : OwnK E base' W v l := ownsRow_base h hb
theorem OwnK.form {base : Nat} {W : World} {v : Value} {l : List α} (h : OwnK E base W v l) : (v = .slice none 0 0 ∧ l = []) ∨ ∃ g cap cur, v = .slice (some ⟨g, 0, none⟩) l.length cap ∧ base ≤ g ∧ W.heap[g]? = some (.cells cur E.T (0, 0)) ∧ l.length ≤ cap ∧ cap ≤ maxLen ∧ cur.size = cap * E.k ∧ cur.toList.take (l.length * E.k) = flat E l := by
 obtain ⟨_, ⟨rfl, h0⟩ | ⟨g, cap, cur, h1, h2, h3, h4, h5, h6, h7⟩⟩ := h
 ·exact .inl ⟨rfl, List.eq_nil_of_length_eq_zero h0⟩
 ·exact .inr ⟨g, cap, cur, h1, h2, h3, h4, h5, h6, h7⟩
theorem OwnK.cell {W : World} {g cap : Nat} {cur : Array Value} {l : List α} {fr : Nat × Nat} (hh : W.heap[g]? = some (.cells cur E.T fr)) (ht : cur.toList.take (l.length * E.k) = flat E l) (j : Nat) (x : α) (hj : l[j]? = some x) (i : Nat) (u : Value) (hu : (E.enc x)[i]? = some u) : W.cell? ⟨g, j * E.k + i, none⟩ = some u := by
 have h1 := flat_get E l j x i u hj hu
 rw [← ht, List.getElem?_take] at h1
 rw [cell_of_heap hh]
 split at h1
 ·rw [Array.getElem?_toList] at h1; exact h1
 ·cases h1
theorem OwnK.reads {base : Nat} {W : World} {v : Value} {l : List α} (h : OwnK E base W v l) : RdK E W v l := by
 rcases h.form with ⟨rfl, rfl⟩ | ⟨g, cap, cur, rfl, _, hh, hle, _, _, ht⟩
 ·exact ⟨none, 0, rfl, Nat.le_refl _, fun h => absurd h (by simp)⟩
 ·refine ⟨_, cap, rfl, hle, fun _ => ⟨g, 0, rfl, lt_of_heap hh, fun j x hj i u hu => ?_⟩⟩
  rw [Nat.zero_add]
  exact OwnK.cell (cap := cap) hh ht j x hj i u hu
variable (E) in
theorem ownK_nil (base : Nat) (W : World) : OwnK E base W (.slice none 0 0) [] := by
 show W.ownsRow base E.T E.k _ 0 []
 exact World.ownsRow_nil _ _ _ _
variable (E) in
/-- An empty row literal. -/
theorem ownK_lit {base : Nat} {W : World} (hb : base ≤ W.heap.size) : OwnK E base (W.alloc (.cells #[] E.T)) (.slice (some ⟨W.heap.size, 0, none⟩) 0 0) [] := by
 show (W.alloc (.cells #[] E.T)).ownsRow base E.T E.k _ 0 []
 exact World.ownsRow_made W #[] 0 hb (by unfold maxLen; omega) (by simp)
variable (E) in
/-- A row that can be appended: nil has no places. -/
def SrcK (w : World) (v : Value) (l : List α) : Prop := RdK E w v l ∧ ∀ n cap, v = .slice none n cap → cap = 0
theorem SrcK.keeps {w w' : World} {v : Value} {l : List α} (h : SrcK E w v l) (hk : Keeps (fun _ => False) w w') : SrcK E w' v l := ⟨h.1.keeps hk, h.2⟩
theorem OwnK.src {base : Nat} {W : World} {v : Value} {l : List α} (h : OwnK E base W v l) : SrcK E W v l := by
 refine ⟨h.reads, ?_⟩
 rcases h.form with ⟨rfl, rfl⟩ | ⟨g, cap, cur, rfl, _⟩
 ·intro n cap e; simp at e; exact e.2.symm
 ·intro n cap e; simp at e
variable (E) in
/-- A row literal of one element. -/
theorem one_srcK (W : World) (x : α) (c : Array Value) (hc : c.toList = E.enc x) : SrcK E (W.alloc (.cells c E.T)) (.slice (some ⟨W.heap.size, 0, none⟩) 1 1) [x] := by
 have ha := (MapKept.heap_alloc W (.cells c E.T)).1
 refine ⟨⟨_, 1, rfl, Nat.le_refl _, fun _ => ⟨W.heap.size, 0, rfl, lt_of_heap ha, fun j y hj i u hu => ?_⟩⟩, fun n cap e => by simp at e⟩
 match j, hj with
 | 0, hj =>
  obtain rfl : x = y := by simpa using hj
  rw [Nat.zero_mul, Nat.zero_add, cell_of_heap ha, ← Array.getElem?_toList, hc]
  exact hu
 | j + 1, hj => simp at hj
theorem srcK_empty (w : World) (a : Addr) (c : Nat) : SrcK E w (.slice (some a) 0 c) [] := ⟨⟨_, c, rfl, Nat.zero_le _, fun h => absurd h (by simp)⟩, fun n cap e => by simp at e⟩
/-- An append to a row of the program's own. -/
theorem app_k {ops : Array Oper} {rest : List Oper} {o : Oper} {a : Act} {Q : Exit → Act → World → Prop} {w : World} (hgd : o.guard = none) (s x : Operand)
 (ho : o.op = .call { callee := .builtin .append, args := #[s, x], argTypes := #[E.S, E.S] })
 (base : Nat) (v : Value) (l : List α) (hs : a.eval s = v) (hown : OwnK E base w v l) (xv : Value) (m : List α) (hx : a.eval x = xv) (hr : SrcK E w xv m) (hlen : l.length + m.length ≤ 100000) (hbase : base ≤ w.heap.size)
 (h : ∀ v' w', OwnK E base w' v' (l ++ m) → Keeps (fun q => v.ownBlock = some q) w w' → wpList Tryz.prog ops Q rest (a.put o.dst v') w') : wpList Tryz.prog ops Q (o :: rest) a w := by
 obtain ⟨i0, hi0, hz0, hz1, hz2⟩ := info_parts E.hT
 obtain ⟨⟨ao, cap, rfl, hle, hc⟩, hnil⟩ := hr
 have hown' : w.ownsRow base E.T E.k v l.length (flat E l) := hown
 have hbb := Nat.mul_le_mul hlen E.hb
 have key : ∀ ad, ao = some ad → wpList Tryz.prog ops Q (o :: rest) a w := fun ad had => by
  subst had
  have hcell : ∀ (j : Nat) (u : Value), (flat E m)[j]? = some u → w.cell? (ad.add j) = some u := fun j u hj => by
   obtain ⟨j1, i1, y, hy, hu, rfl⟩ := flat_at E m j u hj
   have hm0 : 0 < m.length := by
    rcases Nat.eq_zero_or_pos m.length with h0 | h0
    ·rw [List.eq_nil_of_length_eq_zero h0] at hy; cases hy
    ·exact h0
   obtain ⟨g, off, e, _, hcc⟩ := hc hm0
   simp only [Option.some.injEq] at e
   subst e
   rw [add_plain, ← Nat.add_assoc]
   exact hcc j1 y hy i1 u hu
  refine wpList_append_own w hgd s x E.S ho base E.T i0 E.z E.k E.bytes E.hS hi0 hz0 hz1 hz2 E.hz E.pos v l.length (flat E l) hs hown' ad m.length cap (flat E m) hx (flat_len E m) hcell (flat_one E m) (by unfold maxLen; omega) (by omega) hbase (fun v' w' h1 h2 _ => h v' w' ?_ (keeps_grown h2))
  show w'.ownsRow base E.T E.k v' (l ++ m).length (flat E (l ++ m))
  rw [List.length_append, flat_app]
  exact h1
 cases hao : ao with
 | some ad => exact key ad hao
 | none =>
  subst hao
  have hcap := hnil _ _ rfl
  subst hcap
  have hm0 : m = [] := List.eq_nil_of_length_eq_zero (by omega)
  subst hm0
  refine wpList_append_own_none hgd s x E.S ho base E.T i0 E.k E.hS hi0 v l.length (flat E l) hs hown' hx ?_
  refine h v w ?_ (Keeps.refl _ _)
  rw [List.append_nil]
  exact hown
open Go.Sort in
/-- A row of the program's own, as its block holds it. -/
theorem OwnK.holds [Inhabited α] {W : World} {g cap : Nat} {cur : Array Value} {l : List α} (hh : W.heap[g]? = some (.cells cur E.T (0, 0))) (ht : cur.toList.take (l.length * E.k) = flat E l) : HoldsK E.enc E.k W g 0 l.toArray := by
 intro j hj
 have hj' : j < l.length * E.k := by simpa using hj
 have hdiv : j / E.k < l.length := (Nat.div_lt_iff_lt_mul E.pos).2 hj'
 refine ⟨?_, free_of_heap hh _⟩
 obtain ⟨x, hx⟩ : ∃ x, l[j / E.k]? = some x := ⟨_, List.getElem?_eq_getElem hdiv⟩
 have e0 : (flatK E.enc E.k l.toArray)[j]! = (E.enc x)[j % E.k]! := by
  rw [get_flatK _ _ _ _ (by simpa using hj')]
  have : l.toArray[j / E.k]! = x := by
   rw [getElem!_def]
   simp [hx]
  rw [this]
 have hm : j % E.k < (E.enc x).length := by rw [E.len]; exact Nat.mod_lt _ E.pos
 have hc := OwnK.cell (cap := cap) hh ht (j / E.k) x hx (j % E.k) _ (List.getElem?_eq_getElem hm)
 show W.cell? ⟨g, 0 + j, none⟩ = some ((flatK E.enc E.k l.toArray)[j]!)
 have ej : j / E.k * E.k + j % E.k = j := by rw [Nat.mul_comm]; exact Nat.div_add_mod j E.k
 rw [ej] at hc
 rw [e0, Nat.zero_add, hc]
 congr 1
 exact (getElem!_pos (E.enc x) (j % E.k) hm).symm
/-- What a block holds from a place on: the cells of a row's elements, none of them frozen. -/
def HoK (E : Elt α) (w : World) (g off : Nat) (l : List α) : Prop := g < w.heap.size ∧ ∀ (j : Nat) (x : α), l[j]? = some x → ∀ (i : Nat) (u : Value), (E.enc x)[i]? = some u → w.cell? ⟨g, off + j * E.k + i, none⟩ = some u ∧ w.frozen? ⟨g, off + j * E.k + i, none⟩ = false
open Go.Sort in
theorem HoK.of [Inhabited α] {w : World} {g off : Nat} {l : List α} (hg : g < w.heap.size) (h : HoldsK E.enc E.k w g off l.toArray) : HoK E w g off l := by
 refine ⟨hg, fun j x hj i u hu => ?_⟩
 have hjl : j < l.length := by
  rcases Nat.lt_or_ge j l.length with q | q
  ·exact q
  ·rw [List.getElem?_eq_none q] at hj; cases hj
 have hil : i < E.k := by
  rcases Nat.lt_or_ge i (E.enc x).length with q | q
  ·rw [E.len] at q; exact q
  ·rw [List.getElem?_eq_none q] at hu; cases hu
 have hd : l.toArray[j]! = x := by
  rw [getElem!_def]
  simp [hj]
 have hc := HoldsK.cell h (show j < l.toArray.size by simpa using hjl) hil
 rw [hd] at hc
 have hu2 : (E.enc x)[i]! = u := by rw [getElem!_def, hu]
 rw [hu2] at hc
 exact hc
theorem HoK.reads {w : World} {g off : Nat} {l : List α} (h : HoK E w g off l) {cap : Nat} (hle : l.length ≤ cap) : RdK E w (.slice (some ⟨g, off, none⟩) l.length cap) l :=
 ⟨_, cap, rfl, hle, fun _ => ⟨g, off, rfl, h.1, fun j x hj i u hu => (h.2 j x hj i u hu).1⟩⟩
theorem HoK.keeps {w w' : World} {g off : Nat} {l : List α} (h : HoK E w g off l) {S : Nat → Prop} (hk : Keeps S w w') (hs : ¬ S g) : HoK E w' g off l :=
 ⟨Nat.lt_of_lt_of_le h.1 hk.size, fun j x hj i u hu => ⟨(hk.cell (p := ⟨g, off + j * E.k + i, none⟩) h.1 hs).trans (h.2 j x hj i u hu).1, (hk.frozen (p := ⟨g, off + j * E.k + i, none⟩) h.1 hs).trans (h.2 j x hj i u hu).2⟩⟩
theorem RdK.take {w : World} {g off n cap : Nat} {l : List α} (h : RdK E w (.slice (some ⟨g, off, none⟩) n cap) l) {k c : Nat} (hk : k ≤ n) (hc : k ≤ c) : RdK E w (.slice (some ⟨g, off, none⟩) k c) (l.take k) := by
 obtain ⟨ao, cap', hv, hle, hr⟩ := h
 simp only [Value.slice.injEq] at hv
 obtain ⟨rfl, rfl, rfl⟩ := hv
 have hl : (l.take k).length = k := by rw [List.length_take]; omega
 refine ⟨_, c, by rw [hl], by omega, fun h0 => ?_⟩
 obtain ⟨g', off', h1, h2, h3⟩ := hr (by omega)
 simp only [Option.some.injEq, Addr.mk.injEq, and_true] at h1
 obtain ⟨rfl, rfl⟩ := h1
 exact ⟨g, off, rfl, h2, fun j x hj => h3 j x (by rw [List.getElem?_take] at hj; split at hj; exact hj; cases hj)⟩
theorem RdK.drop {w : World} {g off n cap : Nat} {l : List α} (h : RdK E w (.slice (some ⟨g, off, none⟩) n cap) l) {k : Nat} (hk : k ≤ n) : RdK E w (.slice (some ⟨g, off + k * E.k, none⟩) (n - k) (cap - k)) (l.drop k) := by
 obtain ⟨ao, cap', hv, hle, hr⟩ := h
 simp only [Value.slice.injEq] at hv
 obtain ⟨rfl, rfl, rfl⟩ := hv
 refine ⟨_, cap - k, by rw [List.length_drop], by rw [List.length_drop]; omega, fun h0 => ?_⟩
 rw [List.length_drop] at h0
 obtain ⟨g', off', h1, h2, h3⟩ := hr (by omega)
 simp only [Option.some.injEq, Addr.mk.injEq, and_true] at h1
 obtain ⟨rfl, rfl⟩ := h1
 refine ⟨g, _, rfl, h2, fun j x hj i u hu => ?_⟩
 rw [List.getElem?_drop] at hj
 have := h3 (k + j) x hj i u hu
 rw [Nat.add_mul] at this
 rw [Nat.add_assoc off, ]
 exact this
theorem HoK.take {w : World} {g off : Nat} {l : List α} (h : HoK E w g off l) (n : Nat) : HoK E w g off (l.take n) :=
 ⟨h.1, fun j x hj i u hu => h.2 j x (by rw [List.getElem?_take] at hj; split at hj; exact hj; cases hj) i u hu⟩
/-- An element written over. -/
theorem HoK.put {w : World} {g off : Nat} {l : List α} (h : HoK E w g off l) {n : Nat} (hn : n < l.length) (y : α) : HoK E (w.setCells g (off + n * E.k) (E.enc y)) g off (l.set n y) ∧ Keeps (fun q => q = g) w (w.setCells g (off + n * E.k) (E.enc y)) := by
 have hk : Keeps (fun q => q = g) w (w.setCells g (off + n * E.k) (E.enc y)) := Keeps.setCells (S := fun q => q = g) g (fun _ => rfl) _ _ _ (Keeps.refl _ _)
 refine ⟨⟨Nat.lt_of_lt_of_le h.1 hk.size, fun j x hj i u hu => ?_⟩, hk⟩
 have hil : i < E.k := by
  rcases Nat.lt_or_ge i (E.enc x).length with q | q
  ·rw [E.len] at q; exact q
  ·rw [List.getElem?_eq_none q] at hu; cases hu
 obtain ⟨z, hz⟩ : ∃ z, l[n]? = some z := ⟨_, List.getElem?_eq_getElem hn⟩
 rw [frozen_setCells]
 rw [List.getElem?_set] at hj
 split at hj
 ·rename_i e
  subst e
  obtain rfl : y = x := by simpa using hj
  have hcs : ∀ j, j < (E.enc y).length → (w.cell? ⟨g, off + n * E.k + j, none⟩).isSome = true := fun j hj => by
   have hj2 : j < (E.enc z).length := by rw [E.len] at hj ⊢; exact hj
   rw [(h.2 n z hz j _ (List.getElem?_eq_getElem hj2)).1]
   rfl
  have hi2 : i < (E.enc z).length := by rw [E.len]; exact hil
  have hi3 : i < (E.enc y).length := by rw [E.len]; exact hil
  refine ⟨?_, (h.2 n z hz i _ (List.getElem?_eq_getElem hi2)).2⟩
  rw [World.cell?_setCells_in g (E.enc y) _ w hcs i hi3, ← List.getElem?_eq_getElem hi3]
  exact hu
 ·rename_i hne
  refine ⟨?_, (h.2 j x hj i u hu).2⟩
  rw [World.cell?_setCells_out g _ _ _ _ (fun _ _ => ?_)]
  ·exact (h.2 j x hj i u hu).1
  ·rw [E.len]
   show off + j * E.k + i < off + n * E.k ∨ off + n * E.k + E.k ≤ off + j * E.k + i
   rcases Nat.lt_or_gt_of_ne hne with q | q
   ·right
    have := Nat.mul_le_mul_right E.k (show n + 1 ≤ j from q)
    rw [Nat.add_mul, Nat.one_mul] at this
    omega
   ·left
    have := Nat.mul_le_mul_right E.k (show j + 1 ≤ n from q)
    rw [Nat.add_mul, Nat.one_mul] at this
    omega
end
end Go.Proofs.YtckikkkdabpjkaaGreat
/-
 Appends of rows of elements of several cells, as steps of a region that draws its order.
-/
set_option linter.unusedVariables false
set_option linter.unusedSimpArgs false
set_option linter.unnecessarySimpa false
namespace Go.Proofs.YtckikkkdabpjkaaGreat
open Go.ChangeShapes Go.WideShapes Go.ChangeAt Go.RowKit Go.Deep
section
variable {α : Type} {E : Elt α}
theorem flat_news {w : World} {v : Value} {m : List α} (h : RdK E w v m) (hm : 0 < m.length) : ∃ g off cap, v = .slice (some ⟨g, off, none⟩) m.length cap ∧ ∀ (j : Nat) (u : Value), (flat E m)[j]? = some u → w.cell? ((⟨g, off, none⟩ : Addr).add j) = some u := by
 obtain ⟨ao, cap, rfl, hle, hc⟩ := h
 obtain ⟨g, off, rfl, _, hcc⟩ := hc hm
 refine ⟨g, off, cap, rfl, fun j u hj => ?_⟩
 obtain ⟨j1, i1, y, hy, hu, rfl⟩ := flat_at E m j u hj
 rw [add_plain, ← Nat.add_assoc]
 exact hcc j1 y hy i1 u hu
/-- An append to a row of the program's own. -/
theorem step_app_k {ops : Array Oper} {o : Oper} {a : Act} {w : World} {K : Act → World → Prop} {Q : Exit → Act → World → Prop} {EE : Prop} (hgd : o.guard = none) (s x : Operand)
 (ho : o.op = .call { callee := .builtin .append, args := #[s, x], argTypes := #[E.S, E.S] })
 (base : Nat) (v : Value) (l : List α) (hs : a.eval s = v) (hown : OwnK E base w v l) (xv : Value) (m : List α) (hx : a.eval x = xv) (hr : SrcK E w xv m) (hlen : l.length + m.length ≤ 100000) (hbase : base ≤ w.heap.size)
 (hK : ∀ v' w', OwnK E base w' v' (l ++ m) → Keeps (fun q => v.ownBlock = some q) w w' → K (a.put o.dst v') w') :
 if Region.wanted o (yielded ops a.tmps) = true then Oper.wp Tryz.prog o a w K Q else EE := by
 have hw : Region.wanted o (yielded ops a.tmps) = true := by simp [Region.wanted, hgd]
 rw [if_pos hw]
 obtain ⟨i0, hi0, hz0, hz1, hz2⟩ := info_parts E.hT
 obtain ⟨⟨ao, cap, rfl, hle, hc⟩, hnil⟩ := hr
 have hown' : w.ownsRow base E.T E.k v l.length (flat E l) := hown
 have hbb := Nat.mul_le_mul hlen E.hb
 have key : ∀ ad, ao = some ad → Oper.wp Tryz.prog o a w K Q := fun ad had => by
  subst had
  have hcell : ∀ (j : Nat) (u : Value), (flat E m)[j]? = some u → w.cell? (ad.add j) = some u := fun j u hj => by
   obtain ⟨j1, i1, y, hy, hu, rfl⟩ := flat_at E m j u hj
   have hm0 : 0 < m.length := by
    rcases Nat.eq_zero_or_pos m.length with h0 | h0
    ·rw [List.eq_nil_of_length_eq_zero h0] at hy; cases hy
    ·exact h0
   obtain ⟨g, off, e, _, hcc⟩ := hc hm0
   simp only [Option.some.injEq] at e
   subst e
   rw [add_plain, ← Nat.add_assoc]
   exact hcc j1 y hy i1 u hu
  refine wp_append_own w s x E.S ho base E.T i0 E.z E.k E.bytes E.hS hi0 hz0 hz1 hz2 E.hz E.pos v l.length (flat E l) hs hown' ad m.length cap (flat E m) hx (flat_len E m) hcell (flat_one E m) (by unfold maxLen; omega) (by omega) hbase (fun v' w' h1 h2 _ => hK v' w' ?_ (keeps_grown h2))
  show w'.ownsRow base E.T E.k v' (l ++ m).length (flat E (l ++ m))
  rw [List.length_append, flat_app]
  exact h1
 cases hao : ao with
 | some ad => exact key ad hao
 | none =>
  subst hao
  have hcap := hnil _ _ rfl
  subst hcap
  have hm0 : m = [] := List.eq_nil_of_length_eq_zero (by omega)
  subst hm0
  have hrun := run_append_owned_none (P := Tryz.prog) (w := w) base E.S o.type E.T i0 E.k E.hS hi0 v l.length (flat E l) hown'
  have hx' : a.eval x = .slice none 0 0 := hx
  unfold Oper.wp
  simp [execOp, ho, resolve, invoke, builtin, hs, hx', hrun, Result.andThen]
  refine hK v w ?_ (Keeps.refl _ _)
  rw [List.append_nil]
  exact hown
end
end Go.Proofs.YtckikkkdabpjkaaGreat
