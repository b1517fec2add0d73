/-
  A model in memory, whatever made it: what it answers; what is kept while only new memory is written.
-/
import Derived.Test.YtckjgefpelnkoaaDoorSemLives
import Derived.Test.YtckjgefpelnkoaaDoorSemAppend
import Derived.Test.YtckjgefpelnkoaaDoorSetSame
set_option linter.unusedVariables false
set_option linter.unusedSimpArgs false
set_option linter.unnecessarySimpa false
namespace Go.Proofs.YtckjgefpelnkoaaDoor
open Go.ChangeShapes Go.WideShapes Go.ChangeAt Go.RowKit Go.Deep SetPlain
/-- A model in memory. -/
structure Mdl (mo fb bw : Nat) (rb : Nat → Nat) (P K tot steps : Nat) (In : Nat → Nat → Bool) (W : World) : Prop where
  obj : W.heap[mo]? = some (.cells #[.pointer (some ⟨fb, 0, none⟩), .int .i64 P, .int .i64 K, .int .i64 steps] 50 (0, 0))
  fam : FamMem W fb bw rb (P * K) P In tot
section
variable {W : World} {mo fb bw : Nat} {rb : Nat → Nat} {P K tot steps : Nat} {In : Nat → Nat → Bool}
theorem Mdl.keeps (h : Mdl mo fb bw rb P K tot steps In W) {W' : World} (hk : Keeps (fun _ => False) W W') : Mdl mo fb bw rb P K tot steps In W' :=
  ⟨(hk.block _ (lt_of_heap h.obj) (fun x => x)).trans h.obj, h.fam.keeps hk (fun _ _ x => x)⟩
theorem Mdl.cells (h : Mdl mo fb bw rb P K tot steps In W) : W.cell? ⟨mo, 0, none⟩ = some (.pointer (some ⟨fb, 0, none⟩)) ∧ W.cell? ⟨mo, 1, none⟩ = some (.int .i64 P) ∧ W.cell? ⟨mo, 2, none⟩ = some (.int .i64 K) ∧ W.cell? ⟨mo, 3, none⟩ = some (.int .i64 steps) :=
  ⟨by rw [cell_of_heap h.obj]; rfl, by rw [cell_of_heap h.obj]; rfl, by rw [cell_of_heap h.obj]; rfl, by rw [cell_of_heap h.obj]; rfl⟩
set_option maxRecDepth 10000 in
theorem Mdl.in_spec (h : Mdl mo fb bw rb P K tot steps In W) (i c : Int) (hc0 : -9223372036854775808 ≤ c) (hc1 : c ≤ 9223372036854775807) : Calls Tryd.prog 9 #[.pointer (some ⟨mo, 0, none⟩), .int .i64 i, .int .i64 c] W fun e W' => e = .returned (.bool (hasB (P * K) P In i c)) ∧ W = W' := by
  obtain ⟨c0, c1, c2, c3⟩ := h.cells
  have HH := Lib.hid (fhas_spec h.fam i c hc0 hc1)
  clear h
  go_enter Tryd.func9, Tryd.ntmps9
  go_wp2_with fail
  refine HH.out.mono ?_
  rintro e W' ⟨rfl, rfl⟩
  go_wp2
  go_ret
  exact ⟨rfl, rfl⟩
set_option maxRecDepth 10000 in
theorem Mdl.list_spec (h : Mdl mo fb bw rb P K tot steps In W) (hT : TabIn W) (i : Int) : Calls Tryd.prog 12 #[.pointer (some ⟨mo, 0, none⟩), .int .i64 i] W fun e W' => ∃ v, e = .returned v ∧ ReadsL W' v (listTo (rowP (P * K) In i) P) ∧ Below W.heap.size W W' := by
  obtain ⟨c0, c1, c2, c3⟩ := h.cells
  have HH := Lib.hid (flist_spec h.fam hT i)
  clear h hT
  go_enter Tryd.func12, Tryd.ntmps12
  go_wp2_with fail
  refine HH.out.mono ?_
  rintro e W' ⟨v, rfl, hown, hb⟩
  have HO := Lib.hid (ReadsL.of_own hown)
  have HB := Lib.hid hb
  obtain ⟨ao, cap, rfl, _, _, _, _⟩ := own_form hown
  clear hown hb HH
  go_wp2
  go_ret
  exact ⟨_, rfl, HO.out, HB.out⟩
end
/-- Eval, from a world on in which only new memory is written. -/
theorem eval_keep {p k : Int} {P K : Nat} (hP : Within p 64 P) (hK : Within k 64 K) {rs : List Rl} {n : Nat} (hrs : rs.length = n) (hn : n ≤ 1000) {ao : Option Addr} {cap : Nat} (hcap : n ≤ cap) {w W : World} (hk : Keeps (fun _ => False) w W) (hR : RuleRow W ao rs) (hT : TabIn W) :
    Calls Tryd.prog 7 #[.int .i64 p, .int .i64 k, .slice ao n cap] W fun e W' => ∃ mo, e = .returned (.pointer (some ⟨mo, 0, none⟩)) ∧ Hid (∃ fb bw rb tot steps In, Mdl mo fb bw rb P K tot steps In W' ∧ ∀ i c, In i c = true ↔ Der K (rs.filter (fun r => rightB P K r)) i c) ∧ Hid (Keeps (fun _ => False) w W') := by
  subst hrs
  refine (seval_spec p k P K hP hK rs hn ao cap W hR hcap hT).mono ?_
  rintro e W' ⟨mo, rfl, hl⟩
  obtain ⟨fb, bw, rb, In, tot, steps, hm⟩ := hl.out
  exact ⟨mo, rfl, ⟨fb, bw, rb, tot, steps, In, ⟨hm.obj, hm.fam⟩, hm.tells⟩, hk.trans (Keeps.of_below hm.base (Nat.le_refl _))⟩
/-- Rules turned round, and doubled: the first j rounds. -/
def backTo (rs : List Rl) : Nat → List Rl
  | 0 => []
  | j + 1 => backTo rs j ++ [(rs[rs.length - 1 - j]?).getD ⟨0, 0, 0, 0, 0, 0⟩, (rs[j]?).getD ⟨0, 0, 0, 0, 0, 0⟩]
theorem backTo_length (rs : List Rl) : ∀ j, (backTo rs j).length = 2 * j
  | 0 => rfl
  | j + 1 => by rw [backTo, List.length_append, backTo_length rs j]; simp; omega
theorem backTo_sub (rs : List Rl) : ∀ j, j ≤ rs.length → ∀ r, r ∈ backTo rs j → r ∈ rs
  | 0, _, r, h => by cases h
  | j + 1, hj, r, h => by
    rw [backTo] at h
    rcases List.mem_append.1 h with h | h
    · exact backTo_sub rs j (by omega) r h
    · have h1 : rs.length - 1 - j < rs.length := by omega
      have h2 : j < rs.length := by omega
      rw [List.getElem?_eq_getElem h1, List.getElem?_eq_getElem h2] at h
      simp only [Option.getD_some, List.mem_cons, List.not_mem_nil, or_false] at h
      rcases h with rfl | rfl
      · exact List.getElem_mem h1
      · exact List.getElem_mem h2
theorem backTo_has (rs : List Rl) : ∀ j i, i < j → j ≤ rs.length → ∀ r, rs[i]? = some r → r ∈ backTo rs j
  | 0, i, h, _, _, _ => absurd h (Nat.not_lt_zero _)
  | j + 1, i, h, hj, r, hr => by
    rw [backTo]
    rcases Nat.lt_or_ge i j with h1 | h1
    · exact List.mem_append_left _ (backTo_has rs j i h1 (by omega) r hr)
    · obtain rfl : i = j := by omega
      refine List.mem_append_right _ ?_
      rw [hr]; simp
theorem backTo_mem (rs : List Rl) (r : Rl) : r ∈ backTo rs rs.length ↔ r ∈ rs :=
  ⟨backTo_sub rs _ (Nat.le_refl _) r, fun h => by
    obtain ⟨i, hi⟩ := List.getElem?_of_mem h
    have : i < rs.length := by
      rcases Nat.lt_or_ge i rs.length with h | h
      · exact h
      · rw [List.getElem?_eq_none h] at hi; cases hi
    exact backTo_has rs _ i this (Nat.le_refl _) r hi⟩
theorem Der.right_mono {P K : Nat} {rs ss : List Rl} (h : ∀ r, r ∈ rs → r ∈ ss) {i c : Nat} (d : Der K (rs.filter (fun r => rightB P K r)) i c) : Der K (ss.filter (fun r => rightB P K r)) i c :=
  d.mono fun r hr => by
    have := List.mem_filter.1 hr
    exact List.mem_filter.2 ⟨h r this.1, this.2⟩
theorem two_row (W : World) (r s : Rl) : RuleRow (W.alloc (.cells #[.int .i64 r.kind, .int .i64 r.head, .int .i64 r.who, .int .i64 r.a, .int .i64 r.b, .int .i64 r.via, .int .i64 s.kind, .int .i64 s.head, .int .i64 s.who, .int .i64 s.a, .int .i64 s.b, .int .i64 s.via] 25)) (some ⟨W.heap.size, 0, none⟩) [r, s] := fun _ => by
  refine ⟨W.heap.size, 0, rfl, by simp, fun i x h => ?_⟩
  match i, h with
  | 0, h =>
    simp only [List.getElem?_cons_zero, Option.some.injEq] at h
    subst h
    refine ⟨?_, ?_, ?_, ?_, ?_, ?_⟩ <;> simp
  | 1, h =>
    simp only [List.getElem?_cons_succ, List.getElem?_cons_zero, Option.some.injEq] at h
    subst h
    refine ⟨?_, ?_, ?_, ?_, ?_, ?_⟩ <;> simp
theorem empty_row (W : World) : TailRow (W.alloc (.cells #[] 25)) 25 6 (.slice (some ⟨W.heap.size, 0, none⟩) 0 0) ([] : List Rl).length (rlCells []) :=
  ⟨rfl, .inr ⟨W.heap.size, 0, 0, #[], rfl, heap_alloc_new W _, Nat.le_refl _, by unfold maxLen; omega, by simp, fun j u hu => by cases hu⟩⟩
end Go.Proofs.YtckjgefpelnkoaaDoor
