/-
  The library's SortFunc at rows of statements and of roles: what it leaves.
-/
import Derived.Test.YtcdfpnlaklaafaaGreatSrtLayM
import Derived.Test.YtcdfpnlaklaafaaGreatSrtLayR
import Derived.Test.YtcdfpnlaklaafaaGreatStmClos
set_option linter.unusedVariables false
set_option linter.unusedSimpArgs false
set_option linter.unnecessarySimpa false
namespace Go.Proofs.YtcdfpnlaklaafaaGreat
open Go.ChangeShapes Go.WideShapes Go.ChangeAt Go.RowKit Go.Deep Go.Sort
set_option maxRecDepth 100000
set_option maxHeartbeats 3200000
section
variable {α : Type} {lt : α → α → Prop} [DecidableRel lt]
theorem ltOf_cmp (o : LO lt) (x y : α) : ltOf (cmpO lt) x y = decide (lt x y) := by
  unfold ltOf
  exact cmp_lt o x y
theorem swo_cmp (o : LO lt) : SWO (ltOf (cmpO lt)) where
  irrefl x := by rw [ltOf_cmp o]; exact decide_eq_false (o.irrefl x)
  trans x y z h1 h2 := by
    rw [ltOf_cmp o] at *
    exact decide_eq_true (o.trans (of_decide_eq_true h1) (of_decide_eq_true h2))
  ntrans x y z h1 h2 := by
    rw [ltOf_cmp o] at *
    have h1 := of_decide_eq_false h1
    have h2 := of_decide_eq_false h2
    refine decide_eq_false (fun h => ?_)
    rcases o.total x y with q | q | q
    · exact h1 q
    · subst q; exact h2 h
    · rcases o.total y z with r | r | r
      · exact h2 r
      · subst r; exact o.irrefl _ (o.trans h q)
      · exact o.irrefl _ (o.trans (o.trans h r) q)
theorem tot_cmp (o : LO lt) (x y : α) (h1 : ltOf (cmpO lt) x y = false) (h2 : ltOf (cmpO lt) y x = false) : x = y := by
  rw [ltOf_cmp o] at h1 h2
  have h1 := of_decide_eq_false h1
  have h2 := of_decide_eq_false h2
  rcases o.total x y with q | q | q
  · exact absurd q h1
  · exact q
  · exact absurd q h2
variable (lt) in
/-- In order; what is in more than once stays so. -/
def mrgO (l : List α) : List α := l.mergeSort fun x y => !(ltOf (cmpO lt)) y x
theorem mrgO_len (l : List α) : (mrgO lt l).length = l.length := by unfold mrgO; simp
theorem mrgO_mem (l : List α) (x : α) : x ∈ mrgO lt l ↔ x ∈ l := by unfold mrgO; exact (List.mergeSort_perm l _).mem_iff
theorem mrgO_sorted (o : LO lt) (l : List α) : (mrgO lt l).Pairwise (fun x y => ¬ lt y x) := by
  have h := List.pairwise_mergeSort (le := fun x y => !(ltOf (cmpO lt)) y x) (fun a b c h1 h2 => by
    simp only [Bool.not_eq_true'] at h1 h2 ⊢
    exact (swo_cmp o).ntrans c b a h2 h1) (fun a b => by
    rw [ltOf_cmp o, ltOf_cmp o]
    simp only [Bool.or_eq_true, Bool.not_eq_true', decide_eq_false_iff_not]
    rcases Classical.em (lt b a) with h | h
    · exact .inr (fun k => o.irrefl _ (o.trans h k))
    · exact .inl h) l
  exact h.imp (fun h => by rw [ltOf_cmp o] at h; simpa using h)
theorem srt_world [Inhabited α] {E : Elt α} {W : World} {g : Nat} {l m : List α} (hg : g < W.heap.size) (hH : HoldsK E.enc E.k W g 0 l.toArray) (hm : m.length = l.length) (n : Nat) (os : Array Obj) :
    Keeps (fun q => q = g) W (sortWorldK E.enc E.k W g 0 n m.toArray os) ∧ HoK E (sortWorldK E.enc E.k W g 0 n m.toArray os) g 0 m := by
  have hs : m.toArray.size = l.toArray.size := by simpa using hm
  have hg2 : g < (putRowK E.enc E.k (Go.Sort.ahead W n) g 0 m.toArray).heap.size := by
    unfold putRowK
    rw [Go.Sort.size_putRow]; exact hg
  have hh2 := holdsK_grow E.enc E.k (putRowK E.enc E.k (Go.Sort.ahead W n) g 0 m.toArray) os g 0 _ hg2 (holdsK_putRowK E.enc E.k (Go.Sort.ahead W n) g 0 l.toArray m.toArray (holdsK_ahead E.enc E.k W n g 0 _ hH) hs)
  refine ⟨⟨rfl, rfl, rfl, ?_, fun k hk hq => ?_⟩, HoK.of ?_ hh2⟩
  · show W.heap.size ≤ (Go.Sort.grow _ os).heap.size
    rw [Go.Sort.size_grow]
    unfold putRowK
    rw [Go.Sort.size_putRow]
    show W.heap.size ≤ W.heap.size + _
    omega
  · show (Go.Sort.grow (putRowK E.enc E.k (Go.Sort.ahead W n) g 0 m.toArray) os).heap[k]? = _
    rw [Go.Sort.heap_grow_old _ _ (by unfold putRowK; rw [Go.Sort.size_putRow]; exact hk)]
    show (W.heap.modify g _)[k]? = W.heap[k]?
    rw [Array.getElem?_modify, if_neg (fun e => hq e.symm)]
  · show g < (Go.Sort.grow _ os).heap.size
    rw [Go.Sort.size_grow]; omega
end
theorem srtM_none (W : World) : Calls Tryz.prog 64 #[.slice none 0 0, .func (.func 65) #[] #[]] W fun e W' => e = .returned (.tuple #[]) ∧ W' = W := by
  have hcon := AnyF.slices_SortFunc_none srtMLays none 0 (.func (.func 65) #[] #[]) W
  exact hcon
theorem srtM_spec {W : World} {g cap : Nat} {cur : Array Value} {l : List Stm} (hh : W.heap[g]? = some (.cells cur stmE.T (0, 0))) (ht : cur.toList.take (l.length * stmE.k) = flat stmE l) (hl : l.length ≤ 1000000) :
    Calls Tryz.prog 64 #[.slice (some ⟨g, 0, none⟩) l.length cap, .func (.func 65) #[] #[]] W fun e W' => e = .returned (.tuple #[]) ∧ Hid (Keeps (fun q => q = g) W W' ∧ HoK stmE W' g 0 (mrgO stmLt l)) := by
  have hg := lt_of_heap hh
  have hH : HoldsK stmE.enc stmE.k W g 0 l.toArray := OwnK.holds (cap := cap) hh ht
  have eg : ∀ args w, (callFunc 65 args).run Tryz.prog w = .ok (.enter 65 args) w := enters_of Tryz.func65 (by kernel_rfl) rfl
  have hcl : Go.Proofs.CmpLays Tryz.prog 65 #[] stmE.enc 9 (cmpO stmLt) g 0 l.toArray.size W := fun m os dk _ x y => (sclos_grw x y).mono fun e W' h => ⟨h.1, h.2.out.grown⟩
  have hcon := AnyQ.slices_SortFunc_total srtMLays 9 Tryz.isAgg44 Tryz.sizeOf44 stmE.enc stmE.len stmE.one (cmpO stmLt) (swo_cmp stmO) 65 #[] g 0 cap l.toArray W eg hcl hH hg (by simp; omega) (tot_cmp stmO)
  have hsz : l.toArray.size = l.length := by simp
  rw [hsz] at hcon
  refine hcon.mono ?_
  rintro e W' ⟨rfl, m, os, rfl⟩
  exact ⟨rfl, srt_world hg hH (mrgO_len l) m os⟩
theorem srtR_none (W : World) : Calls Tryz.prog 69 #[.slice none 0 0, .func (.func 70) #[] #[]] W fun e W' => e = .returned (.tuple #[]) ∧ W' = W := by
  have hcon := AnyF.slices_SortFunc_none srtRLays none 0 (.func (.func 70) #[] #[]) W
  exact hcon
theorem srtR_spec {W : World} {g cap : Nat} {cur : Array Value} {l : List Rol} (hh : W.heap[g]? = some (.cells cur rolE.T (0, 0))) (ht : cur.toList.take (l.length * rolE.k) = flat rolE l) (hl : l.length ≤ 1000000) :
    Calls Tryz.prog 69 #[.slice (some ⟨g, 0, none⟩) l.length cap, .func (.func 70) #[] #[]] W fun e W' => e = .returned (.tuple #[]) ∧ Hid (Keeps (fun q => q = g) W W' ∧ HoK rolE W' g 0 (mrgO rolLt l)) := by
  have hg := lt_of_heap hh
  have hH : HoldsK rolE.enc rolE.k W g 0 l.toArray := OwnK.holds (cap := cap) hh ht
  have eg : ∀ args w, (callFunc 70 args).run Tryz.prog w = .ok (.enter 70 args) w := enters_of Tryz.func70 (by kernel_rfl) rfl
  have hcl : Go.Proofs.CmpLays Tryz.prog 70 #[] rolE.enc 2 (cmpO rolLt) g 0 l.toArray.size W := fun m os dk _ x y => (rclos_grw x y).mono fun e W' h => ⟨h.1, h.2.out.grown⟩
  have hcon := AnyQ.slices_SortFunc_total srtRLays 2 Tryz.isAgg40 Tryz.sizeOf40 rolE.enc rolE.len rolE.one (cmpO rolLt) (swo_cmp rolO) 70 #[] g 0 cap l.toArray W eg hcl hH hg (by simp; omega) (tot_cmp rolO)
  have hsz : l.toArray.size = l.length := by simp
  rw [hsz] at hcon
  refine hcon.mono ?_
  rintro e W' ⟨rfl, m, os, rfl⟩
  exact ⟨rfl, srt_world hg hH (mrgO_len l) m os⟩
end Go.Proofs.YtcdfpnlaklaafaaGreat
