/-
  Rows of numbers: in memory, the document's look whether two are one, and what sort and compaction make of them.
-/
import Derived.Test.YtahnedkdodjomaaMA
import Derived.Lib.SlicesCompact
import Derived.Deep.LoopGhost
import Derived.Deep.QuietTactic
import Derived.BigQuiet
import Derived.Shelf.Sort.Plain
set_option linter.unusedVariables false
set_option linter.unusedSimpArgs false
set_option linter.unnecessarySimpa false
namespace Go.Proofs.Ytahnedkdodjomaa
open Go.ChangeShapes Go.WideShapes Go.ChangeAt Go.RowKit Go.Deep
def ReadsI (w : World) (v : Value) (l : List Int) : Prop :=
  ∃ ao cap, v = .slice ao l.length cap ∧ l.length ≤ cap ∧ (0 < l.length → ∃ g off, ao = some ⟨g, off, none⟩ ∧ g < w.heap.size ∧ ∀ (j : Nat) (x : Int), l[j]? = some x → w.cell? ⟨g, off + j, none⟩ = some (.int .i64 x))
theorem ReadsI.keeps {w w' : World} {v : Value} {l : List Int} (h : ReadsI w v l) (hk : Keeps (fun _ => False) w w') : ReadsI w' v l := by
  obtain ⟨ao, cap, hv, hle, hr⟩ := h
  refine ⟨ao, cap, hv, hle, fun h0 => ?_⟩
  obtain ⟨g, off, h1, h2, h3⟩ := hr h0
  exact ⟨g, off, h1, Nat.lt_of_lt_of_le h2 hk.size, fun j x hj => (hk.cell (p := ⟨g, off + j, none⟩) h2 (fun x => x)).trans (h3 j x hj)⟩
theorem iinfo : (Try.prog.info? 3).map (fun i => (i.zero, i.size, i.bytes)) = some (some (.int .i64 0), 1, 8) := by kernel_rfl
def iCells (l : List Int) : List Value := l.map fun j => Value.int .i64 j
theorem iCells_snoc (l : List Int) (x : Int) : iCells (l ++ [x]) = iCells l ++ [.int .i64 x] := by simp [iCells]
/-- A row of numbers of the program's own. -/
def OwnI (w W : World) (v : Value) (l : List Int) : Prop := W.ownsRow w.heap.size 3 1 v l.length (iCells l)
theorem OwnI.reads {w W : World} {v : Value} {l : List Int} (h : OwnI w W v l) : ReadsI W v l := by
  obtain ⟨ao, cap, rfl, hle, _, hno, hc⟩ := own_form h
  refine ⟨ao, cap, rfl, hle, fun h0 => ?_⟩
  cases ao with
  | none => have := (hno rfl).1; omega
  | some b =>
    obtain ⟨q1, q2, q3, q4, q5⟩ := hc b rfl
    obtain ⟨b, o, sp⟩ := b
    simp only at q1 q2 q3 q4 q5
    subst q1 q2
    exact ⟨b, 0, rfl, q3, fun j x hj => by rw [Nat.zero_add]; exact q5 j _ (by unfold iCells; rw [List.getElem?_map, hj]; rfl)⟩
theorem OwnI.keeps {w W W' : World} {v : Value} {l : List Int} (h : OwnI w W v l) (hk : Keeps (fun _ => False) W W') : OwnI w W' v l := by
  exact ownsRow_keeps' h hk (fun _ _ x => x)
open Go.Lib in
/-- Sorted numbers, each once. -/
theorem compact_mem (d : Array Int) (m : Nat) : ∀ j, j < m → d[j]! ∈ compactUpTo d m := by
  induction m with
  | zero => intro j hj; exact absurd hj (Nat.not_lt_zero _)
  | succ m ih =>
    intro j hj
    rw [compactUpTo_succ, List.mem_append]
    by_cases e : j = m
    · subst e
      by_cases hk : keeps d j = true
      · rw [if_pos hk]; exact .inr (by simp)
      · have h2 : ¬ (j = 0 ∨ d[j]! ≠ d[j - 1]!) := by
          intro h; exact hk (by unfold keeps; exact decide_eq_true h)
        have h3 : j ≠ 0 := fun h => h2 (.inl h)
        have h4 : d[j]! = d[j - 1]! := Classical.byContradiction fun h => h2 (.inr h)
        rw [h4]
        exact .inl (ih (j - 1) (by omega))
    · exact .inl (ih j (by omega))
open Go.Lib in
theorem compact_from (d : Array Int) (m : Nat) {x : Int} (h : x ∈ compactUpTo d m) : ∃ j, j < m ∧ x = d[j]! := by
  unfold compactUpTo at h
  obtain ⟨j, hj, rfl⟩ := List.mem_map.1 h
  exact ⟨j, List.mem_range.1 (List.mem_filter.1 hj).1, rfl⟩
open Go.Lib in
theorem compact_rises (d : Array Int) (hs : ∀ i j, i ≤ j → j < d.size → d[i]! ≤ d[j]!) (m : Nat) (hm : m ≤ d.size) : (compactUpTo d m).Pairwise (· < ·) := by
  unfold compactUpTo
  rw [List.pairwise_map]
  have hp : ((List.range m).filter (keeps d)).Pairwise (· < ·) := List.Pairwise.filter _ (by rw [List.range_eq_range']; exact List.pairwise_lt_range' (s := 0) (n := m) (step := 1) (by decide))
  refine hp.imp_of_mem ?_
  intro i j hi hj hlt
  have h1 := List.mem_filter.1 hj
  have hjm := List.mem_range.1 h1.1
  have hk : j = 0 ∨ d[j]! ≠ d[j - 1]! := of_decide_eq_true h1.2
  have h2 := hs i (j - 1) (by omega) (by omega)
  have h3 := hs (j - 1) j (by omega) (by omega)
  rcases hk with hk | hk
  · omega
  · omega
/-- Two rising lists of the same numbers are one. -/
theorem rises_eq : ∀ {a b : List Int}, a.Pairwise (· < ·) → b.Pairwise (· < ·) → (∀ x, x ∈ a ↔ x ∈ b) → a = b
  | [], [], _, _, _ => rfl
  | [], y :: b, _, _, h => absurd ((h y).2 (by simp)) (by simp)
  | x :: a, [], _, _, h => absurd ((h x).1 (by simp)) (by simp)
  | x :: a, y :: b, ha, hb, h => by
    have ha' := List.pairwise_cons.1 ha
    have hb' := List.pairwise_cons.1 hb
    have hxy : x = y := by
      have h1 := (h x).1 (by simp)
      have h2 := (h y).2 (by simp)
      rcases List.mem_cons.1 h1 with e | e
      · exact e
      · rcases List.mem_cons.1 h2 with e2 | e2
        · exact e2.symm
        · have := ha'.1 y e2
          have := hb'.1 x e
          omega
    subst hxy
    congr 1
    refine rises_eq ha'.2 hb'.2 (fun z => ?_)
    constructor
    · intro hz
      rcases List.mem_cons.1 ((h z).1 (List.mem_cons_of_mem _ hz)) with e | e
      · have := ha'.1 z hz; omega
      · exact e
    · intro hz
      rcases List.mem_cons.1 ((h z).2 (List.mem_cons_of_mem _ hz)) with e | e
      · have := hb'.1 z hz; omega
      · exact e
theorem sorted_le (l : List Int) : (l.mergeSort fun x y => decide (x ≤ y)).Pairwise (fun a b => a ≤ b) := by
  have h := List.pairwise_mergeSort (le := fun x y : Int => decide (x ≤ y)) (fun a b c h1 h2 => by simp only [decide_eq_true_eq] at h1 h2 ⊢; omega) (fun a b => by simp only [Bool.or_eq_true, decide_eq_true_eq]; omega) l
  exact h.imp (fun h => of_decide_eq_true h)
theorem sorted_at (l : List Int) : ∀ i j, i ≤ j → j < (l.mergeSort fun x y => decide (x ≤ y)).toArray.size → (l.mergeSort fun x y => decide (x ≤ y)).toArray[i]! ≤ (l.mergeSort fun x y => decide (x ≤ y)).toArray[j]! := by
  intro i j hij hj
  have hs := sorted_le l
  generalize (l.mergeSort fun x y => decide (x ≤ y)) = m at *
  have hj' : j < m.length := by simpa using hj
  rw [getElem!_pos m.toArray i (by simp; omega), getElem!_pos m.toArray j hj]
  simp only [List.getElem_toArray]
  rcases Nat.lt_or_eq_of_le hij with h | h
  · exact List.pairwise_iff_getElem.1 hs i j (by omega) hj' h
  · subst h; exact Int.le_refl _
/-- What comes of a row by sort and compaction. -/
def suppL (l : List Int) : List Int := Go.Lib.compactUpTo (l.mergeSort fun x y => decide (x ≤ y)).toArray (l.mergeSort fun x y => decide (x ≤ y)).length
theorem supp_rises (l : List Int) : (suppL l).Pairwise (· < ·) := compact_rises _ (sorted_at l) _ (by simp)
theorem supp_mem (l : List Int) (z : Int) : z ∈ suppL l ↔ z ∈ l := by
  have hp : (l.mergeSort fun x y => decide (x ≤ y)).Perm l := List.mergeSort_perm l _
  rw [← hp.mem_iff]
  unfold suppL
  generalize (l.mergeSort fun x y => decide (x ≤ y)) = m
  constructor
  · intro h
    obtain ⟨j, hj, rfl⟩ := compact_from _ _ h
    rw [getElem!_pos m.toArray j (by simpa using hj)]
    simp
  · intro h
    obtain ⟨j, hj, rfl⟩ := List.mem_iff_getElem.1 h
    have := compact_mem m.toArray m.length j hj
    rw [getElem!_pos m.toArray j (by simpa using hj)] at this
    simpa using this
theorem supp_len (l : List Int) : (suppL l).length ≤ l.length := by
  unfold suppL Go.Lib.compactUpTo
  rw [List.length_map]
  refine Nat.le_trans (List.length_filter_le _ _) ?_
  simp
theorem holds_own {w : World} {base g cap : Nat} {l : List Int} (h : w.ownsRow base 3 1 (.slice (some ⟨g, 0, none⟩) l.length cap) l.length (l.map (Value.int .i64))) : Go.Sort.Holds (Value.int .i64) w g 0 l.toArray := by
  intro j hj
  have hj' : j < l.length := by simpa using hj
  obtain ⟨hl, h | ⟨g', cap', cur, hv, _, hh, _, _, hs, ht⟩⟩ := h
  · cases h.1
  · simp only [Value.slice.injEq, Option.some.injEq, Addr.mk.injEq, and_true] at hv
    obtain ⟨rfl, _, _⟩ := hv
    rw [Nat.zero_add]
    refine ⟨?_, free_of_heap hh j⟩
    rw [cell_of_heap hh]
    have e : (cur.toList.take (l.length * 1))[j]? = (l.map (Value.int .i64))[j]? := by rw [ht]
    rw [List.getElem?_take_of_lt (by omega), Array.getElem?_toList, List.getElem?_map, List.getElem?_eq_getElem hj'] at e
    rw [e, getElem!_pos l.toArray j hj]
    simp
set_option maxRecDepth 100000
set_option maxHeartbeats 3200000
theorem isame_spec {w : World} {u v : Value} {a b : List Int} (hu : ReadsI w u a) (hv : ReadsI w v b) (ha : a.length ≤ 1000000) (hab : a = b) :
    Calls Try.prog 11 #[u, v] w fun e w' => e = .returned (.bool true) ∧ ∃ nq, w' = w.drewN nq := by
  subst hab
  obtain ⟨au, cu, rfl, hcu0, hru⟩ := hu
  obtain ⟨av, cv, rfl, hcv0, hrv⟩ := hv
  obtain ⟨n, hn⟩ : ∃ n, a.length = n := ⟨_, rfl⟩
  rw [hn] at hcu0 hcv0 hru hrv ha ⊢
  have HU := Lib.hid hru; have HV := Lib.hid hrv; have HN := Lib.hid hn
  clear hru hrv hn
  go_enter Try.func11, Try.ntmps11
  go_wp2_with fail
  go_loopg [13] n (fun g s wr => ∃ k nq : Nat, k ≤ n ∧ g = n - k ∧ s = .int .i64 k ∧ wr = w.drewN nq)
  case atStart => exact ⟨0, 0, Nat.zero_le _, rfl, rfl, rfl⟩
  case round =>
    obtain ⟨k, nq, hk, rfl, rfl, rfl⟩ := hrel
    by_cases hlt : k < n
    · obtain ⟨gu, ou, rfl, hgu, hcu⟩ := HU.out (by omega)
      obtain ⟨gv, ov, rfl, hgv, hcv⟩ := HV.out (by omega)
      obtain ⟨x, hx⟩ : ∃ x, a[k]? = some x := ⟨_, List.getElem?_eq_getElem (by rw [HN.out]; exact hlt)⟩
      have cu1 := hcu k x hx
      have cv1 := hcv k x hx
      have hkI : (k : Int) < (n : Int) := by omega
      have hku : k < cu := by omega
      have hkv : k < cv := by omega
      clear hcu hcv hx
      go_wp2_with fail
      go_quiet (fail)
      go_wp2_with fail
      go_roundg (n - (k + 1))
      case measure => omega
      case rel => exact ⟨k + 1, _, by omega, rfl, by go_num, rfl⟩
    · obtain rfl : k = n := by omega
      have hkI : ¬ (k : Int) < (k : Int) := by omega
      go_wp2_with fail
      go_ret
      exact ⟨rfl, _, rfl⟩
end Go.Proofs.Ytahnedkdodjomaa
