/-
  A table of nodes in memory; New, find, grow.
-/
import Derived.Test.YtloidoekmicloaaNode
import Derived.Test.YtloidoekmicloaaNodeModel
import Derived.Test.YtloidoekmicloaaMA
import Derived.Deep.RegionHeld3
set_option linter.unusedVariables false
set_option linter.unusedSimpArgs false
namespace Go.Proofs.Ytloidoekmicloaa
open Go.ChangeShapes Go.WideShapes Go.ChangeAt Go.RowKit Go.Deep NodePlain

/-- Where a node's search begins, of M places. -/
def startAt (M : Nat) (x : Nd) : Nat := (hashF x.1 x.2.1 x.2.2 % (M : Int)).toNat
theorem startAt_spec (M : Nat) (hM : 0 < M) (x : Nd) : hashF x.1 x.2.1 x.2.2 % (M : Int) = (startAt M x : Int) ∧ startAt M x < M := by
  unfold startAt
  have h1 := Int.emod_nonneg (hashF x.1 x.2.1 x.2.2) (b := (M : Int)) (by omega)
  have h2 := Int.emod_lt_of_pos (hashF x.1 x.2.1 x.2.2) (b := (M : Int)) (by omega)
  omega

def placeRow (P : Nat → Nat) (M : Nat) : Array Value := ((List.range M).map fun j => Value.int .i64 (P j)).toArray
theorem placeRow_get (P : Nat → Nat) (M j : Nat) (h : j < M) : (placeRow P M)[j]? = some (.int .i64 (P j)) := by simp [placeRow, h]
theorem placeRow_set (P : Nat → Nat) (M j v : Nat) (h : j < M) : (placeRow P M).setIfInBounds j (.int .i64 (v : Int)) = placeRow (setP P j v) M := by
  apply Array.ext_getElem?
  intro i
  rw [Array.getElem?_setIfInBounds]
  by_cases hij : j = i
  · subst hij
    rw [if_pos rfl, placeRow_get _ _ _ h]
    simp [setP, placeRow, h]
  · rw [if_neg hij]
    rcases Nat.lt_or_ge i M with h1 | h1
    · rw [placeRow_get _ _ _ h1, placeRow_get _ _ _ h1]
      unfold setP
      rw [if_neg (fun e => hij e.symm)]
    · rw [Array.getElem?_eq_none (by simpa [placeRow] using h1), Array.getElem?_eq_none (by simpa [placeRow] using h1)]

def ndCells (x : Nd) : List Value := [.int .i64 x.1, .int .i64 x.2.1, .int .i64 x.2.2]
def ndRow (L : Nat → Nd) : Nat → List Value
  | 0 => []
  | n + 1 => ndRow L n ++ ndCells (L n)
theorem ndRow_len (L : Nat → Nd) : ∀ n, (ndRow L n).length = n * 3
  | 0 => rfl
  | n + 1 => by simp [ndRow, ndRow_len L n, ndCells]; omega
theorem ndRow_congr (L L' : Nat → Nd) : ∀ n, (∀ j, j < n → L j = L' j) → ndRow L n = ndRow L' n
  | 0, _ => rfl
  | n + 1, h => by unfold ndRow; rw [ndRow_congr L L' n (fun j hj => h j (by omega)), h n (by omega)]
theorem ndRow_get (L : Nat → Nd) (i : Nat) (hi : i < 3) : ∀ n j, j < n → (ndRow L n)[j * 3 + i]? = (ndCells (L j))[i]?
  | 0, j, h => absurd h (Nat.not_lt_zero _)
  | n + 1, j, h => by
    unfold ndRow
    rcases Nat.lt_or_ge j n with h1 | h1
    · rw [List.getElem?_append_left (by rw [ndRow_len]; omega)]
      exact ndRow_get L i hi n j h1
    · obtain rfl : j = n := by omega
      rw [List.getElem?_append_right (by rw [ndRow_len]; omega), ndRow_len]
      congr 1; omega
theorem ndRow_add (L : Nat → Nd) (n : Nat) (x : Nd) : ndRow (addN L n x) (n + 1) = ndRow L n ++ ndCells x := by
  show ndRow (addN L n x) n ++ ndCells (addN L n x n) = _
  rw [ndRow_congr (addN L n x) L n (fun j hj => by simp [addN]; omega)]
  simp [addN]

def tabObj (V B : Int) (vn : Value) (bp M : Nat) (s : Bool) : Obj := .cells #[.int .i64 V, .int .i64 B, vn, .slice (some ⟨bp, 0, none⟩) M M, .bool s] 87 (0, 0)

/-- The table's memory: the object at b, the places at bp, the nodes' row. -/
structure TabMem (w : World) (b bp M : Nat) (vn : Value) (V B : Int) (L : Nat → Nd) (n : Nat) (P : Nat → Nat) (s : Bool) : Prop where
  obj : w.heap[b]? = some (tabObj V B vn bp M s)
  places : w.heap[bp]? = some (.cells (placeRow P M) 3 (0, 0))
  nodes : w.ownsRow 0 103 3 vn n (ndRow L n)

/-- The blocks of a table. -/
def tabFp (b bp : Nat) (vn : Value) : Nat → Prop := fun k => k = b ∨ k = bp ∨ vn.ownBlock = some k

theorem TabMem.keeps {w w' : World} {b bp M : Nat} {vn : Value} {V B : Int} {L : Nat → Nd} {n : Nat} {P : Nat → Nat} {s : Bool} (h : TabMem w b bp M vn V B L n P s) {S : Nat → Prop} (hk : Keeps S w w') (hs : ∀ k, tabFp b bp vn k → ¬ S k) : TabMem w' b bp M vn V B L n P s :=
  ⟨(hk.block b (lt_of_heap h.obj) (hs b (.inl rfl))).trans h.obj, (hk.block bp (lt_of_heap h.places) (hs bp (.inr (.inl rfl)))).trans h.places, ownsRow_keeps' h.nodes hk (fun k hk' => hs k (.inr (.inr hk')))⟩
theorem TabMem.lt {w : World} {b bp M : Nat} {vn : Value} {V B : Int} {L : Nat → Nd} {n : Nat} {P : Nat → Nat} {s : Bool} (h : TabMem w b bp M vn V B L n P s) : ∀ k, tabFp b bp vn k → k < w.heap.size := by
  intro k hk
  rcases hk with rfl | rfl | hk
  · exact lt_of_heap h.obj
  · exact lt_of_heap h.places
  · exact own_lt h.nodes k hk
theorem TabMem.ne {w : World} {b bp M : Nat} {vn : Value} {V B : Int} {L : Nat → Nd} {n : Nat} {P : Nat → Nat} {s : Bool} (h : TabMem w b bp M vn V B L n P s) : b ≠ bp ∧ vn.ownBlock ≠ some b ∧ vn.ownBlock ≠ some bp := by
  refine ⟨fun e => ?_, fun e => ?_, fun e => ?_⟩
  · have h1 := h.obj; have h2 := h.places
    rw [e, h2] at h1
    simp [tabObj] at h1
  · have := own_type h.nodes e h.obj
    revert this; decide
  · have := own_type h.nodes e h.places
    revert this; decide
theorem TabMem.row {w : World} {b bp M : Nat} {vn : Value} {V B : Int} {L : Nat → Nd} {n : Nat} {P : Nat → Nat} {s : Bool} (h : TabMem w b bp M vn V B L n P s) :
    ∃ ao cap, vn = .slice ao n cap ∧ n ≤ cap ∧ cap ≤ maxLen ∧ (0 < n → ∃ g, ao = some ⟨g, 0, none⟩ ∧ g < w.heap.size ∧ NodeRow w g n L) := by
  obtain ⟨ao, cap, hv, hle, hm, hnone, hold⟩ := own_form h.nodes
  refine ⟨ao, cap, hv, hle, hm, fun h0 => ?_⟩
  cases ao with
  | none => have := hnone rfl; omega
  | some a =>
    obtain ⟨h4, h5, h6, _, h7⟩ := hold a rfl
    obtain ⟨bb, off, sp⟩ := a
    simp only at h4 h5 h6 h7
    subst h4; subst h5
    refine ⟨bb, rfl, h6, fun j hj => ⟨?_, ?_, ?_⟩⟩
    · exact h7 (j * 3) _ ((ndRow_get L 0 (by omega) n j hj).trans rfl)
    · exact h7 (j * 3 + 1) _ ((ndRow_get L 1 (by omega) n j hj).trans rfl)
    · exact h7 (j * 3 + 2) _ ((ndRow_get L 2 (by omega) n j hj).trans rfl)

theorem find_spec {w : World} {b bp M : Nat} {vn : Value} {V B : Int} {L : Nat → Nd} {n : Nat} {P : Nat → Nat} {s : Bool} (h : TabMem w b bp M vn V B L n P s) (m : Nat) (hp : Placed (startAt M) L m M P) (hmn : m ≤ n) (hM : M ≤ 1000000000000) (hn : n ≤ 1000000000000) (v lo hi : Int) :
    Calls Try.prog 80 #[.pointer (some ⟨b, 0, none⟩), .agg #[.int .i64 v, .int .i64 lo, .int .i64 hi]] w (FindPost (startAt M) L m M P (v, lo, hi) w) := by
  obtain ⟨ao, cap, hv, hle, hm, hrow⟩ := h.row
  have hM0 : 0 < M := by have := hp.lt; omega
  have hst := startAt_spec M hM0 (v, lo, hi)
  refine find_core (startAt M) L m n M b bp P v lo hi _ ao cap w hp hmn hM hn (fun W => hash_any v lo hi W) (hashF_range v lo hi).1 hst.1 hst.2 ?_ ?_ (fun j hj => ?_) hrow
  · rw [cell_of_heap h.obj, hv]; rfl
  · rw [cell_of_heap h.obj]; rfl
  · rw [cell_of_heap h.places, placeRow_get _ _ _ hj]
/-- A place is written. -/
theorem TabMem.put {w : World} {b bp M : Nat} {vn : Value} {V B : Int} {L : Nat → Nd} {n : Nat} {P : Nat → Nat} {s : Bool} (h : TabMem w b bp M vn V B L n P s) (at_ v : Nat) (hat : at_ < M) :
    TabMem (w.setCell ⟨bp, at_, none⟩ (.int .i64 (v : Int))) b bp M vn V B L n (setP P at_ v) s := by
  have hne := h.ne
  have kk := Keeps.setCell (S := fun k => k = bp) (Keeps.refl _ w) (p := ⟨bp, at_, none⟩) (fun _ => rfl) (.int .i64 (v : Int))
  refine ⟨(kk.block b (lt_of_heap h.obj) hne.1).trans h.obj, ?_, ownsRow_keeps' h.nodes kk (fun k hk e => ?_)⟩
  · rw [heap_set h.places, placeRow_set _ _ _ _ hat]
  · subst e; exact hne.2.2 hk
/-- A node has been put behind the others; it is not yet in the places. -/
def MidInv (b bp M : Nat) (ao : Option Addr) (n cap : Nat) (V B : Int) (L : Nat → Nd) (P : Nat → Nat) (s : Bool) (x : Nd) (wq wx : World) : Prop :=
  ∃ ao' cap', TabMem wx b bp M (.slice ao' (n + 1) cap') V B (addN L n x) (n + 1) P s ∧ Keeps (tabFp b bp (.slice ao n cap)) wq wx ∧ (∀ k, (Value.slice ao' (n + 1) cap').ownBlock = some k → (Value.slice ao n cap).ownBlock = some k ∨ wq.heap.size ≤ k)
theorem mid_of {wq W w2 : World} {b bp M n cap cap' : Nat} {ao ao' : Option Addr} {V B : Int} {L : Nat → Nd} {P : Nat → Nat} {s : Bool} {x : Nd} (kW : Keeps (fun _ => False) wq W) (t : TabMem wq b bp M (.slice ao n cap) V B L n P s)
    (hown : w2.ownsRow 0 103 3 (.slice ao' (n + 1) cap') (n + 1) (ndRow L n ++ ndCells x)) (hgr : W.grownBy w2 (Value.slice ao n cap).ownBlock) (hfp : ∀ k, (Value.slice ao' (n + 1) cap').ownBlock = some k → (Value.slice ao n cap).ownBlock = some k ∨ W.heap.size ≤ k) :
    MidInv b bp M ao n cap V B L P s x wq (w2.setCell ⟨b, 2, none⟩ (.slice ao' (n + 1) cap')) := by
  have tW := t.keeps kW (fun _ _ h => h)
  have hne := tW.ne
  have kg := keeps_grown hgr
  have ob := (kg.block b (lt_of_heap tW.obj) hne.2.1).trans tW.obj
  have pb := (kg.block bp (lt_of_heap tW.places) hne.2.2).trans tW.places
  have kk := Keeps.setCell (S := fun k => k = b) (Keeps.refl _ w2) (p := ⟨b, 2, none⟩) (fun _ => rfl) (.slice ao' (n + 1) cap')
  refine ⟨ao', cap', ⟨heap_set ob 2 _, (kk.block bp (lt_of_heap pb) (fun e => hne.1 e.symm)).trans pb, ?_⟩, ?_, fun k hk => ?_⟩
  · rw [ndRow_add]
    refine ownsRow_keeps' hown kk (fun k hk e => ?_)
    subst e
    rcases hfp _ hk with h | h
    · exact hne.2.1 h
    · have := lt_of_heap tW.obj; omega
  · refine Keeps.setCell (S := tabFp b bp (.slice ao n cap)) ?_ (p := ⟨b, 2, none⟩) (fun _ => .inl rfl) _
    exact (kW.mono (fun _ _ h => h.elim)).trans (kg.mono (fun k _ h => .inr (.inr h)))
  · rcases hfp k hk with h | h
    · exact .inl h
    · exact .inr (Nat.le_trans kW.size h)
end Go.Proofs.Ytloidoekmicloaa
