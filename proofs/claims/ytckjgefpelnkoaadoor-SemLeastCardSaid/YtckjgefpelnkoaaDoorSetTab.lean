/-
  A family of sets in memory; what is asked of it.
-/
import Derived.Test.YtckjgefpelnkoaaDoorSetOnes
import Derived.Test.YtckjgefpelnkoaaDoorKit2
import Derived.Deep.QuietTactic
import Derived.BigQuiet
import Derived.Deep.LoopGhost
import Derived.Deep.DeepCutAuto
set_option linter.unusedVariables false
set_option linter.unusedSimpArgs false
set_option linter.unnecessarySimpa false
namespace Go.Proofs.YtckjgefpelnkoaaDoor
open Go.ChangeShapes Go.WideShapes Go.ChangeAt Go.RowKit Go.Deep SetPlain

/-- A row of values by their places. -/
def fnRow (F : Nat → Value) (n : Nat) : Array Value := ((List.range n).map F).toArray
theorem fnRow_get (F : Nat → Value) (n j : Nat) (h : j < n) : (fnRow F n)[j]? = some (F j) := by simp [fnRow, h]
theorem fnRow_size (F : Nat → Value) (n : Nat) : (fnRow F n).size = n := by simp [fnRow]
theorem fnRow_congr {F G : Nat → Value} {n : Nat} (h : ∀ j, j < n → F j = G j) : fnRow F n = fnRow G n := by
  unfold fnRow
  congr 1
  exact List.map_congr_left fun j hj => h j (List.mem_range.1 hj)
theorem fnRow_set (F : Nat → Value) (n j : Nat) (v : Value) (h : j < n) : (fnRow F n).setIfInBounds j v = fnRow (fun i => if i = j then v else F i) n := by
  apply Array.ext_getElem?
  intro i
  rw [Array.getElem?_setIfInBounds]
  by_cases hij : j = i
  · subst hij
    rw [if_pos rfl, fnRow_get _ _ _ h]
    simp [fnRow, h]
  · rw [if_neg hij]
    rcases Nat.lt_or_ge i n with h1 | h1
    · rw [fnRow_get _ _ _ h1, fnRow_get _ _ _ h1, if_neg (fun e => hij e.symm)]
    · rw [Array.getElem?_eq_none (by simpa [fnRow] using h1), Array.getElem?_eq_none (by simpa [fnRow] using h1)]
theorem madeRow (z : Value) (n : Nat) : madeCells #[z] n = fnRow (fun _ => z) n := by
  apply Array.ext_getElem?
  intro i
  rcases Nat.lt_or_ge i n with h | h
  · rw [fnRow_get _ _ _ h]
    have := madeCells_get #[z] n i 0 z h rfl
    simpa using this
  · rw [Array.getElem?_eq_none (by simpa [size_madeCells] using h), Array.getElem?_eq_none (by simpa [fnRow] using h)]

def famObj (R C bw tot : Nat) : Obj := .cells #[.int .i64 R, .int .i64 C, .slice (some ⟨bw, 0, none⟩) R R, .int .i64 tot] 64 (0, 0)
def wordRow (p : Nat → Bool) (K : Nat) : Array Value := fnRow (fun k => .int .u64 (wordOf p k)) K
def rowSl (rb : Nat → Nat) (K : Nat) (i : Nat) : Value := .slice (some ⟨rb i, 0, none⟩) K K

/-- A family at b: who is in which set. -/
structure FamMem (w : World) (b bw : Nat) (rb : Nat → Nat) (R C : Nat) (In : Nat → Nat → Bool) (tot : Nat) : Prop where
  obj : w.heap[b]? = some (famObj R C bw tot)
  rows : w.heap[bw]? = some (.cells (fnRow (rowSl rb (wordsOf C)) R) 65 (0, 0))
  row : ∀ i, i < R → w.heap[rb i]? = some (.cells (wordRow (In i) (wordsOf C)) 69 (0, 0))
  inj : ∀ i j, i < R → j < R → rb i = rb j → i = j
  out : ∀ i c, C ≤ c → In i c = false
  hR : R ≤ 5000
  hC : C ≤ 1000
def famFp (b bw : Nat) (rb : Nat → Nat) (R : Nat) : Nat → Prop := fun k => k = b ∨ k = bw ∨ ∃ i, i < R ∧ k = rb i

/-- A set by its number; none of one that there isn't. -/
def rowP (R : Nat) (In : Nat → Nat → Bool) (i : Int) : Nat → Bool := if 0 ≤ i ∧ i < R then In i.toNat else fun _ => false
def rowV (rb : Nat → Nat) (R K : Nat) (i : Int) : Value := if 0 ≤ i ∧ i < R then rowSl rb K i.toNat else .slice none 0 0
def hasB (R C : Nat) (In : Nat → Nat → Bool) (i c : Int) : Bool := decide (0 ≤ c ∧ c < C) && rowP R In i c.toNat

theorem words_eql (W : World) (a : Option Addr) (n c : Nat) : (binOp .eql 65 (.slice a n c) (.slice none 0 0)).run Tryd.prog W = .ok (.bool a.isNone) W := Lib.run_eql_slice_nil W _ 69 a n c 0 0 Tryd.underlying65
theorem shr_bit (X v : Nat) (hX : X < 18446744073709551616) : (bits BinOp.and IntKind.u64 ((X : Int) / 2 ^ v) 1 == 1) = X.testBit v := by
  have e1 : ((X : Int) / 2 ^ v) = ((X / 2 ^ v : Nat) : Int) := by simp
  have hle : X / 2 ^ v < 18446744073709551616 := Nat.lt_of_le_of_lt (Nat.div_le_self _ _) hX
  have e2 := u64_and_nat (X / 2 ^ v) 1 hle (by decide)
  rw [e1]
  rw [show (1 : Int) = ((1 : Nat) : Int) from rfl, e2, Nat.and_one_is_mod, Nat.testBit_eq_decide_div_mod_eq]
  rw [Bool.eq_iff_iff]
  simp
  omega

section
variable {w : World} {b bw : Nat} {rb : Nat → Nat} {R C : Nat} {In : Nat → Nat → Bool} {tot : Nat}
theorem FamMem.keeps {w' : World} (h : FamMem w b bw rb R C In tot) {S : Nat → Prop} (hk : Keeps S w w') (hs : ∀ k, famFp b bw rb R k → ¬ S k) : FamMem w' b bw rb R C In tot :=
  ⟨(hk.block b (lt_of_heap h.obj) (hs b (.inl rfl))).trans h.obj, (hk.block bw (lt_of_heap h.rows) (hs bw (.inr (.inl rfl)))).trans h.rows,
    fun i hi => (hk.block (rb i) (lt_of_heap (h.row i hi)) (hs _ (.inr (.inr ⟨i, hi, rfl⟩)))).trans (h.row i hi), h.inj, h.out, h.hR, h.hC⟩
theorem FamMem.lt (h : FamMem w b bw rb R C In tot) : ∀ k, famFp b bw rb R k → k < w.heap.size := by
  intro k hk
  rcases hk with rfl | rfl | ⟨i, hi, rfl⟩
  · exact lt_of_heap h.obj
  · exact lt_of_heap h.rows
  · exact lt_of_heap (h.row i hi)
theorem FamMem.ne (h : FamMem w b bw rb R C In tot) : b ≠ bw ∧ ∀ i, i < R → rb i ≠ b ∧ rb i ≠ bw := by
  refine ⟨fun e => ?_, fun i hi => ⟨fun e => ?_, fun e => ?_⟩⟩
  · have h1 := h.obj; have h2 := h.rows
    rw [e, h2] at h1
    simp [famObj] at h1
  · have h1 := h.row i hi; have h2 := h.obj
    rw [e, h2] at h1
    simp [famObj] at h1
  · have h1 := h.row i hi; have h2 := h.rows
    rw [e, h2] at h1
    simp at h1

/-- What a row's value reads as. -/
def RowAt (w : World) (v : Value) (K : Nat) (p : Nat → Bool) : Prop :=
  (v = .slice none 0 0 ∧ ∀ j, p j = false) ∨ ∃ g, v = .slice (some ⟨g, 0, none⟩) K K ∧ g < w.heap.size ∧ ∀ k, k < K → w.cell? ⟨g, k, none⟩ = some (.int .u64 (wordOf p k))
theorem FamMem.at_ (h : FamMem w b bw rb R C In tot) (i : Int) : RowAt w (rowV rb R (wordsOf C) i) (wordsOf C) (rowP R In i) := by
  unfold rowV rowP
  by_cases hi : 0 ≤ i ∧ i < R
  · rw [if_pos hi, if_pos hi]
    exact .inr ⟨rb i.toNat, rfl, lt_of_heap (h.row _ (by omega)), fun k hk => by rw [cell_of_heap (h.row _ (by omega))]; exact fnRow_get _ _ _ hk⟩
  · rw [if_neg hi, if_neg hi]
    exact .inl ⟨rfl, fun _ => rfl⟩
theorem FamMem.rowOut (h : FamMem w b bw rb R C In tot) (i : Int) : ∀ c, C ≤ c → rowP R In i c = false := by
  intro c hc
  unfold rowP
  split
  · exact h.out _ _ hc
  · rfl

set_option maxRecDepth 10000 in
theorem frows_spec (h : FamMem w b bw rb R C In tot) : Calls Tryd.prog 35 #[.pointer (some ⟨b, 0, none⟩)] w fun e w' => e = .returned (.int .i64 R) ∧ w = w' := by
  have c0 : w.cell? ⟨b, 0, none⟩ = some (.int .i64 R) := by rw [cell_of_heap h.obj]; rfl
  go_enter Tryd.func35, Tryd.ntmps35
  go_wp2
  go_ret
  exact ⟨rfl, rfl⟩
set_option maxRecDepth 10000 in
set_option maxHeartbeats 800000 in
theorem frow_spec (h : FamMem w b bw rb R C In tot) (i : Int) : Calls Tryd.prog 32 #[.pointer (some ⟨b, 0, none⟩), .int .i64 i] w fun e w' => e = .returned (rowV rb R (wordsOf C) i) ∧ w = w' := by
  have HR := Lib.hid (frows_spec h)
  have hR := h.hR
  rcases Int.lt_or_le i 0 with h0 | h0
  · rw [show rowV rb R (wordsOf C) i = .slice none 0 0 from by unfold rowV; rw [if_neg (by omega)]]
    clear h
    go_enter Tryd.func32, Tryd.ntmps32
    go_wp2
    go_ret
    exact ⟨rfl, rfl⟩
  · rcases Int.lt_or_le i R with h1 | h1
    · obtain ⟨k, rfl⟩ : ∃ k : Nat, i = k := ⟨i.toNat, by omega⟩
      rw [show rowV rb R (wordsOf C) (k : Int) = .slice (some ⟨rb k, 0, none⟩) (wordsOf C) (wordsOf C) from by unfold rowV; rw [if_pos ⟨h0, h1⟩]; rfl]
      have c2 : w.cell? ⟨b, 2, none⟩ = some (.slice (some ⟨bw, 0, none⟩) R R) := by rw [cell_of_heap h.obj]; rfl
      have cr : w.cell? ⟨bw, k, none⟩ = some (.slice (some ⟨rb k, 0, none⟩) (wordsOf C) (wordsOf C)) := by rw [cell_of_heap h.rows]; exact fnRow_get _ _ _ (by omega)
      clear h
      go_enter Tryd.func32, Tryd.ntmps32
      go_wp2_with (go_at_call 35; refine HR.out.mono ?_; rintro e w' ⟨rfl, rfl⟩)
      go_ret
      exact ⟨rfl, rfl⟩
    · rw [show rowV rb R (wordsOf C) i = .slice none 0 0 from by unfold rowV; rw [if_neg (by omega)]]
      clear h
      go_enter Tryd.func32, Tryd.ntmps32
      go_wp2_with (go_at_call 35; refine HR.out.mono ?_; rintro e w' ⟨rfl, rfl⟩)
      go_ret
      exact ⟨rfl, rfl⟩

set_option maxRecDepth 10000 in
set_option maxHeartbeats 800000 in
theorem fhas_spec (h : FamMem w b bw rb R C In tot) (i c : Int) (hc0 : -9223372036854775808 ≤ c) (hc1 : c ≤ 9223372036854775807) : Calls Tryd.prog 25 #[.pointer (some ⟨b, 0, none⟩), .int .i64 i, .int .i64 c] w fun e w' => e = .returned (.bool (hasB R C In i c)) ∧ w = w' := by
  have HR := Lib.hid (frow_spec h i)
  have hat := h.at_ i
  have hC := h.hC
  have c1 : w.cell? ⟨b, 1, none⟩ = some (.int .i64 C) := by rw [cell_of_heap h.obj]; rfl
  unfold hasB
  generalize rowV rb R (wordsOf C) i = v at HR hat
  generalize rowP R In i = p at hat ⊢
  clear h
  rcases hat with ⟨rfl, hp⟩ | ⟨g, rfl, hg, hcell⟩
  · rw [hp, Bool.and_false]
    go_enter Tryd.func25, Tryd.ntmps25
    go_wp2_with (go_at_call 32; refine HR.out.mono ?_; rintro e w' ⟨rfl, rfl⟩)
    go_ret
    exact ⟨rfl, rfl⟩
  · have HC := Lib.hid hcell
    clear hcell
    rcases Int.lt_or_le c 0 with h0 | h0
    · rw [show decide (0 ≤ c ∧ c < (C : Int)) = false from by simp; omega, Bool.false_and]
      go_enter Tryd.func25, Tryd.ntmps25
      go_wp2_with (go_at_call 32; refine HR.out.mono ?_; rintro e w' ⟨rfl, rfl⟩)
      go_ret
      exact ⟨rfl, rfl⟩
    · rcases Int.lt_or_le c C with h1 | h1
      · rw [show decide (0 ≤ c ∧ c < (C : Int)) = true from by simp; omega, Bool.true_and]
        obtain ⟨m, rfl⟩ : ∃ m : Nat, c = m := ⟨c.toNat, by omega⟩
        have hK := wordsOf_lt C m (by omega)
        have hm := wordOf_bit p m
        have hl := wordOf_lt p (m / 64)
        have hb := shr_bit (wordOf p (m / 64)) (m % 64) hl
        rw [hm] at hb
        have cw := HC.out (m / 64) hK
        obtain ⟨q, hq⟩ : ∃ q, q = m / 64 := ⟨_, rfl⟩
        obtain ⟨j, hj⟩ : ∃ j, j = m % 64 := ⟨_, rfl⟩
        rw [← hq] at hK hb cw hl
        rw [← hj] at hb
        generalize wordOf p q = X at cw hb hl
        rw [show ((m : Int)).toNat = m from rfl]
        rw [← hb]
        have e1 : (m : Int) / 64 = (q : Int) := by omega
        have e2 : (m : Int) % 64 = (j : Int) := by omega
        have hKI : (q : Int) < (wordsOf C : Int) := by omega
        have hj64 : (j : Int) < 64 := by omega
        clear hm hb hq hj HC hl
        go_enter Tryd.func25, Tryd.ntmps25
        go_wp2_with (go_at_call 32; refine HR.out.mono ?_; rintro e w' ⟨rfl, rfl⟩)
        go_ret
        exact ⟨rfl, rfl⟩
      · rw [show decide (0 ≤ c ∧ c < (C : Int)) = false from by simp; omega, Bool.false_and]
        go_enter Tryd.func25, Tryd.ntmps25
        go_wp2_with (go_at_call 32; refine HR.out.mono ?_; rintro e w' ⟨rfl, rfl⟩)
        go_ret
        exact ⟨rfl, rfl⟩
end
end Go.Proofs.YtckjgefpelnkoaaDoor
